/- chainmailref's pen: cmd. -/
import Derived.Test.YtnahkpfamocnfaaDoorPen2
namespace Go.Proofs.YtnahkpfamocnfaaDoor
open Go.RowKit
theorem tmod8w (k : Int) : (wrap64 (k.tmod 8 + 8)).tmod 8 = k % 8 := by
  have h1 : k.tmod 8 = if 0 ≤ k ∨ (8 : Int) ∣ k then k % 8 else k % 8 - 8 := by
    rw [Int.tmod_eq_emod]; split <;> simp
  have h2 : -8 ≤ k.tmod 8 ∧ k.tmod 8 ≤ 8 := by
    rw [h1]; split <;> omega
  rw [IntWalk.wrap64_in _ ⟨by omega, by omega⟩]
  exact tmod8 k
set_option maxRecDepth 100000 in
set_option maxHeartbeats 1000000 in
theorem pcmd_any (base p : Nat) (v : Value) (st : St) (c : Cm) (B : Nat) (A : Option Addr) (n k : Nat) (w : World) (hW : Wr 88 w base p v st) (hl : st.1.length ≤ 90000000000)
    (hc : smallC c) (hr : ReadsP w B A n c.writes) (hB : B ≤ w.heap.size) (hd : ∀ g off, A = some ⟨g, off, none⟩ → 0 < n → g ≠ p ∧ v.ownBlock ≠ some g) :
    Calls Tryd.prog 36 #[.pointer (some ⟨p, 0, none⟩), cmdV c A n k] w (WrPost 88 base p v (cmdS st c) w) := by
  have hn40 : n ≤ 4000 := by have := hc.1; rw [hr.1] at this; exact this
  unfold cmdV
  have HW := Lib.hid hW
  have hW0 := Lib.hid hW
  have hf1 : ∀ o, (w.alloc o).frozen? ⟨p, 1, none⟩ = false := fun o => (hW.alloc o).f 1
  have hc1 : ∀ o, (w.alloc o).cell? ⟨p, 1, none⟩ = some (.int .i64 st.2) := fun o => (hW.alloc o).c1
  have hpl := hW.lt
  clear hW
  go_enter Tryd.func36, Tryd.ntmps36
  go_upto_region 1 with (fail)
  go_cut [13] (fun s13 wx => ∃ b : Bool, s13 = .bool b ∧ RowKit.Hid (b = kindB c.kind) ∧ Cut1 88 base p v st c A n k w wx)
  case first =>
    by_cases h1 : c.kind < 1
    · have d1 : decide (c.kind < 1) = true := by simpa using h1
      have hk : kindB c.kind = true := by unfold kindB; rw [decide_eq_true (.inl h1)]
      have HK := Lib.hid hk; clear hk
      go_wp2_with fail
      go_meet
      exact ⟨true, rfl, HK.out.symm, HW.out.alloc _, Blk.new w _ _, WMoved.alloc p w _ _⟩
    · have d1 : decide (c.kind < 1) = false := by simpa using h1
      have hk : kindB c.kind = decide (4 < c.kind) := by unfold kindB; rw [decide_eq_decide]; omega
      have HK := Lib.hid hk; clear hk
      go_wp2_with fail
      go_meet
      exact ⟨_, rfl, HK.out.symm, HW.out.alloc _, Blk.new w _ _, WMoved.alloc p w _ _⟩
  case rest =>
    obtain ⟨b, rfl, hbk, hcut⟩ := hcut
    clear hf1 hc1
    have hq0 := hcut.1.f 1
    have hq1 := hcut.1.c1
    have HC := Lib.hid hcut; clear hcut
    go_upto_if 13 with (fail)
    go_cut [] (fun wx => Cut1 88 base p v (kindS st c.kind) c A n k w wx)
    case first =>
      rcases b with _ | _
      · have hk : kindS st c.kind = st := by unfold kindS; rw [if_neg (by have hb := hbk.out; unfold kindB at hb; simpa using hb.symm)]
        have HK := Lib.hid hk; clear hk
        go_wp2_with fail
        go_meet
        unfold Cut1
        rw [HK.out]
        exact HC.out
      · have hk : kindS st c.kind = (st.1, 1) := by unfold kindS; rw [if_pos (by have hb := hbk.out; unfold kindB at hb; simpa using hb.symm)]
        have HK := Lib.hid hk; clear hk
        go_wp2_with fail
        go_meet
        unfold Cut1
        rw [HK.out]
        exact ⟨HC.out.1.setBad 1, HC.out.2.1.far (by simp; omega) _, HC.out.2.2.trans (WMoved.setCell p _ 1 _ _)⟩
    case rest =>
      clear hq0 hq1 HC
      have hb3 := hcut.2.1.cell 3
      have hq0 := hcut.1.f 1
      have hq1 := hcut.1.c1
      have hlen : (c.writes.length : Int) = n := by rw [hr.1]
      simp only [cmdCells] at hb3
      have HC := Lib.hid hcut; clear hcut
      have HL := Lib.hid hlen; clear hlen
      go_upto_if 20 with (fail)
      go_cut [] (fun wx => Cut1 88 base p v (limS (kindS st c.kind) (decide (20 < c.writes.length))) c A n k w wx)
      case first =>
        by_cases h1 : (20 : Int) < n
        · have hk : limS (kindS st c.kind) (decide (20 < c.writes.length)) = ((kindS st c.kind).1, 4) := by unfold limS; rw [decide_eq_true (by have := HL.out; omega)]; rfl
          have HK := Lib.hid hk; clear hk
          go_wp2_with fail
          go_meet
          unfold Cut1
          rw [HK.out]
          exact ⟨HC.out.1.setBad 4, HC.out.2.1.far (by simp; omega) _, HC.out.2.2.trans (WMoved.setCell p _ 1 _ _)⟩
        · have hk : limS (kindS st c.kind) (decide (20 < c.writes.length)) = kindS st c.kind := by unfold limS; rw [decide_eq_false (by have := HL.out; omega)]; rfl
          have HK := Lib.hid hk; clear hk
          go_wp2_with fail
          go_meet
          unfold Cut1
          rw [HK.out]
          exact HC.out
      case rest =>
        clear hb3 hq0 hq1
        have hb0 := hcut.2.1.cell 0
        have hb1 := hcut.2.1.cell 1
        have hb2 := hcut.2.1.cell 2
        have hb3 := hcut.2.1.cell 3
        simp only [cmdCells] at hb0 hb1 hb2 hb3
        have ha := tmod8w c.kind
        have HA := Lib.hid ha; clear ha
        clear HC
        have HC := Lib.hid hcut; clear hcut
        have hn1 := numS_len (limS (kindS st c.kind) (decide (20 < c.writes.length))) (c.kind % 8)
        have hn0 : (limS (kindS st c.kind) (decide (20 < c.writes.length))).1.length = st.1.length := rfl
        have hn2 := numS_len (numS (limS (kindS st c.kind) (decide (20 < c.writes.length))) (c.kind % 8)) c.tx
        have hn3 := numS_len (numS (numS (limS (kindS st c.kind) (decide (20 < c.writes.length))) (c.kind % 8)) c.tx) c.time
        rw [hn0] at hn1
        clear hn0
        have hq0 : ¬ (w.heap.size = p ∨ some w.heap.size = v.ownBlock) := hW0.out.fresh
        have HQ := Lib.hid hq0; clear hq0
        have hwl : w.heap.size < wc.heap.size := HC.out.2.1.lt
        have key : ∀ (wx : World) (vx : Value), WMoved p wc wx v.ownBlock vx.ownBlock → Blk wx w.heap.size 24 (cmdCells c A n k) → ∀ (wy : World) (vy : Value), WMoved p wx wy vx.ownBlock vy.ownBlock → Blk wy w.heap.size 24 (cmdCells c A n k) := fun wx vx hm hb wy vy hm2 => by
          refine hm2.1.blk hb ?_
          rintro (e | e)
          · exact HQ.out (.inl e)
          · rcases hm.2 with h | ⟨g', h, hg⟩
            · exact HQ.out (.inr (e.trans h))
            · rw [h] at e; injection e with e; omega
        have KEY := Lib.hid key; clear key
        go_wp2_with fail
        rw [HA.out]
        refine (pnum_any base p v _ (c.kind % 8) wc HC.out.1 (by show st.1.length ≤ _; omega)).mono ?_
        rintro e w1 ⟨v1, rfl, h1, h2⟩
        have hB1 := KEY.out wc v (WMoved.refl _ _ _) HC.out.2.1 w1 v1 h2
        have hb1' := hB1.cell 1
        simp only [cmdCells] at hb1'
        have H1 := Lib.hid h1; clear h1
        clear hb0 hb1 hb2 hb3
        go_wp2_with fail
        refine (pnum_any base p v1 _ c.tx w1 H1.out (by omega)).mono ?_
        rintro e w2 ⟨v2, rfl, h1, h3⟩
        have hB2 := KEY.out w1 v1 h2 hB1 w2 v2 h3
        have h4 := h2.trans h3
        have hb2' := hB2.cell 2
        simp only [cmdCells] at hb2'
        clear H1 h2 h3 hb1'
        have H1 := Lib.hid h1; clear h1
        go_wp2_with fail
        refine (pnum_any base p v2 _ c.time w2 H1.out (by omega)).mono ?_
        rintro e w3 ⟨v3, rfl, h1, h3⟩
        have hB3 := KEY.out w2 v2 h4 hB2 w3 v3 h3
        have h5 := h4.trans h3
        have hb3' := hB3.cell 3
        simp only [cmdCells] at hb3'
        clear H1 h4 h3 hb2'
        have H1 := Lib.hid h1; clear h1
        go_wp2_with fail
        refine (pnum_any base p v3 _ (n : Int) w3 H1.out (by omega)).mono ?_
        rintro e w4 ⟨v4, rfl, h1, h3⟩
        have hB4 := KEY.out w3 v3 h5 hB3 w4 v4 h3
        have hm : WMoved p w w4 v.ownBlock v4.ownBlock := HC.out.2.2.trans (h5.trans h3)
        clear h5 h3 hb3' H1
        have hb3' := hB4.cell 3
        simp only [cmdCells] at hb3'
        have hst : numS (numS (numS (numS (limS (kindS st c.kind) (decide (20 < c.writes.length))) (c.kind % 8)) c.tx) c.time) (n : Int) = headS st c := by
          rw [← HL.out]; rfl
        rw [hst] at h1
        have H1 := Lib.hid h1; clear h1 hst
        clear hn1 hn2 hn3
        go_wp2_with fail
        clear hb3'
        go_loopw [47] (CmdRel 88 base p v st c n w) (fun i _ => n - (intOf i).toNat)
        case atStart => exact ⟨0, v4, rfl, Nat.zero_le _, H1.out, hm⟩
        case round =>
          clear H1 hB1 hB2 hB3 hB4 hm HC HL HA KEY HQ
          obtain ⟨j, v', rfl, hj, hW', hm⟩ := hrel
          by_cases hlt : (j : Int) < n
          · obtain ⟨g, off, q, rfl, hab, hx, hk0, hk1, hk2⟩ := hr.at_ (k := j) (by omega)
            have hcar : ∀ (o : Nat) (u : Value), w.cell? ⟨g, o, none⟩ = some u → wr.cell? ⟨g, o, none⟩ = some u := fun o u h => by
              rw [hm.1.cell (p := ⟨g, o, none⟩) (by show g < _; omega) (by rintro (e | e); exact (hd g off rfl (by omega)).1 e; exact (hd g off rfl (by omega)).2 e.symm)]
              exact h
            have hq0 := hcar _ _ hk0
            have hq1 := hcar _ _ hk1
            have hq2 := hcar _ _ hk2
            clear hk0 hk1 hk2
            have HX := Lib.hid hx; clear hx
            have HCA := Lib.hid hcar; clear hcar
            have HW' := Lib.hid hW'; clear hW'
            have HS := Lib.hid hc; clear hc
            have hlen := take_len c j st HS.out
            have hqs : small q := HS.out.2.1 q (List.mem_of_getElem? HX.out)
            have hq3 := hqs.1
            have hq4 := hqs.2
            have hfr : ¬ (wr.heap.size = p ∨ some wr.heap.size = v'.ownBlock) := HW'.out.fresh
            have HFR := Lib.hid hfr; clear hfr
            have htl := textS_len ((c.writes.take j).foldl pairS (headS st c)) q.key 20
            have hnl : ∀ x, (numS (textS ((c.writes.take j).foldl pairS (headS st c)) q.key 20) x).1.length ≤ (textS ((c.writes.take j).foldl pairS (headS st c)) q.key 20).1.length + 10 := fun x => numS_len _ x
            have HNL := Lib.hid hnl; clear hnl
            go_wp2_with fail
            refine (ptext_any base p v' _ q.key 20 _ (HW'.out.alloc _) (by omega)).mono ?_
            rintro e w2 ⟨v2, rfl, h21, h22⟩
            have hB2 : Blk w2 wr.heap.size 123 #[.string q.key, .string q.val, .bool q.gone] := h22.1.blk (Blk.new wr _ _) HFR.out
            have hy2 : w2.cell? ⟨wr.heap.size, 2, none⟩ = some (.bool q.gone) := hB2.cell 2
            have H21 := Lib.hid h21; clear h21 hq0 hq1 hq2
            have hfr3 : ¬ (wr.heap.size = p ∨ some wr.heap.size = v2.ownBlock) := by
              rintro (e | e)
              · exact HFR.out (.inl e)
              · rcases h22.2 with h | ⟨g', h, hg⟩
                · exact HFR.out (.inr (e.trans h))
                · rw [h] at e; injection e with e; simp at hg; omega
            have HF3 := Lib.hid hfr3; clear hfr3
            have hst : (c.writes.take (j + 1)).foldl pairS (headS st c) = pairS ((c.writes.take j).foldl pairS (headS st c)) q := foldl_take pairS c.writes _ j q HX.out
            have HST := Lib.hid hst; clear hst
            rcases hgone : q.gone with _ | _
            · rw [hgone] at hy2
              have HG := Lib.hid hgone; clear hgone
              go_wp2_with fail
              refine (pnum_any base p v2 _ 0 w2 H21.out (by omega)).mono ?_
              rintro e w3 ⟨v3, rfl, h31, h32⟩
              have hB3 : Blk w3 wr.heap.size 123 #[.string q.key, .string q.val, .bool q.gone] := h32.1.blk hB2 HF3.out
              have hz1 : w3.cell? ⟨wr.heap.size, 1, none⟩ = some (.string q.val) := hB3.cell 1
              have hm3 : WMoved p w w3 v.ownBlock v3.ownBlock := ((hm.trans (WMoved.alloc p _ _ _)).trans h22).trans h32
              have H31 := Lib.hid h31; clear h31 hy2
              have hn0 := HNL.out 0
              go_wp2_with fail
              refine (ptext_any base p v3 _ q.val 40 w3 H31.out (by omega)).mono ?_
              rintro e w4 ⟨v4, rfl, h41, h42⟩
              have H41 := Lib.hid h41; clear h41
              go_wp2_with fail
              go_roundw
              case rel =>
                refine ⟨j + 1, v4, rfl, by omega, ?_, hm3.trans h42⟩
                rw [HST.out, pairS, HG.out]
                exact H41.out
              case measure => simp [intOf]; omega
            · rw [hgone] at hy2
              have HG := Lib.hid hgone; clear hgone
              go_wp2_with fail
              refine (pnum_any base p v2 _ 1 w2 H21.out (by omega)).mono ?_
              rintro e w3 ⟨v3, rfl, h31, h32⟩
              have hm3 : WMoved p w w3 v.ownBlock v3.ownBlock := ((hm.trans (WMoved.alloc p _ _ _)).trans h22).trans h32
              have H31 := Lib.hid h31; clear h31 hy2
              go_wp2_with fail
              go_roundw
              case rel =>
                refine ⟨j + 1, v3, rfl, by omega, ?_, hm3⟩
                rw [HST.out, pairS, HG.out]
                exact H31.out
              case measure => simp [intOf]; omega
          · have hjn : j = n := by omega
            subst hjn
            have HW' := Lib.hid hW'; clear hW'
            go_wp2_with fail
            go_end0
            refine ⟨v', rfl, ?_, hm⟩
            have h := HW'.out
            rw [List.take_of_length_le (Nat.le_of_eq hr.1)] at h
            exact h
end Go.Proofs.YtnahkpfamocnfaaDoor
