/- wire's writer: cmd. -/
import Derived.Test.YtnahkpfamocnfaaDoorWriter2
import Derived.Test.YtnahkpfamocnfaaDoorMsg0
import Derived.Deep.DeepCutAuto
namespace Go.Proofs.YtnahkpfamocnfaaDoor
open Go.RowKit
/-- Go's '& 7' of an int is the remainder by 8. -/
theorem and7 (k : Int) : bits .and .i64 k 7 = k % 8 := by
  show IntKind.i64.wrap ((BitVec.ofInt 64 k &&& BitVec.ofInt 64 7).toNat : Int) = _
  rw [BitVec.toNat_and]
  have h7 : (BitVec.ofInt 64 7).toNat = 2 ^ 3 - 1 := by decide
  rw [h7, Nat.and_two_pow_sub_one_eq_mod, BitVec.toNat_ofInt, IntKind.wrap_i64]
  have h2 : (0 : Int) ≤ k % ((2 : Int) ^ 64) := Int.emod_nonneg _ (by decide)
  have h3 : (((k % ((2 : Int) ^ 64)).toNat % 2 ^ 3 : Nat) : Int) = k % 8 := by
    rw [Int.natCast_emod, Int.toNat_of_nonneg h2]
    show k % 18446744073709551616 % 8 = k % 8
    omega
  have h4 : (((k % ((2 ^ 64 : Nat) : Int)).toNat % 2 ^ 3 : Nat) : Int) = k % 8 := h3
  rw [h4]
  omega
def kindB (k : Int) : Bool := decide (k < 1 ∨ 4 < k)
def Cut1 (T : TypeId) (base p : Nat) (v : Value) (st : St) (c : Cm) (A : Option Addr) (n k : Nat) (w : World) (wx : World) : Prop :=
  Wr T wx base p v st ∧ Blk wx w.heap.size 24 (cmdCells c A n k) ∧ WMoved p w wx v.ownBlock v.ownBlock
theorem Wr.fresh {T : TypeId} {w : World} {base p : Nat} {v : Value} {st : St} (h : Wr T w base p v st) : ¬ (w.heap.size = p ∨ some w.heap.size = v.ownBlock) := by
  rintro (e | e)
  · have := h.lt; omega
  · have := (h.row _ e.symm).2; omega
theorem take_len (c : Cm) (j : Nat) (st : St) (hs : smallC c) : ((c.writes.take j).foldl pairS (headS st c)).1.length ≤ st.1.length + 83888040 := by
  obtain ⟨_, _, M, h3, h4⟩ := hs
  have h1 := pairs_lenM M (c.writes.take j) (headS st c) (fun q hq => h4 q (List.mem_of_mem_take hq))
  have h2 := headS_len st c
  have h5 : (c.writes.take j).length * M ≤ c.writes.length * M := Nat.mul_le_mul_right _ (List.length_take_le' _ _)
  omega
def CmdRel (T : TypeId) (base p : Nat) (v : Value) (st : St) (c : Cm) (n : Nat) (w : World) (i : Value) (wr : World) : Prop :=
  ∃ (j : Nat) (v' : Value), i = .int .i64 j ∧ j ≤ n ∧ Wr T wr base p v' ((c.writes.take j).foldl pairS (headS st c)) ∧ WMoved p w wr v.ownBlock v'.ownBlock
set_option maxRecDepth 100000 in
set_option maxHeartbeats 1000000 in
theorem cmd_any (base p : Nat) (v : Value) (st : St) (c : Cm) (B : Nat) (A : Option Addr) (n k : Nat) (w : World) (hW : Wr 93 w base p v st) (hl : st.1.length ≤ 90000000000)
    (hc : smallC c) (hr : ReadsP w B A n c.writes) (hB : B ≤ w.heap.size) (hd : ∀ g off, A = some ⟨g, off, none⟩ → 0 < n → g ≠ p ∧ v.ownBlock ≠ some g) :
    Calls Tryd.prog 38 #[.pointer (some ⟨p, 0, none⟩), cmdV c A n k] w (WrPost 93 base p v (cmdS st c) w) := by
  have hn40 : n ≤ 4000 := by have := hc.1; rw [hr.1] at this; exact this
  unfold cmdV
  have HW := Lib.hid hW
  have hW0 := Lib.hid hW
  have hf1 : ∀ o, (w.alloc o).frozen? ⟨p, 1, none⟩ = false := fun o => (hW.alloc o).f 1
  have hc1 : ∀ o, (w.alloc o).cell? ⟨p, 1, none⟩ = some (.int .i64 st.2) := fun o => (hW.alloc o).c1
  have hpl := hW.lt
  clear hW
  go_enter Tryd.func38, Tryd.ntmps38
  go_upto_region 1 with (fail)
  go_cut [13] (fun s13 wx => ∃ b : Bool, s13 = .bool b ∧ RowKit.Hid (b = kindB c.kind) ∧ Cut1 93 base p v st c A n k w wx)
  case first =>
    by_cases h1 : c.kind < 1
    · have d1 : decide (c.kind < 1) = true := by simpa using h1
      have hk : kindB c.kind = true := by unfold kindB; rw [decide_eq_true (.inl h1)]
      have HK := Lib.hid hk; clear hk
      go_wp2_with fail
      go_meet
      exact ⟨true, rfl, HK.out.symm, HW.out.alloc _, Blk.new w _ _, WMoved.alloc p w _ _⟩
    · have d1 : decide (c.kind < 1) = false := by simpa using h1
      have hk : kindB c.kind = decide (4 < c.kind) := by unfold kindB; rw [decide_eq_decide]; omega
      have HK := Lib.hid hk; clear hk
      go_wp2_with fail
      go_meet
      exact ⟨_, rfl, HK.out.symm, HW.out.alloc _, Blk.new w _ _, WMoved.alloc p w _ _⟩
  case rest =>
    obtain ⟨b, rfl, hbk, hcut⟩ := hcut
    clear hf1 hc1
    have hq0 := hcut.1.f 1
    have hq1 := hcut.1.c1
    have HC := Lib.hid hcut; clear hcut
    go_upto_if 13 with (fail)
    go_cut [] (fun wx => Cut1 93 base p v (kindS st c.kind) c A n k w wx)
    case first =>
      rcases b with _ | _
      · have hk : kindS st c.kind = st := by unfold kindS; rw [if_neg (by have hb := hbk.out; unfold kindB at hb; simpa using hb.symm)]
        have HK := Lib.hid hk; clear hk
        go_wp2_with fail
        go_meet
        unfold Cut1
        rw [HK.out]
        exact HC.out
      · have hk : kindS st c.kind = (st.1, 1) := by unfold kindS; rw [if_pos (by have hb := hbk.out; unfold kindB at hb; simpa using hb.symm)]
        have HK := Lib.hid hk; clear hk
        go_wp2_with fail
        go_meet
        unfold Cut1
        rw [HK.out]
        exact ⟨HC.out.1.setBad 1, HC.out.2.1.far (by simp; omega) _, HC.out.2.2.trans (WMoved.setCell p _ 1 _ _)⟩
    case rest =>
      clear hq0 hq1 HC
      have hb3 := hcut.2.1.cell 3
      have hq0 := hcut.1.f 1
      have hq1 := hcut.1.c1
      have hlen : (c.writes.length : Int) = n := by rw [hr.1]
      simp only [cmdCells] at hb3
      have HC := Lib.hid hcut; clear hcut
      have HL := Lib.hid hlen; clear hlen
      go_upto_if 20 with (fail)
      go_cut [] (fun wx => Cut1 93 base p v (limS (kindS st c.kind) (decide (20 < c.writes.length))) c A n k w wx)
      case first =>
        by_cases h1 : (20 : Int) < n
        · have hk : limS (kindS st c.kind) (decide (20 < c.writes.length)) = ((kindS st c.kind).1, 4) := by unfold limS; rw [decide_eq_true (by have := HL.out; omega)]; rfl
          have HK := Lib.hid hk; clear hk
          go_wp2_with fail
          go_meet
          unfold Cut1
          rw [HK.out]
          exact ⟨HC.out.1.setBad 4, HC.out.2.1.far (by simp; omega) _, HC.out.2.2.trans (WMoved.setCell p _ 1 _ _)⟩
        · have hk : limS (kindS st c.kind) (decide (20 < c.writes.length)) = kindS st c.kind := by unfold limS; rw [decide_eq_false (by have := HL.out; omega)]; rfl
          have HK := Lib.hid hk; clear hk
          go_wp2_with fail
          go_meet
          unfold Cut1
          rw [HK.out]
          exact HC.out
      case rest =>
        clear hb3 hq0 hq1
        have hb0 := hcut.2.1.cell 0
        have hb1 := hcut.2.1.cell 1
        have hb2 := hcut.2.1.cell 2
        have hb3 := hcut.2.1.cell 3
        simp only [cmdCells] at hb0 hb1 hb2 hb3
        have ha := and7 c.kind
        have HA := Lib.hid ha; clear ha
        clear HC
        have HC := Lib.hid hcut; clear hcut
        go_wp2_with fail
        rw [HA.out]
        have hrn : Rd (wc.alloc (.cells #[.int .i64 (c.kind % 8), .int .i64 c.tx, .int .i64 c.time, .int .i64 n] 3)) (wc.heap.size + 1) 1 (some ⟨wc.heap.size, 0, none⟩) 4 ([c.kind % 8, c.tx, c.time, (n : Int)].map (Value.int .i64)) := by
          simpa using Rd.lit wc #[.int .i64 (c.kind % 8), .int .i64 c.tx, .int .i64 c.time, .int .i64 n] 3 4 1 rfl
        refine (num_any base p v _ [c.kind % 8, c.tx, c.time, (n : Int)] (wc.heap.size + 1) _ 4 4 _ (HC.out.1.alloc _) (by show st.1.length + _ ≤ _; omega) (by omega) hrn (by simp) (fun g off h _ => ?_)).mono ?_
        · injection h with h
          injection h with h1 h2
          subst h1
          exact ⟨fun e => by have := HC.out.1.lt; omega, fun e => by have := (HC.out.1.row _ e).2; omega⟩
        rintro e w1 ⟨v1, rfl, h1, h2⟩
        have hst : List.foldl numS (limS (kindS st c.kind) (decide (20 < c.writes.length))) [c.kind % 8, c.tx, c.time, (n : Int)] = headS st c := by
          rw [← HL.out]; rfl
        rw [hst] at h1
        have hB1 : Blk w1 w.heap.size 24 (cmdCells c A n k) := h2.1.blk (HC.out.2.1.alloc _) (by
          rintro (e | e)
          · omega
          · have := (HC.out.1.row _ e.symm).2
            have := (hW0.out.row _ e.symm).2
            omega)
        have hb3' := hB1.cell 3
        simp only [cmdCells] at hb3'
        have hm : WMoved p w w1 v.ownBlock v1.ownBlock := (HC.out.2.2.trans (WMoved.alloc p _ _ _)).trans h2
        have H1 := Lib.hid h1; clear h1 hst
        go_wp2_with fail
        clear hb0 hb1 hb2 hb3 hb3'
        go_loopw [40] (CmdRel 93 base p v st c n w) (fun i _ => n - (intOf i).toNat)
        case atStart => exact ⟨0, v1, rfl, Nat.zero_le _, H1.out, hm⟩
        case round =>
          clear H1 hB1 hm HC HL HA
          obtain ⟨j, v', rfl, hj, hW', hm⟩ := hrel
          by_cases hlt : (j : Int) < n
          · obtain ⟨g, off, q, rfl, hab, hx, hk0, hk1, hk2⟩ := hr.at_ (k := j) (by omega)
            have hcar : ∀ (o : Nat) (u : Value), w.cell? ⟨g, o, none⟩ = some u → wr.cell? ⟨g, o, none⟩ = some u := fun o u h => by
              rw [hm.1.cell (p := ⟨g, o, none⟩) (by show g < _; omega) (by rintro (e | e); exact (hd g off rfl (by omega)).1 e; exact (hd g off rfl (by omega)).2 e.symm)]
              exact h
            have hq0 := hcar _ _ hk0
            have hq1 := hcar _ _ hk1
            have hq2 := hcar _ _ hk2
            clear hk0 hk1 hk2
            have HX := Lib.hid hx; clear hx
            have HCA := Lib.hid hcar; clear hcar
            have HW' := Lib.hid hW'; clear hW'
            have HS := Lib.hid hc; clear hc
            have hlen := take_len c j st HS.out
            have hqs : small q := HS.out.2.1 q (List.mem_of_getElem? HX.out)
            have hq3 := hqs.1
            have hq4 := hqs.2
            have hfr : ¬ (wr.heap.size = p ∨ some wr.heap.size = v'.ownBlock) := HW'.out.fresh
            have HFR := Lib.hid hfr; clear hfr
            have htl := textS_len ((c.writes.take j).foldl pairS (headS st c)) q.key 20
            have hnl : ∀ x, (numS (textS ((c.writes.take j).foldl pairS (headS st c)) q.key 20) x).1.length ≤ (textS ((c.writes.take j).foldl pairS (headS st c)) q.key 20).1.length + 10 := fun x => numS_len _ x
            have HNL := Lib.hid hnl; clear hnl
            go_wp2_with fail
            refine (text_any base p v' _ q.key 20 _ (HW'.out.alloc _) (by omega)).mono ?_
            rintro e w2 ⟨v2, rfl, h21, h22⟩
            have hB2 : Blk w2 wr.heap.size 123 #[.string q.key, .string q.val, .bool q.gone] := h22.1.blk (Blk.new wr _ _) HFR.out
            have hy2 : w2.cell? ⟨wr.heap.size, 2, none⟩ = some (.bool q.gone) := hB2.cell 2
            have H21 := Lib.hid h21; clear h21 hq0 hq1 hq2
            go_wp2_with fail
            refine (truth_any base p v2 _ q.gone w2 H21.out (by omega)).mono ?_
            rintro e w3 ⟨v3, rfl, h31, h32⟩
            have hfr3 : ¬ (wr.heap.size = p ∨ some wr.heap.size = v2.ownBlock) := by
              rintro (e | e)
              · exact HFR.out (.inl e)
              · rcases h22.2 with h | ⟨g', h, hg⟩
                · exact HFR.out (.inr (e.trans h))
                · rw [h] at e; injection e with e; simp at hg; omega
            have hB3 : Blk w3 wr.heap.size 123 #[.string q.key, .string q.val, .bool q.gone] := h32.1.blk hB2 hfr3
            have hz2 : w3.cell? ⟨wr.heap.size, 2, none⟩ = some (.bool q.gone) := hB3.cell 2
            have hz1 : w3.cell? ⟨wr.heap.size, 1, none⟩ = some (.string q.val) := hB3.cell 1
            have hm3 : WMoved p w w3 v.ownBlock v3.ownBlock := ((hm.trans (WMoved.alloc p _ _ _)).trans h22).trans h32
            have H31 := Lib.hid h31; clear h31 hy2 hfr3
            have hn0 := HNL.out (b2i q.gone)
            have hst : (c.writes.take (j + 1)).foldl pairS (headS st c) = pairS ((c.writes.take j).foldl pairS (headS st c)) q := foldl_take pairS c.writes _ j q HX.out
            have HST := Lib.hid hst; clear hst
            rcases hgone : q.gone with _ | _
            · rw [hgone] at hz2
              have H31' : RowKit.Hid (Wr 93 w3 base p v3 (numS (textS ((c.writes.take j).foldl pairS (headS st c)) q.key 20) 0)) := by have := H31.out; rw [hgone] at this; exact this
              have hn1 := HNL.out 0
              have HG := Lib.hid hgone; clear hgone
              go_wp2_with fail
              refine (text_any base p v3 _ q.val 40 w3 H31'.out (by omega)).mono ?_
              rintro e w4 ⟨v4, rfl, h41, h42⟩
              have H41 := Lib.hid h41; clear h41
              go_wp2_with fail
              go_roundw
              case rel =>
                refine ⟨j + 1, v4, rfl, by omega, ?_, hm3.trans h42⟩
                rw [HST.out, pairS, HG.out]
                exact H41.out
              case measure => simp [intOf]; omega
            · rw [hgone] at hz2
              have H31' : RowKit.Hid (Wr 93 w3 base p v3 (numS (textS ((c.writes.take j).foldl pairS (headS st c)) q.key 20) 1)) := by have := H31.out; rw [hgone] at this; exact this
              have HG := Lib.hid hgone; clear hgone
              go_wp2_with fail
              go_roundw
              case rel =>
                refine ⟨j + 1, v3, rfl, by omega, ?_, hm3⟩
                rw [HST.out, pairS, HG.out]
                exact H31'.out
              case measure => simp [intOf]; omega
          · have hjn : j = n := by omega
            subst hjn
            have HW' := Lib.hid hW'; clear hW'
            go_wp2_with fail
            go_end0
            refine ⟨v', rfl, ?_, hm⟩
            have h := HW'.out
            rw [List.take_of_length_le (Nat.le_of_eq hr.1)] at h
            exact h
end Go.Proofs.YtnahkpfamocnfaaDoor
