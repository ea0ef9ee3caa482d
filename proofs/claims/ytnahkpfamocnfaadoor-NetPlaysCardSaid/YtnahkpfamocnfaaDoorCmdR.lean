/- wire's reader: cmd. -/
import Derived.Test.YtnahkpfamocnfaaDoorCmdP
import Derived.Deep.DeepCutAuto
namespace Go.Proofs.YtnahkpfamocnfaaDoor
open Go.RowKit
theorem scan_max {k : Bool} : ∀ (l : List Nat) (i acc v : Nat) (r : List Nat), acc < 128 ^ i → scan k i acc l = some (v, r) → v ≤ 4398046511104
  | [], i, acc, v, r, _, h => by simp [scan] at h
  | c :: l, i, acc, v, r, ha, h => by
    have hst := acc_lt (x := c) ha
    simp only [scan] at h
    split at h
    · cases h
    · rename_i h5
      have h5 : i ≤ 5 := by omega
      split at h
      · injection h with h; injection h with h _
        have := pow_small (j := i + 1) (by omega)
        omega
      · exact scan_max l _ _ _ _ hst h
theorem numR_max (k : Bool) (s : RS) : (numR k s).1 ≤ 4398046511104 := by
  unfold numR
  split
  · rename_i h; exact scan_max _ _ _ _ _ (by simp) h
  · exact Nat.zero_le _
theorem pairsR_stop {k : Bool} {m : Nat} {s : RS} {acc : List Pr} (h : m = 0 ∨ s.2 = true) : pairsR k m s acc = (acc, s) := by
  cases m with
  | zero => rfl
  | succ m => unfold pairsR; rw [if_pos (by simpa using h)]
theorem pairsR_go {k : Bool} {m : Nat} {s : RS} {acc : List Pr} (h : 0 < m) (hs : s.2 = false) : pairsR k m s acc = pairsR k (m - 1) (pairR k s).2 (acc ++ [(pairR k s).1]) := by
  obtain ⟨m, rfl⟩ : ∃ q, m = q + 1 := ⟨m - 1, by omega⟩
  conv => lhs; unfold pairsR
  rw [if_neg (by simp [hs])]
  rfl
def CmRel (T : TypeId) (k : Bool) (w : World) (B p g2 g3 : Nat) (x y z : Int) (n0 N : Nat) (s0 : RS) (v4 : Value) (wr : World) : Prop :=
  ∃ (m : Nat) (sj : RS) (acc : List Pr) (V : Value), v4 = .int .i64 m ∧ m ≤ 4398046511104 ∧ pairsR k N s0 [] = pairsR k m sj acc ∧ CmI T w B p g2 g3 x y z n0 sj acc V wr
set_option maxRecDepth 100000 in
set_option maxHeartbeats 2000000 in
theorem rcmd_any (B p : Nat) (A : Option Addr) (n c : Nat) (s : RS) (w : World) (hn : n ≤ 100000) (hW : Rdr 118 w B p A n c s) :
    Calls Tryd.prog 48 #[.pointer (some ⟨p, 0, none⟩)] w (CPost 118 true B p s w) := by
  have hpl := hW.1.lt
  have hln := hW.len
  have hm1 := numR_max true
  have hfl := fourR_len true s
  rcases hq1 : numR true s with ⟨x, s1⟩
  rcases hq2 : numR true s1 with ⟨y, s2⟩
  rcases hq3 : numR true s2 with ⟨z, s3⟩
  rcases hq4 : numR true s3 with ⟨N, l4, b4⟩
  have hfour : fourR true s = (x, y, z, N, (l4, b4)) := by unfold fourR; rw [hq1]; dsimp only; rw [hq2]; dsimp only; rw [hq3]; dsimp only; rw [hq4]
  have hN : N ≤ 4398046511104 := by have := hm1 s3; rw [hq4] at this; exact this
  rw [hfour] at hfl
  have hcmd : cmdR true s = (⟨x, y, z, (pairsR true N (l4, b4 || cmdBad true x N) []).1⟩, (pairsR true N (l4, b4 || cmdBad true x N) []).2) := by unfold cmdR; rw [hfour]
  have HCMD := Lib.hid hcmd; clear hcmd hfour hm1
  have HFL := Lib.hid hfl; clear hfl
  have hl4 : l4.length ≤ n := by have := HFL.out.1; dsimp only at this; omega
  have h0 := hW.below (Below.refl w.heap.size w |>.alloc (Nat.le_refl _) (.cells #[.int .i64 0, .int .i64 0, .int .i64 0, .slice none 0 0] 24)) hpl
  have H0 := Lib.hid h0; clear h0 hW
  have hr1 := fun B p A n c w h => rnum_any B p A n c s w h
  have hr2 := fun B p A n c w h => rnum_any B p A n c s1 w h
  have hr3 := fun B p A n c w h => rnum_any B p A n c s2 w h
  have hr4 := fun B p A n c w h => rnum_any B p A n c s3 w h
  rw [hq1] at hr1
  rw [hq2] at hr2
  rw [hq3] at hr3
  rw [hq4] at hr4
  have HR1 := Lib.hid hr1; clear hr1 hq1
  have HR2 := Lib.hid hr2; clear hr2 hq2
  have HR3 := Lib.hid hr3; clear hr3 hq3
  have HR4 := Lib.hid hr4; clear hr4 hq4
  go_enter Tryd.func48, Tryd.ntmps48
  go_wp2_with fail
  refine (HR1.out _ _ _ _ _ _ H0.out).mono ?_
  rintro e w1 ⟨A1, n1, c1, rfl, hR1, hF1⟩
  have HRd1 := Lib.hid hR1; clear hR1
  have HF1 := Lib.hid hF1; clear hF1
  go_wp2_with fail
  refine (HR2.out _ _ _ _ _ _ HRd1.out).mono ?_
  rintro e w2 ⟨A2, n2, c2, rfl, hR2, hF2⟩
  have HF2 := Lib.hid (HF1.out.trans hF2); clear hF2
  have HRd2 := Lib.hid hR2; clear hR2
  go_wp2_with fail
  refine (HR3.out _ _ _ _ _ _ HRd2.out).mono ?_
  rintro e w3 ⟨A3, n3, c3, rfl, hR3, hF3⟩
  have HF3 := Lib.hid (HF2.out.trans hF3); clear hF3
  have HRd3 := Lib.hid (hR3.below (Below.refl w3.heap.size w3 |>.alloc (Nat.le_refl _) (.cells #[.int .i64 x, .int .i64 y, .int .i64 z, .slice none 0 0] 24)) hR3.1.lt); clear hR3
  go_wp2_with fail
  refine (HR4.out _ _ _ _ _ _ HRd3.out).mono ?_
  rintro e w4 ⟨A4, n4, c4, rfl, hR4, hF4⟩
  have hsz3 := HF3.out.size
  simp only [World.size_alloc] at hsz3
  have hci : CmI 118 w B p w.heap.size w3.heap.size x y z n (l4, b4) [] (.slice none 0 0) w4 := by
    have hf30 : Fr (fun k => k = p) w w3 := ((Fr.refl (fun k => k = p) w).alloc _).trans HF3.out
    refine ⟨⟨_, _, _, hR4⟩, World.ownsRow_nil _ _ _ _, ?_, ?_, by omega, Nat.le_refl _, hpl, (hf30.alloc _).trans hF4, hl4, by simp, fun _ => by simpa using hl4⟩
    · exact hF4.blk (Blk.new w3 _ _) (by omega)
    · exact hF4.blk ((HF3.out.blk (Blk.new w _ _) (by omega)).alloc _) (by omega)
  have HCI := Lib.hid hci; clear hci
  have hc1 := hR4.1.cell 1
  have hfz1 := hR4.1.frozen 1
  dsimp only at hc1
  have hk0 := HCI.out.b3.cell 0
  have hg3l := HCI.out.b3.lt
  have hsb : ∀ v : Bool, v = (b4 || cmdBad true x N) → CmI 118 w B p w.heap.size w3.heap.size x y z n (l4, b4 || cmdBad true x N) [] (.slice none 0 0) (w4.setCell ⟨p, 1, none⟩ (.bool v)) := fun v hv => by
    subst hv
    have h := HCI.out
    have hs := Fr.set1 p w4 1 (.bool (b4 || cmdBad true x N))
    exact ⟨⟨_, _, _, hR4.bad _⟩, World.ownsRow_nil _ _ _ _, hs.blk h.b3 (by omega), hs.blk h.b2 (by omega), h.lt23, h.base, h.pw, h.fr.trans hs, hl4, by simp, fun _ => by simpa using hl4⟩
  have HSB := Lib.hid hsb; clear hsb hR4 hF4 HCI
  go_upto_region 3 with (fail)
  go_cut [] (fun wx => CmI 118 w B p w.heap.size w3.heap.size x y z n (l4, b4 || cmdBad true x N) [] (.slice none 0 0) wx)
  case first =>
    rcases b4 with _ | _
    · by_cases h1 : (x : Int) < 1
      · have hp := HSB.out true (by unfold cmdBad; simp; omega)
        have HP := Lib.hid hp; clear hp HSB
        go_wp2_with fail
        go_meet
        exact HP.out
      · by_cases h2 : (x : Int) > 4
        · have hp := HSB.out true (by unfold cmdBad; simp; omega)
          have HP := Lib.hid hp; clear hp HSB
          go_wp2_with fail
          go_meet
          exact HP.out
        · by_cases h3 : (N : Int) > 20
          · have hp := HSB.out true (by unfold cmdBad; simp; omega)
            have HP := Lib.hid hp; clear hp HSB
            go_wp2_with fail
            go_meet
            exact HP.out
          · have hp := HSB.out false (by unfold cmdBad; simp; omega)
            have HP := Lib.hid hp; clear hp HSB
            go_wp2_with fail
            go_meet
            exact HP.out
    · have hp := HSB.out true (by simp)
      have HP := Lib.hid hp; clear hp HSB
      go_wp2_with fail
      go_meet
      exact HP.out
  case rest =>
    clear hc1 hfz1 hk0 hg3l HSB
    have HC0 := Lib.hid hcut; clear hcut
    go_wp2_with fail
    go_loopw [4] (CmRel 118 true w B p w.heap.size w3.heap.size x y z n N (l4, b4 || cmdBad true x N)) (fun v _ => (intOf v).toNat)
    case atStart => exact ⟨N, _, [], _, rfl, hN, rfl, HC0.out⟩
    case round =>
      obtain ⟨m, ⟨l, b⟩, acc, V, rfl, hm, hps, hI⟩ := hrel
      obtain ⟨A5, n5, c5, hR5⟩ := hI.rdr
      have hc1 := hR5.1.cell 1
      have hpl5 := hR5.1.lt
      dsimp only at hc1
      obtain ⟨AV, cV, rfl, _, _⟩ := own_slice hI.row
      by_cases hgo : 0 < m ∧ b = false
      · obtain ⟨hm0, rfl⟩ := hgo
        rw [pairsR_go hm0 rfl] at hps
        have hm1 : (m : Int) > 0 := by omega
        have HI := Lib.hid hI; clear hI
        have HPS := Lib.hid hps; clear hps
        have HR5 := Lib.hid hR5; clear hR5
        have hpair : pairR true (l, false) = if (goneR true (textR true (l, false) 20).2).1 then (⟨(textR true (l, false) 20).1, ⟨#[]⟩, true⟩, (goneR true (textR true (l, false) 20).2).2)
          else (⟨(textR true (l, false) 20).1, (textR true (goneR true (textR true (l, false) 20).2).2 40).1, false⟩, (textR true (goneR true (textR true (l, false) 20).2).2 40).2) := rfl
        have ht1 := fun B p A n c w h => rtext_any B p A n c (l, false) 20 w h
        have ht2 := fun B p A n c w h => rtruth_any B p A n c (textR true (l, false) 20).2 w h
        generalize textR true (l, false) 20 = P1 at hpair ht1 ht2
        have ht3 := fun B p A n c w h => rtext_any B p A n c (goneR true P1.2).2 40 w h
        generalize goneR true P1.2 = G at hpair ht2 ht3
        generalize textR true G.2 40 = P2 at hpair ht3
        obtain ⟨key, sk⟩ := P1
        obtain ⟨gn, sg⟩ := G
        obtain ⟨val, sv⟩ := P2
        dsimp only at hpair ht1 ht2 ht3
        have HT1 := Lib.hid ht1; clear ht1
        have HT2 := Lib.hid ht2; clear ht2
        have HT3 := Lib.hid ht3; clear ht3
        have HPAIR := Lib.hid hpair; clear hpair
        go_wp2_with fail
        refine (HT1.out _ _ _ _ _ _ HR5.out).mono ?_
        rintro e w6 ⟨A6, n6, c6, rfl, hR6, hF6⟩
        have HF6 := Lib.hid hF6; clear hF6
        have HR6 := Lib.hid hR6; clear hR6
        clear hc1 hpl5
        go_wp2_with fail
        refine (HT2.out _ _ _ _ _ _ HR6.out).mono ?_
        rintro e w7 ⟨A7, n7, c7, rfl, hR7, hF7⟩
        have HF7 := Lib.hid (HF6.out.trans hF7); clear hF7
        have HR7 := Lib.hid hR7; clear hR7
        have hb7 := HF7.out.blk HI.out.b3 (by have := HI.out.base; have := HI.out.lt23; omega)
        have hk3 := hb7.cell 3
        have hl3 := hb7.lt
        simp only [List.getElem?_toArray, List.getElem?_cons_succ, List.getElem?_cons_zero] at hk3
        clear hb7
        have hap := HI.out.few
        rcases gn with _ | _
        · have hpr : pairR true (l, false) = (⟨key, val, false⟩, sv) := by rw [HPAIR.out]; rfl
          have HPR := Lib.hid hpr; clear hpr HPAIR
          have HR7a := Lib.hid (HR7.out.below (Below.refl w7.heap.size w7 |>.alloc (Nat.le_refl _) (.cells #[.string key, .string ⟨#[]⟩, .bool false] 123)) HR7.out.1.lt); clear HR7
          go_wp2_with fail
          refine (HT3.out _ _ _ _ _ _ HR7a.out).mono ?_
          rintro e w8 ⟨A8, n8, c8, rfl, hR8, hF8⟩
          have hf8 : Fr (fun k => k = p) wr w8 := (HF7.out.alloc _).trans hF8
          have hq : Blk w8 w7.heap.size 123 #[.string key, .string ⟨#[]⟩, .bool false] := hF8.blk (Blk.new w7 _ _) (by have := HR7a.out.1.lt; have := HF7.out.size; have := HI.out.fr.size; omega)
          have hq1 := hq.cell 1
          have hqf := hq.frozen 1
          have hq' := hq.set_ 1 (.string val)
          simp at hq'
          have hp0 := hq'.cell 0
          have hp1 := hq'.cell 1
          have hp2 := hq'.cell 2
          have hb8 := hF8.blk ((HF7.out.blk HI.out.b3 (by have := HI.out.base; have := HI.out.lt23; omega)).alloc _) (by have := HI.out.base; have := HI.out.lt23; omega)
          have hk8 := (hb8.far (p := ⟨w7.heap.size, 1, none⟩) (by show w3.heap.size ≠ w7.heap.size; omega) (.string val)).cell 3
          have hf5 : Fr (fun k => k = p) wr (w8.setCell ⟨w7.heap.size, 1, none⟩ (.string val)) := hf8.setCell (p := ⟨w7.heap.size, 1, none⟩) (.inr (by have := HF7.out.size; show wr.heap.size ≤ w7.heap.size; omega)) _
          have hrd : ∃ A n c, Rdr 118 (w8.setCell ⟨w7.heap.size, 1, none⟩ (.string val)) B p A n c (pairR true (l, false)).2 := by rw [HPR.out]; exact ⟨_, _, _, hR8.below ((Below.refl w7.heap.size w8).setCell (Nat.le_refl _) _) (by have := HR7a.out.1.lt; have := HF7.out.size; have := HI.out.fr.size; omega)⟩
          have hrow5 := hf5.own HI.out.row (fun g hg e => HI.out.pne g hg e)
          have hb5 := hf5.blk HI.out.b3 (by have := HI.out.base; have := HI.out.lt23; omega)
          have hsz5 : w.heap.size ≤ ((w8.setCell ⟨w7.heap.size, 1, none⟩ (.string val))).heap.size := Nat.le_trans HI.out.fr.size hf5.size
          have HF5 := Lib.hid hf5; clear hf5
          have HRD := Lib.hid hrd; clear hrd
          go_wp2_with (at_builtin; refine stop ?_)
          refine back ?_
          refine wpList_append1K (w8.setCell ⟨w7.heap.size, 1, none⟩ (.string val)) w8.heap.size (by simp) _ rfl (.tmp 59) (.tmp 61) 22 rfl w.heap.size 123 _ 3 40 Tryd.underlying22 pair_info rfl (by decide) _ _ _ #[.string key, .string val, .bool false] rfl hrow5 1 rfl _ rfl rfl (by simp [Value.oneCell']) (by unfold maxLen; omega) (by omega) hsz5 ?_
          intro v9 w9 hrow9 hm9
          obtain ⟨A9, c9, rfl, _, _⟩ := own_slice hrow9
          have hb9 := hm9.1.blk hb5 (fun e => own_blk_ne hrow5 hb5 (by decide) e.symm)
          have hz9 := hb9.frozen 3
          have hk9 := hb9.cell 3
          have hl9 := hb9.lt
          simp only [List.getElem?_toArray, List.getElem?_cons_succ, List.getElem?_cons_zero] at hk9
          have hst := CmI.step (k := true) HI.out rfl HF5.out HRD.out hm9 (by rw [HPR.out]; exact hrow9)
          have HST := Lib.hid hst; clear hst hrow9 hm9 hb9 hrow5 hb5
          go_wp2_with fail
          go_roundw
          case rel => exact ⟨m - 1, _, _, _, by congr 1; omega, by omega, HPS.out, HST.out⟩
          case measure => simp [intOf]; omega
        · have hpr : pairR true (l, false) = (⟨key, ⟨#[]⟩, true⟩, sg) := by rw [HPAIR.out]; rfl
          have HPR := Lib.hid hpr; clear hpr HPAIR HT3
          have hf5 : Fr (fun k => k = p) wr (w7.alloc (.cells #[.string key, .string ⟨#[]⟩, .bool true] 123)) := HF7.out.alloc _
          have hrd : ∃ A n c, Rdr 118 (w7.alloc (.cells #[.string key, .string ⟨#[]⟩, .bool true] 123)) B p A n c (pairR true (l, false)).2 := by rw [HPR.out]; exact ⟨_, _, _, HR7.out.below ((Below.refl w7.heap.size w7).alloc (Nat.le_refl _) _) HR7.out.1.lt⟩
          have hrow5 := hf5.own HI.out.row (fun g hg e => HI.out.pne g hg e)
          have hb5 := hf5.blk HI.out.b3 (by have := HI.out.base; have := HI.out.lt23; omega)
          have hsz5 : w.heap.size ≤ ((w7.alloc (.cells #[.string key, .string ⟨#[]⟩, .bool true] 123))).heap.size := Nat.le_trans HI.out.fr.size hf5.size
          have HF5 := Lib.hid hf5; clear hf5
          have HRD := Lib.hid hrd; clear hrd
          go_wp2_with (at_builtin; refine stop ?_)
          refine back ?_
          refine wpList_append1K (w7.alloc (.cells #[.string key, .string ⟨#[]⟩, .bool true] 123)) (w7.heap.size + 1) (by simp) _ rfl (.tmp 59) (.tmp 61) 22 rfl w.heap.size 123 _ 3 40 Tryd.underlying22 pair_info rfl (by decide) _ _ _ #[.string key, .string ⟨#[]⟩, .bool true] rfl hrow5 1 rfl _ rfl rfl (by simp [Value.oneCell']) (by unfold maxLen; omega) (by omega) hsz5 ?_
          intro v9 w9 hrow9 hm9
          obtain ⟨A9, c9, rfl, _, _⟩ := own_slice hrow9
          have hb9 := hm9.1.blk hb5 (fun e => own_blk_ne hrow5 hb5 (by decide) e.symm)
          have hz9 := hb9.frozen 3
          have hk9 := hb9.cell 3
          have hl9 := hb9.lt
          simp only [List.getElem?_toArray, List.getElem?_cons_succ, List.getElem?_cons_zero] at hk9
          have hst := CmI.step (k := true) HI.out rfl HF5.out HRD.out hm9 (by rw [HPR.out]; exact hrow9)
          have HST := Lib.hid hst; clear hst hrow9 hm9 hb9 hrow5 hb5
          go_wp2_with fail
          go_roundw
          case rel => exact ⟨m - 1, _, _, _, by congr 1; omega, by omega, HPS.out, HST.out⟩
          case measure => simp [intOf]; omega
      · have hstop : m = 0 ∨ b = true := by rcases b with _ | _ <;> simp_all
        have hps2 : pairsR true N (l4, b4 || cmdBad true x N) [] = (acc, (l, b)) := hps.trans (pairsR_stop hstop)
        have hk0 := hI.b3.cell 0
        have hk1 := hI.b3.cell 1
        have hk2 := hI.b3.cell 2
        have hk3 := hI.b3.cell 3
        have hl3 := hI.b3.lt
        have hz0 := hI.b2.frozen 0
        have hz1 := hI.b2.frozen 1
        have hz2 := hI.b2.frozen 2
        have hz3 := hI.b2.frozen 3
        have hl2 := hI.b2.lt
        have hy0 := hI.b2.cell 0
        have hy1 := hI.b2.cell 1
        have hy2 := hI.b2.cell 2
        have hy3 := hI.b2.cell 3
        simp only [List.getElem?_toArray, List.getElem?_cons_succ, List.getElem?_cons_zero] at hy0 hy1 hy2 hy3
        simp only [List.getElem?_toArray, List.getElem?_cons_succ, List.getElem?_cons_zero] at hk0 hk1 hk2 hk3
        have HI := Lib.hid hI; clear hI
        have hd := HI.out.done (k := true) (s := s) (by rw [HCMD.out, hps2])
        have HD := Lib.hid hd; clear hd hps hps2
        by_cases hm0 : (m : Int) > 0
        · have hb : b = true := by rcases hstop with h | h <;> first | exact h | omega
          subst hb
          clear hstop
          go_wp2_with fail
          refine bodyPost_ret (results_cell_row rfl _ _ w.heap.size 24 _ (0, 0) _ rfl HD.out.2 Tryd.underlying24 rfl cmd_size) rfl ?_
          exact HD.out.1
        · clear hstop
          go_wp2_with fail
          refine bodyPost_ret (results_cell_row rfl _ _ w.heap.size 24 _ (0, 0) _ rfl HD.out.2 Tryd.underlying24 rfl cmd_size) rfl ?_
          exact HD.out.1
end Go.Proofs.YtnahkpfamocnfaaDoor
