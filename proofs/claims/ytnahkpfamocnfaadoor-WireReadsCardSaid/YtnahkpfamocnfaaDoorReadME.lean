/- chainmailref.ReadMsg. -/
import Derived.Test.YtnahkpfamocnfaaDoorReadM
namespace Go.Proofs.YtnahkpfamocnfaaDoor
open Go.RowKit
set_option maxRecDepth 100000 in
set_option maxHeartbeats 4000000 in
theorem ereadM_any (b : List Nat) (B n c : Nat) (A : Option Addr) (w : World) (h : Rd w B 1 A n (b.map bv)) (hB : B ≤ w.heap.size) (hc : n ≤ c) (hb : Bytes b) (hn : n ≤ 3000) :
    Calls Tryd.prog 18 #[.slice A n c] w (RMPost (fun x => .int .i64 x) (refReadM b) w) := by
  have hbl : b.length = n := by have := h.1; simpa using this
  have h0 := newRdr 114 h hB hc hb (.cells (msgCells zmsg none 0 0) 26)
  have H0 := Lib.hid h0; clear h0
  have H := Lib.hid h; clear h
  have hfl := fourR_len false (b, false)
  have h3 := msgR_three (k := false) (s := (b, false))
  have h4 := msgR_else (k := false) (s := (b, false))
  rcases hq1 : numR false (b, false) with ⟨xv, s1⟩
  rcases hq2 : numR false s1 with ⟨fv, s2⟩
  rcases hq3 : numR false s2 with ⟨tv, s3⟩
  rcases hq4 : numR false s3 with ⟨ev, s4⟩
  have hfive := numR_len false s4
  rcases hq5 : numR false s4 with ⟨N, l5, b5⟩
  have hfour : fourR false (b, false) = (xv, fv, tv, ev, s4) := by unfold fourR; rw [hq1]; dsimp only; rw [hq2]; dsimp only; rw [hq3]; dsimp only; rw [hq4]
  rw [hfour] at hfl h3 h4
  dsimp only at h3 h4
  rw [hq5] at h3 h4 hfive
  dsimp only at h3 h4 hfive hfl
  have hl5 : l5.length ≤ 3000 := by have := hfive.1; have := hfl.1; omega
  have hbyt : True := trivial
  clear hfour hfive hfl hbyt
  have hr1 := fun B p A n c w h => enum_any B p A n c (b, false) w h
  rw [hq1] at hr1
  have HR1 := Lib.hid hr1; clear hr1 hq1
  have hr2 := fun B p A n c w h => enum_any B p A n c s1 w h
  rw [hq2] at hr2
  have HR2 := Lib.hid hr2; clear hr2 hq2
  have hr3 := fun B p A n c w h => enum_any B p A n c s2 w h
  rw [hq3] at hr3
  have HR3 := Lib.hid hr3; clear hr3 hq3
  have hr4 := fun B p A n c w h => enum_any B p A n c s3 w h
  rw [hq4] at hr4
  have HR4 := Lib.hid hr4; clear hr4 hq4
  have hr5 := fun B p A n c w h => enum_any B p A n c s4 w h
  rw [hq5] at hr5
  have HR5 := Lib.hid hr5; clear hr5 hq5
  have H3 := Lib.hid h3; clear h3
  have H4 := Lib.hid h4; clear h4
  go_enter Tryd.func18, Tryd.ntmps18
  go_wp2_with fail
  refine (HR1.out _ _ _ _ _ _ H0.out).mono ?_
  rintro e w1 ⟨A1, n1, c1, rfl, hR1, hF1⟩
  have HF1 := Lib.hid hF1; clear hF1
  have HRd1 := Lib.hid hR1; clear hR1
  go_wp2_with fail
  refine (HR2.out _ _ _ _ _ _ HRd1.out).mono ?_
  rintro e w2 ⟨A2, n2, c2, rfl, hR2, hF2⟩
  have HF2 := Lib.hid (HF1.out.trans hF2); clear hF2
  have HRd2 := Lib.hid hR2; clear hR2
  go_wp2_with fail
  refine (HR3.out _ _ _ _ _ _ HRd2.out).mono ?_
  rintro e w3 ⟨A3, n3, c3, rfl, hR3, hF3⟩
  have HF3 := Lib.hid (HF2.out.trans hF3); clear hF3
  have HRd3 := Lib.hid hR3; clear hR3
  go_wp2_with fail
  refine (HR4.out _ _ _ _ _ _ HRd3.out).mono ?_
  rintro e w4 ⟨A4, n4, c4, rfl, hR4, hF4⟩
  have HF4 := Lib.hid (HF3.out.trans hF4); clear hF4
  have HRd4 := Lib.hid hR4; clear hR4
  go_wp2_with fail
  refine (HR5.out _ _ _ _ _ _ HRd4.out).mono ?_
  rintro e w5 ⟨A5, n5, c5, rfl, hR5, hF5⟩
  have hF5 := HF4.out.trans hF5
  have hst := MgI.start (⟨xv, fv, tv, ev, N, ⟨0, 0, 0, []⟩⟩ : Ms) rfl hF5 hR5
  have hsz5 := hF5.size
  simp only [World.size_alloc] at hsz5
  have hpl5 : w.heap.size + 1 < w5.heap.size := by omega
  have HST := Lib.hid hst; clear hst hF5
  have hk0 := HST.out.b5.cell 0
  have hcb : msgBad false xv = false := rfl
  rw [hcb, Bool.or_false] at H3 H4
  clear hR5 hk0
  have hk0 := HST.out.b5.cell 0
  have hgl := HST.out.b5.lt
  simp only [msgCells, List.getElem?_toArray, List.getElem?_cons_succ, List.getElem?_cons_zero] at hk0
  go_upto_if 24 with (fail)
  go_cut [] (fun wx => ∃ m A n k s, msgR false (b, false) = (m, s) ∧ smallC m.cmd ∧ MgI 114 w B w5.heap.size m A n k s wx)
  case first =>
    by_cases hx3 : (xv : Int) = 3
    · have hx3' : xv = 3 := by omega
      have d1 : ((xv : Int) == 3) = true := by simpa using hx3
      have hm := H3.out hx3'
      have HM := Lib.hid hm; clear hm hx3 hx3'
      obtain ⟨A6, n6, c6, hR6⟩ := HST.out.rdr
      have hn6 : n6 ≤ 100000 := by have := hR6.len; dsimp only at this; omega
      have hcm := ecmd_any B (w.heap.size + 1) A6 n6 c6 _ _ hn6 hR6
      have HCM := Lib.hid hcm; clear hcm hR6
      go_wp2_with fail
      refine HCM.out.mono ?_
      rintro e w7 ⟨V, rfl, hrow, hr7, hf7⟩
      have hb7 := hf7.blk HST.out.b5 (by omega)
      obtain ⟨AV, nV, kV, rfl, hmg⟩ := HST.out.cmd (by omega) hrow hr7 hf7
      have hy5 := hb7.cell 5
      have hz5 := hb7.frozen 5
      have hy6 := hb7.cell 6
      have hz6 := hb7.frozen 6
      have hy7 := hb7.cell 7
      have hz7 := hb7.frozen 7
      have hy8 := hb7.cell 8
      have hz8 := hb7.frozen 8
      have hl7 := hb7.lt
      simp only [msgCells, List.getElem?_toArray, List.getElem?_cons_succ, List.getElem?_cons_zero] at hy5 hy6 hy7 hy8
      have HMG := Lib.hid hmg; clear hmg hb7 hrow hr7 hf7
      clear hk0
      go_wp2_with fail
      go_meet
      exact ⟨_, _, _, _, _, HM.out, cmdR_small hl5, HMG.out⟩
    · have hx3' : ¬ xv = 3 := by omega
      have d1 : ((xv : Int) == 3) = false := by simpa using hx3
      have hm := H4.out hx3'
      have HM := Lib.hid hm; clear hm hx3 hx3'
      go_wp2_with fail
      go_meet
      exact ⟨_, _, _, _, _, HM.out, smallC.of (Nat.zero_le _) (fun p hp => by cases hp), HST.out⟩
  case rest =>
    clear hk0 hgl HST H3 H4
    obtain ⟨m, Am, nm, km, ⟨l, bd⟩, hmr, hsm, hM⟩ := hcut
    obtain ⟨A8, n8, c8, hR8⟩ := hM.rdr
    have hc0 := hR8.1.cell 0
    have hc1 := hR8.1.cell 1
    have hln := hR8.len
    dsimp only at hc0 hc1 hln
    have hk0 := hM.b5.cell 0
    have hk1 := hM.b5.cell 1
    have hk2 := hM.b5.cell 2
    have hk3 := hM.b5.cell 3
    have hk4 := hM.b5.cell 4
    have hk5 := hM.b5.cell 5
    have hk6 := hM.b5.cell 6
    have hk7 := hM.b5.cell 7
    have hk8 := hM.b5.cell 8
    simp only [msgCells, List.getElem?_toArray, List.getElem?_cons_succ, List.getElem?_cons_zero] at hk0 hk1 hk2 hk3 hk4 hk5 hk6 hk7 hk8
    have hrm := rmsg_any m wc.heap.size Am nm km wc hsm ⟨hM.wl, Rd.of_own hM.row⟩ (Nat.le_refl _)
    unfold msgV at hrm
    have HRM := Lib.hid hrm; clear hrm hsm
    have hbz := hM.below.size
    have HM := Lib.hid hM; clear hM
    have HMR := Lib.hid hmr; clear hmr
    have hpl8 := hR8.1.lt
    have HR8 := Lib.hid hR8; clear hR8
    clear hc0 hc1
    have hgl5 := HM.out.b5.lt
    go_wp2_with fail
    refine HRM.out.mono ?_
    rintro e w9 ⟨A9, c9, rfl, hr9, _, hb9⟩
    have hb5 := HM.out.b5.below hb9 HM.out.b5.lt
    have hb2 := HM.out.b2.below hb9 HM.out.b2.lt
    have hrd9 := HR8.out.1.below hb9 hpl8
    have hc1 := hrd9.cell 1
    clear hk0 hk1 hk2 hk3 hk4 hk5 hk6 hk7 hk8
    have hk0 := hb5.cell 0
    have hy0 := hb2.cell 0
    have hz0 := hb2.frozen 0
    have hk1 := hb5.cell 1
    have hy1 := hb2.cell 1
    have hz1 := hb2.frozen 1
    have hk2 := hb5.cell 2
    have hy2 := hb2.cell 2
    have hz2 := hb2.frozen 2
    have hk3 := hb5.cell 3
    have hy3 := hb2.cell 3
    have hz3 := hb2.frozen 3
    have hk4 := hb5.cell 4
    have hy4 := hb2.cell 4
    have hz4 := hb2.frozen 4
    have hk5 := hb5.cell 5
    have hy5 := hb2.cell 5
    have hz5 := hb2.frozen 5
    have hk6 := hb5.cell 6
    have hy6 := hb2.cell 6
    have hz6 := hb2.frozen 6
    have hk7 := hb5.cell 7
    have hy7 := hb2.cell 7
    have hz7 := hb2.frozen 7
    have hk8 := hb5.cell 8
    have hy8 := hb2.cell 8
    have hz8 := hb2.frozen 8
    have hl2 := hb2.lt
    have hl5b := hb5.lt
    simp only [msgCells, zmsg, List.getElem?_toArray, List.getElem?_cons_succ, List.getElem?_cons_zero] at hc1 hk0 hy0 hk1 hy1 hk2 hy2 hk3 hy3 hk4 hy4 hk5 hy5 hk6 hy6 hk7 hy7 hk8 hy8
    have hM9 : MgI 114 w B w5.heap.size m Am nm km (l, bd) w9 := by
      have h := HM.out
      refine ⟨⟨_, _, _, HR8.out.below hb9 hpl8⟩, hb5, hb2, ?_, h.wl, h.low, h.below.trans (hb9.mono hbz)⟩
      exact (Below.fr hb9 (fun _ => False)).own h.row (fun g hg e => e)
    have hgood := hM9.good (E := fun x => .int .i64 x)
    have hfail := hM9.fail (E := fun x => .int .i64 x)
    have hcb := str_of (c := c) (H.out.below ((HM.out.below.trans (hb9.mono hbz)).mono hB))
    have hco := str_of (c := c9) hr9
    have hinj := strOf_list_inj (msgOut_bytes m) hb
    have hrd : refReadM b = if bd = true ∨ (msgOut m).2 ≠ 0 ∨ (msgOut m).1 ≠ b then none else some m := by unfold refReadM; rw [HMR.out]
    have HG := Lib.hid hgood; clear hgood
    have HFa := Lib.hid hfail; clear hfail
    have HB2 := Lib.hid hb2; clear hb2 hb5 hrd9 hM9 hr9
    have HRD := Lib.hid hrd; clear hrd
    generalize hO : msgOut m = out at *
    obtain ⟨ob, oe⟩ := out
    dsimp only at hco hinj HRD ⊢
    clear hO
    have hdone : refReadM b = none → True := fun _ => trivial
    clear hdone
    rcases bd with _ | _
    · by_cases he : oe = 0
      · subst he
        by_cases hs : ob = b
        · have hrd2 : refReadM b = some m := by rw [HRD.out, if_neg (by rintro (h | h | h); (· cases h); (· exact h rfl); (· exact h hs))]
          have HRD2 := Lib.hid hrd2; clear hrd2 HRD
          rw [decide_eq_true hs] at hinj
          clear hs
          go_wp2_with fail
          refine bodyPost_ret (ret_msg rfl _ _ w.heap.size m Am nm km rfl (fillM_blk HB2.out m Am nm km)) rfl ?_
          rw [HRD2.out]
          exact HG.out
        · have hrd2 : refReadM b = none := by rw [HRD.out, if_pos (.inr (.inr hs))]
          have HRD2 := Lib.hid hrd2; clear hrd2 HRD
          rw [decide_eq_false hs] at hinj
          clear hs
          go_wp2_with fail
          refine bodyPost_ret (ret_msg rfl _ _ w.heap.size zmsg none 0 0 rfl (fillM_blk HB2.out zmsg none 0 0)) rfl ?_
          rw [HRD2.out]
          exact HFa.out
      · have hrd2 : refReadM b = none := by rw [HRD.out, if_pos (.inr (.inl he))]
        have d1 : (oe == 0) = false := by simpa using he
        have d2 : (oe != 0) = true := by simpa using he
        have HRD2 := Lib.hid hrd2; clear hrd2 HRD hinj he
        go_wp2_with fail
        refine bodyPost_ret (ret_msg rfl _ _ w.heap.size zmsg none 0 0 rfl (fillM_blk HB2.out zmsg none 0 0)) rfl ?_
        rw [HRD2.out]
        exact HFa.out
    · have hrd2 : refReadM b = none := by rw [HRD.out, if_pos (.inl rfl)]
      have HRD2 := Lib.hid hrd2; clear hrd2 HRD hinj
      go_wp2_with fail
      refine bodyPost_ret (ret_msg rfl _ _ w.heap.size zmsg none 0 0 rfl (fillM_blk HB2.out zmsg none 0 0)) rfl ?_
      rw [HRD2.out]
      exact HFa.out
end Go.Proofs.YtnahkpfamocnfaaDoor
