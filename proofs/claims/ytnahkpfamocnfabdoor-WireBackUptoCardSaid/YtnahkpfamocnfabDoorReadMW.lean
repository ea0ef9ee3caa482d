/- wire.ReadMsg. -/
import Derived.Test.YtnahkpfamocnfabDoorReadM
namespace Go.Proofs.YtnahkpfamocnfabDoor
open Go.RowKit
set_option maxRecDepth 100000 in
set_option maxHeartbeats 4000000 in
theorem wreadM_any (b : List Nat) (B n c : Nat) (A : Option Addr) (w : World) (h : Rd w B 1 A n (b.map bv)) (hB : B ≤ w.heap.size) (hc : n ≤ c) (hb : Bytes b) (hn : n ≤ 100000) :
    Calls Tryd.prog 10 #[.slice A n c] w (RMPost errV (wireReadM b) w) := by
  have hbl : b.length = n := by have := h.1; simpa using this
  have h0 := newRdr 114 h hB hc hb (.cells (msgCells zmsg none 0 0) 26)
  have H0 := Lib.hid h0; clear h0
  have H := Lib.hid h; clear h
  have hfl := fourR_len true (b, false)
  have h3 := msgR_three (k := true) (s := (b, false))
  have h4 := msgR_else (k := true) (s := (b, false))
  rcases hq1 : numR true (b, false) with ⟨xv, s1⟩
  rcases hq2 : numR true s1 with ⟨fv, s2⟩
  rcases hq3 : numR true s2 with ⟨tv, s3⟩
  rcases hq4 : numR true s3 with ⟨ev, s4⟩
  have hfive := numR_len true s4
  rcases hq5 : numR true s4 with ⟨N, l5, b5⟩
  have hfour : fourR true (b, false) = (xv, fv, tv, ev, s4) := by unfold fourR; rw [hq1]; dsimp only; rw [hq2]; dsimp only; rw [hq3]; dsimp only; rw [hq4]
  rw [hfour] at hfl h3 h4
  dsimp only at h3 h4
  rw [hq5] at h3 h4 hfive
  dsimp only at h3 h4 hfive hfl
  have hl5 : l5.length ≤ 100000 := by have := hfive.1; have := hfl.1; omega
  have hbyt : True := trivial
  clear hfour hfive hfl hbyt
  have hr1 := fun B p A n c w h => rnum_any B p A n c (b, false) w h
  rw [hq1] at hr1
  have HR1 := Lib.hid hr1; clear hr1 hq1
  have hr2 := fun B p A n c w h => rnum_any B p A n c s1 w h
  rw [hq2] at hr2
  have HR2 := Lib.hid hr2; clear hr2 hq2
  have hr3 := fun B p A n c w h => rnum_any B p A n c s2 w h
  rw [hq3] at hr3
  have HR3 := Lib.hid hr3; clear hr3 hq3
  have hr4 := fun B p A n c w h => rnum_any B p A n c s3 w h
  rw [hq4] at hr4
  have HR4 := Lib.hid hr4; clear hr4 hq4
  have hr5 := fun B p A n c w h => rnum_any B p A n c s4 w h
  rw [hq5] at hr5
  have HR5 := Lib.hid hr5; clear hr5 hq5
  have H3 := Lib.hid h3; clear h3
  have H4 := Lib.hid h4; clear h4
  go_enter Tryd.func10, Tryd.ntmps10
  go_wp2_with fail
  refine (HR1.out _ _ _ _ _ _ H0.out).mono ?_
  rintro e w1 ⟨A1, n1, c1, rfl, hR1, hF1⟩
  have HF1 := Lib.hid hF1; clear hF1
  have HRd1 := Lib.hid hR1; clear hR1
  go_wp2_with fail
  refine (HR2.out _ _ _ _ _ _ HRd1.out).mono ?_
  rintro e w2 ⟨A2, n2, c2, rfl, hR2, hF2⟩
  have HF2 := Lib.hid (HF1.out.trans hF2); clear hF2
  have HRd2 := Lib.hid hR2; clear hR2
  go_wp2_with fail
  refine (HR3.out _ _ _ _ _ _ HRd2.out).mono ?_
  rintro e w3 ⟨A3, n3, c3, rfl, hR3, hF3⟩
  have HF3 := Lib.hid (HF2.out.trans hF3); clear hF3
  have HRd3 := Lib.hid hR3; clear hR3
  go_wp2_with fail
  refine (HR4.out _ _ _ _ _ _ HRd3.out).mono ?_
  rintro e w4 ⟨A4, n4, c4, rfl, hR4, hF4⟩
  have HF4 := Lib.hid (HF3.out.trans hF4); clear hF4
  have HRd4 := Lib.hid hR4; clear hR4
  go_wp2_with fail
  refine (HR5.out _ _ _ _ _ _ HRd4.out).mono ?_
  rintro e w5 ⟨A5, n5, c5, rfl, hR5, hF5⟩
  have hF5 := HF4.out.trans hF5
  have hst := MgI.start (⟨xv, fv, tv, ev, N, ⟨0, 0, 0, []⟩⟩ : Ms) rfl hF5 hR5
  have hsz5 := hF5.size
  simp only [World.size_alloc] at hsz5
  have hpl5 : w.heap.size + 1 < w5.heap.size := by omega
  have HST := Lib.hid hst; clear hst hF5
  have hk0 := HST.out.b5.cell 0
  have hc1 := hR5.1.cell 1
  have hz1 := hR5.1.frozen 1
  dsimp only at hc1
  have hsb : ∀ v : Bool, v = (b5 || msgBad true xv) → MgI 114 w B w5.heap.size ⟨xv, fv, tv, ev, N, ⟨0, 0, 0, []⟩⟩ none 0 0 (l5, b5 || msgBad true xv) ((w5.setCell ⟨w.heap.size + 1, 1, none⟩ (.bool v)).alloc (.cells (msgCells ⟨xv, fv, tv, ev, N, ⟨0, 0, 0, []⟩⟩ none 0 0) 26)) := fun v hv => by
    subst hv
    rw [← World.setCell_alloc_past _ _ _ _ hpl5]
    exact HST.out.bad (by decide) _
  have HSB := Lib.hid hsb; clear hsb hR5 HST
  simp only [msgCells, List.getElem?_toArray, List.getElem?_cons_succ, List.getElem?_cons_zero] at hk0
  go_upto_region 3 with (fail)
  go_cut [] (fun wx => MgI 114 w B w5.heap.size ⟨xv, fv, tv, ev, N, ⟨0, 0, 0, []⟩⟩ none 0 0 (l5, b5 || msgBad true xv) wx)
  case first =>
    rcases b5 with _ | _
    · by_cases h1 : (xv : Int) < 1
      · skip
        have hp := HSB.out true (by unfold msgBad; simp; omega)
        have HP := Lib.hid hp; clear hp HSB
        go_wp2_with fail
        go_meet
        exact HP.out
      · by_cases h2 : (xv : Int) > 4
        · skip
          have hp := HSB.out true (by unfold msgBad; simp; omega)
          have HP := Lib.hid hp; clear hp HSB
          go_wp2_with fail
          go_meet
          exact HP.out
        · skip
          have hp := HSB.out false (by unfold msgBad; simp; omega)
          have HP := Lib.hid hp; clear hp HSB
          go_wp2_with fail
          go_meet
          exact HP.out
    · have hp := HSB.out true (by simp)
      have HP := Lib.hid hp; clear hp HSB
      go_wp2_with fail
      go_meet
      exact HP.out
  case rest =>
    clear hc1 hz1 hk0 HSB
    have HST := Lib.hid hcut; clear hcut
    have hk0 := HST.out.b5.cell 0
    have hgl := HST.out.b5.lt
    simp only [msgCells, List.getElem?_toArray, List.getElem?_cons_succ, List.getElem?_cons_zero] at hk0
    go_upto_if 39 with (fail)
    go_cut [] (fun wx => ∃ m A n k s, msgR true (b, false) = (m, s) ∧ MgI 114 w B w5.heap.size m A n k s wx)
    case first =>
      by_cases hx3 : (xv : Int) = 3
      · have hx3' : xv = 3 := by omega
        have d1 : ((xv : Int) == 3) = true := by simpa using hx3
        have hm := H3.out hx3'
        have HM := Lib.hid hm; clear hm hx3 hx3'
        obtain ⟨A6, n6, c6, hR6⟩ := HST.out.rdr
        have hn6 : n6 ≤ 100000 := by have := hR6.len; dsimp only at this; omega
        have hcm := rcmd_any B (w.heap.size + 1) A6 n6 c6 _ _ hn6 hR6
        have HCM := Lib.hid hcm; clear hcm hR6
        go_wp2_with fail
        refine HCM.out.mono ?_
        rintro e w7 ⟨V, rfl, hrow, hr7, hf7⟩
        have hb7 := hf7.blk HST.out.b5 (by omega)
        obtain ⟨AV, nV, kV, rfl, hmg⟩ := HST.out.cmd (by omega) hrow hr7 hf7
        have hy5 := hb7.cell 5
        have hz5 := hb7.frozen 5
        have hy6 := hb7.cell 6
        have hz6 := hb7.frozen 6
        have hy7 := hb7.cell 7
        have hz7 := hb7.frozen 7
        have hy8 := hb7.cell 8
        have hz8 := hb7.frozen 8
        have hl7 := hb7.lt
        simp only [msgCells, List.getElem?_toArray, List.getElem?_cons_succ, List.getElem?_cons_zero] at hy5 hy6 hy7 hy8
        have HMG := Lib.hid hmg; clear hmg hb7 hrow hr7 hf7
        clear hk0
        go_wp2_with fail
        go_meet
        exact ⟨_, _, _, _, _, HM.out, HMG.out⟩
      · have hx3' : ¬ xv = 3 := by omega
        have d1 : ((xv : Int) == 3) = false := by simpa using hx3
        have hm := H4.out hx3'
        have HM := Lib.hid hm; clear hm hx3 hx3'
        go_wp2_with fail
        go_meet
        exact ⟨_, _, _, _, _, HM.out, HST.out⟩
    case rest =>
      clear hk0 hgl HST H3 H4
      obtain ⟨m, Am, nm, km, ⟨l, bd⟩, hmr, hM⟩ := hcut
      obtain ⟨A8, n8, c8, hR8⟩ := hM.rdr
      have hc0 := hR8.1.cell 0
      have hc1 := hR8.1.cell 1
      have hln := hR8.len
      dsimp only at hc0 hc1 hln
      have hk0 := hM.b5.cell 0
      have hy0 := hM.b2.cell 0
      have hz0 := hM.b2.frozen 0
      have hk1 := hM.b5.cell 1
      have hy1 := hM.b2.cell 1
      have hz1 := hM.b2.frozen 1
      have hk2 := hM.b5.cell 2
      have hy2 := hM.b2.cell 2
      have hz2 := hM.b2.frozen 2
      have hk3 := hM.b5.cell 3
      have hy3 := hM.b2.cell 3
      have hz3 := hM.b2.frozen 3
      have hk4 := hM.b5.cell 4
      have hy4 := hM.b2.cell 4
      have hz4 := hM.b2.frozen 4
      have hk5 := hM.b5.cell 5
      have hy5 := hM.b2.cell 5
      have hz5 := hM.b2.frozen 5
      have hk6 := hM.b5.cell 6
      have hy6 := hM.b2.cell 6
      have hz6 := hM.b2.frozen 6
      have hk7 := hM.b5.cell 7
      have hy7 := hM.b2.cell 7
      have hz7 := hM.b2.frozen 7
      have hk8 := hM.b5.cell 8
      have hy8 := hM.b2.cell 8
      have hz8 := hM.b2.frozen 8
      have hl2 := hM.b2.lt
      have hl5b := hM.b5.lt
      simp only [msgCells, zmsg, List.getElem?_toArray, List.getElem?_cons_succ, List.getElem?_cons_zero] at hk0 hy0 hk1 hy1 hk2 hy2 hk3 hy3 hk4 hy4 hk5 hy5 hk6 hy6 hk7 hy7 hk8 hy8
      have hgood := hM.good (E := errV)
      have hfail := hM.fail (E := errV)
      have hb2 := hM.b2
      have hrd : wireReadM b = if bd = true ∨ 0 < l.length then none else some m := by unfold wireReadM; rw [hmr]
      have HG := Lib.hid hgood; clear hgood
      have HFa := Lib.hid hfail; clear hfail
      have HB2 := Lib.hid hb2; clear hb2
      have HRD := Lib.hid hrd; clear hrd hmr hM hR8
      rcases bd with _ | _
      · by_cases hpos : (n8 : Int) > 0
        · skip
          have hrd2 : wireReadM b = none := by rw [HRD.out, if_pos (.inr (by omega))]
          have HRD2 := Lib.hid hrd2; clear hrd2 HRD
          go_wp2_with fail
          refine bodyPost_ret (ret_msg rfl _ _ w.heap.size zmsg none 0 0 rfl (fillM_blk HB2.out zmsg none 0 0)) rfl ?_
          rw [HRD2.out]
          exact HFa.out
        · have hrd2 : wireReadM b = some m := by rw [HRD.out, if_neg (by rintro (h | h); (· cases h); (· omega))]
          have HRD2 := Lib.hid hrd2; clear hrd2 HRD
          go_wp2_with fail
          refine bodyPost_ret (ret_msg rfl _ _ w.heap.size m Am nm km rfl (fillM_blk HB2.out m Am nm km)) rfl ?_
          rw [HRD2.out]
          exact HG.out
      · skip
        have hrd2 : wireReadM b = none := by rw [HRD.out, if_pos (.inl rfl)]
        have HRD2 := Lib.hid hrd2; clear hrd2 HRD
        go_wp2_with fail
        refine bodyPost_ret (ret_msg rfl _ _ w.heap.size zmsg none 0 0 rfl (fillM_blk HB2.out zmsg none 0 0)) rfl ?_
        rw [HRD2.out]
        exact HFa.out
end Go.Proofs.YtnahkpfamocnfabDoor
