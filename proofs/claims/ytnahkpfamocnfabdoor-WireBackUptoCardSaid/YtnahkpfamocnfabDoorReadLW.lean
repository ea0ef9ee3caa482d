/- chainmail/wire.ReadLog. -/
import Derived.Test.YtnahkpfamocnfabDoorReadL
import Derived.Deep.DeepCutAuto
namespace Go.Proofs.YtnahkpfamocnfabDoor
open Go.RowKit
set_option maxRecDepth 100000 in
set_option maxHeartbeats 4000000 in
theorem wreadL_any (b : List Nat) (B n c : Nat) (A : Option Addr) (w : World) (h : Rd w B 1 A n (b.map bv)) (hB : B ≤ w.heap.size) (hc : n ≤ c) (hb : Bytes b) (hn : n ≤ 100000) :
    Calls Tryd.prog 14 #[.slice A n c] w (RLPost errV (wireReadL b) w) := by
  have hbl : b.length = n := by have := h.1; simpa using this
  have h0 := newRdr0 114 h hB hc hb
  have H0 := Lib.hid h0; clear h0
  have H := Lib.hid h; clear h
  have hl1 := (numR_len true (b, false)).1
  have hm1 := numR_max true (b, false)
  have hr1 := fun B p A n c w h => rnum_any B p A n c (b, false) w h
  have hlog : logR true (b, false) = cmdsR true (numR true (b, false)).1 ((numR true (b, false)).2.1, (numR true (b, false)).2.2 || (true && decide (500 < (numR true (b, false)).1))) [] := rfl
  rcases hq1 : numR true (b, false) with ⟨N, l1, b1⟩
  rw [hq1] at hl1 hm1 hr1 hlog
  dsimp only at hl1 hm1 hr1
  rw [Bool.true_and] at hlog
  dsimp only at hlog
  have hl3 : l1.length ≤ n := by omega
  have HR1 := Lib.hid hr1; clear hr1 hq1 hl1
  have HLOG := Lib.hid hlog; clear hlog
  go_enter Tryd.func14, Tryd.ntmps14
  go_wp2_with fail
  refine (HR1.out _ _ _ _ _ _ H0.out).mono ?_
  rintro e w1 ⟨A1, n1, c1, rfl, hR1, hF1⟩
  have hst := LgI.start (n0 := n) hF1 hR1 hl3
  have HST := Lib.hid hst; clear hst hF1
  have hc1 := hR1.1.cell 1
  have hz1 := hR1.1.frozen 1
  have hpl := hR1.1.lt
  dsimp only at hc1
  have hsb : ∀ v : Bool, v = (b1 || decide (500 < N)) → LgI 114 w B n (l1, b1 || decide (500 < N)) [] (.slice none 0 0) (w1.setCell ⟨w.heap.size, 1, none⟩ (.bool v)) := fun v hv => by subst hv; exact HST.out.bad rfl _
  have HSB := Lib.hid hsb; clear hsb hR1 HST
  go_upto_region 4 with (fail)
  go_cut [] (fun wx => LgI 114 w B n (l1, b1 || decide (500 < N)) [] (.slice none 0 0) wx)
  case first =>
    rcases b1 with _ | _
    · by_cases h1 : (N : Int) > 500
      · skip
        have hp := HSB.out true (by simp; try omega)
        have HP := Lib.hid hp; clear hp HSB
        go_wp2_with fail
        go_meet
        exact HP.out
      · skip
        have hp := HSB.out false (by simp; try omega)
        have HP := Lib.hid hp; clear hp HSB
        go_wp2_with fail
        go_meet
        exact HP.out
    · skip
      have hp := HSB.out true (by simp; try omega)
      have HP := Lib.hid hp; clear hp HSB
      go_wp2_with fail
      go_meet
      exact HP.out
  case rest =>
    clear hc1 hz1 hpl HSB
    have HST := Lib.hid hcut; clear hcut
    go_wp2_with fail
    go_loopw [5, 6] (LgRel 114 true w B n N (l1, b1 || decide (500 < N))) (fun _ v _ => (intOf v).toNat)
    case atStart => exact ⟨N, _, [], rfl, hm1, rfl, HST.out, fun _ => by simp⟩
    case round =>
      obtain ⟨m, ⟨l, bd⟩, L, rfl, hm, hcs, hI, h501⟩ := hrel
      obtain ⟨A5, n5, c5, hR5⟩ := hI.rdr
      have hc0 := hR5.1.cell 0
      have hc1 := hR5.1.cell 1
      have hpl := hR5.1.lt
      have hln := hR5.len
      dsimp only at hc0 hc1 hln
      obtain ⟨AV, cV, hV, _, _⟩ := own_slice hI.row
      subst hV
      have hlen2 : (csOf L).length = L.length := by simp [csOf]
      by_cases hgo : 0 < m ∧ bd = false
      · obtain ⟨hm0, rfl⟩ := hgo
        rw [cmdsR_go hm0 rfl (.inl rfl)] at hcs
        have hm1' : (m : Int) > 0 := by omega
        have hn5 : n5 ≤ 100000 := by have := hI.len; dsimp only at this; omega
        have hcm := rcmd_any B w.heap.size A5 n5 c5 (l, false) wr hn5 hR5
        have HCM := Lib.hid hcm; clear hcm hR5
        have HI := Lib.hid hI; clear hI
        have HCS := Lib.hid hcs; clear hcs
        clear hc0
        have hap := HI.out.few
        go_wp2_with fail
        refine HCM.out.mono ?_
        rintro e w7 ⟨V7, rfl, hrow7, hr7, hf7⟩
        obtain ⟨AW, cW, hW, _, _⟩ := own_slice hrow7
        subst hW
        have hV7 : w7.ownsRow w.heap.size 24 4 (.slice AV L.length cV) L.length (L.flatMap crCells) := by
          obtain ⟨Ar, nr, cr, hrd⟩ := HI.out.rdr
          exact hf7.own HI.out.row (fun g hg e => by subst e; exact own_blk_ne HI.out.row hrd.1 (by decide) hg)
        have hbz7 : w.heap.size ≤ w7.heap.size := Nat.le_trans HI.out.below.size hf7.size
        have HR7 := Lib.hid (And.intro hrow7 (And.intro hr7 hf7)); clear hrow7 hr7 hf7
        go_wp2_with (at_builtin; refine stop ?_)
        refine back ?_
        refine wpList_append1 w7 _ rfl (.tmp 34) (.tmp 37) 27 rfl w.heap.size 24 _ 4 48 Tryd.underlying27 cmd_info2 rfl (by decide) _ _ _ #[.int .i64 (cmdR true (l, false)).1.kind, .int .i64 (cmdR true (l, false)).1.tx, .int .i64 (cmdR true (l, false)).1.time, .slice AW (cmdR true (l, false)).1.writes.length cW] rfl hV7 1 rfl _ rfl rfl (by simp [Value.oneCell']) (by unfold maxLen; omega) (by omega) hbz7 ?_
        intro v9 w9 hrow9 hm9
        obtain ⟨A9, c9, rfl, _, _⟩ := own_slice hrow9
        have hst := LgI.step (k := true) ⟨by decide, by decide⟩ HI.out rfl (cmdR_true_small _) HR7.out.2.2 HR7.out.1 HR7.out.2.1 hm9 hrow9
        have HST9 := Lib.hid hst; clear hst hrow9 hm9 hV7
        go_wp2_with fail
        go_roundw
        case rel => exact ⟨m - 1, _, _, by congr 1; omega, by omega, by rw [HCS.out]; simp [csOf], HST9.out, fun h => by cases h⟩
        case measure => simp [intOf]; omega
      · have hstop : m = 0 ∨ bd = true := by rcases bd with _ | _ <;> simp_all
        have hcs2 : logR true (b, false) = (csOf L, (l, bd)) := by rw [HLOG.out, hcs]; exact cmdsR_stop (by rcases hstop with h | h; (· exact .inl h); (· exact .inr (.inl h)))
        have hrd : wireReadL b = if bd = true ∨ 0 < l.length then none else some (csOf L) := by unfold wireReadL; rw [hcs2]
        have hgood := hI.good (E := errV) hn
        have hfail : RLPost errV none w (.returned (.tuple #[.slice none 0 0, errV 3])) wr := RLPost.fail hI.below
        have HG := Lib.hid hgood; clear hgood
        have HFa := Lib.hid hfail; clear hfail
        have HRD := Lib.hid hrd; clear hrd hcs hcs2 hI hR5 HLOG HST
        rcases bd with _ | _
        · have hm0 : ¬ (m : Int) > 0 := by rcases hstop with h | h; (· omega); (· cases h)
          clear hstop hgo
          by_cases hpos : (n5 : Int) > 0
          · skip
            have hrd2 : wireReadL b = none := by rw [HRD.out, if_pos (.inr (by omega))]
            have HRD2 := Lib.hid hrd2; clear hrd2 HRD
            go_wp2_with fail
            go_ret2
            rw [HRD2.out]
            exact HFa.out
          · skip
            have hrd2 : wireReadL b = some (csOf L) := by rw [HRD.out, if_neg (by rintro (h | h); (· cases h); (· omega))]
            have HRD2 := Lib.hid hrd2; clear hrd2 HRD
            go_wp2_with fail
            go_ret2
            rw [HRD2.out]
            exact HG.out
        · clear hstop hgo
          by_cases hm0 : (m : Int) > 0
          · skip
            have hrd2 : wireReadL b = none := by rw [HRD.out, if_pos (.inl rfl)]
            have HRD2 := Lib.hid hrd2; clear hrd2 HRD
            go_wp2_with fail
            go_ret2
            rw [HRD2.out]
            exact HFa.out
          · skip
            have hrd2 : wireReadL b = none := by rw [HRD.out, if_pos (.inl rfl)]
            have HRD2 := Lib.hid hrd2; clear hrd2 HRD
            go_wp2_with fail
            go_ret2
            rw [HRD2.out]
            exact HFa.out
end Go.Proofs.YtnahkpfamocnfabDoor
