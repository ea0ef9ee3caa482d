/- chainmail/chainmailref.ReadLog. -/
import Derived.Test.YtnahkpfamocnfaaDoorReadL
import Derived.Deep.DeepCutAuto
namespace Go.Proofs.YtnahkpfamocnfaaDoor
open Go.RowKit
set_option maxRecDepth 100000 in
set_option maxHeartbeats 4000000 in
theorem ereadL_any (b : List Nat) (B n c : Nat) (A : Option Addr) (w : World) (h : Rd w B 1 A n (b.map bv)) (hB : B ≤ w.heap.size) (hc : n ≤ c) (hb : Bytes b) (hn : n ≤ 3000) :
    Calls Tryd.prog 20 #[.slice A n c] w (RLPost (fun x => .int .i64 x) (refReadL b) w) := by
  have hbl : b.length = n := by have := h.1; simpa using this
  have h0 := newRdr0 114 h hB hc hb
  have H0 := Lib.hid h0; clear h0
  have H := Lib.hid h; clear h
  have hl1 := (numR_len false (b, false)).1
  have hm1 := numR_max false (b, false)
  have hr1 := fun B p A n c w h => enum_any B p A n c (b, false) w h
  have hlog : logR false (b, false) = cmdsR false (numR false (b, false)).1 ((numR false (b, false)).2.1, (numR false (b, false)).2.2 || (false && decide (500 < (numR false (b, false)).1))) [] := rfl
  rcases hq1 : numR false (b, false) with ⟨N, l1, b1⟩
  rw [hq1] at hl1 hm1 hr1 hlog
  dsimp only at hl1 hm1 hr1
  rw [Bool.false_and, Bool.or_false] at hlog
  dsimp only at hlog
  have hl3 : l1.length ≤ n := by omega
  have HR1 := Lib.hid hr1; clear hr1 hq1 hl1
  have HLOG := Lib.hid hlog; clear hlog
  go_enter Tryd.func20, Tryd.ntmps20
  go_wp2_with fail
  refine (HR1.out _ _ _ _ _ _ H0.out).mono ?_
  rintro e w1 ⟨A1, n1, c1, rfl, hR1, hF1⟩
  have hst := LgI.start (n0 := n) hF1 hR1 hl3
  have HST := Lib.hid hst; clear hst hF1
  clear hR1
  go_wp2_with fail
  go_loopw [5, 6] (LgRel 114 false w B n N (l1, b1)) (fun _ v _ => (intOf v).toNat)
  case atStart => exact ⟨N, _, [], rfl, hm1, rfl, HST.out, fun _ => by simp⟩
  case round =>
    obtain ⟨m, ⟨l, bd⟩, L, rfl, hm, hcs, hI, h501⟩ := hrel
    obtain ⟨A5, n5, c5, hR5⟩ := hI.rdr
    have hc0 := hR5.1.cell 0
    have hc1 := hR5.1.cell 1
    have hpl := hR5.1.lt
    have hln := hR5.len
    dsimp only at hc0 hc1 hln
    obtain ⟨AV, cV, hV, _, _⟩ := own_slice hI.row
    subst hV
    have hlen2 : (csOf L).length = L.length := by simp [csOf]
    by_cases hgo : 0 < m ∧ bd = false ∧ L.length ≤ 500
    · obtain ⟨hm0, rfl, h500⟩ := hgo
      rw [cmdsR_go hm0 rfl (.inr (by omega))] at hcs
      have hm1' : (m : Int) > 0 := by omega
      have hll : (L.length : Int) ≤ 500 := by omega
      have hn5 : n5 ≤ 100000 := by have := hI.len; dsimp only at this; omega
      have hcm := ecmd_any B w.heap.size A5 n5 c5 (l, false) wr hn5 hR5
      have HCM := Lib.hid hcm; clear hcm hR5
      have HI := Lib.hid hI; clear hI
      have HCS := Lib.hid hcs; clear hcs
      clear hc0
      have hap := HI.out.few
      go_wp2_with fail
      refine HCM.out.mono ?_
      rintro e w7 ⟨V7, rfl, hrow7, hr7, hf7⟩
      obtain ⟨AW, cW, hW, _, _⟩ := own_slice hrow7
      subst hW
      have hV7 : w7.ownsRow w.heap.size 24 4 (.slice AV L.length cV) L.length (L.flatMap crCells) := by
        obtain ⟨Ar, nr, cr, hrd⟩ := HI.out.rdr
        exact hf7.own HI.out.row (fun g hg e => by subst e; exact own_blk_ne HI.out.row hrd.1 (by decide) hg)
      have hbz7 : w.heap.size ≤ w7.heap.size := Nat.le_trans HI.out.below.size hf7.size
      have HR7 := Lib.hid (And.intro hrow7 (And.intro hr7 hf7)); clear hrow7 hr7 hf7
      go_wp2_with (at_builtin; refine stop ?_)
      refine back ?_
      refine wpList_append1 w7 _ rfl (.tmp 30) (.tmp 33) 38 rfl w.heap.size 24 _ 4 48 Tryd.underlying38 cmd_info2 rfl (by decide) _ _ _ #[.int .i64 (cmdR false (l, false)).1.kind, .int .i64 (cmdR false (l, false)).1.tx, .int .i64 (cmdR false (l, false)).1.time, .slice AW (cmdR false (l, false)).1.writes.length cW] rfl hV7 1 rfl _ rfl rfl (by simp [Value.oneCell']) (by unfold maxLen; omega) (by omega) hbz7 ?_
      intro v9 w9 hrow9 hm9
      obtain ⟨A9, c9, rfl, _, _⟩ := own_slice hrow9
      have hst := LgI.step (k := false) ⟨by decide, by decide⟩ HI.out rfl hn HR7.out.2.2 HR7.out.1 HR7.out.2.1 hm9 hrow9
      have HST9 := Lib.hid hst; clear hst hrow9 hm9 hV7
      go_wp2_with fail
      go_roundw
      case rel => exact ⟨m - 1, _, _, by congr 1; omega, by omega, by rw [HCS.out]; simp [csOf], HST9.out, fun _ => by simp; omega⟩
      case measure => simp [intOf]; omega
    · have hstop : m = 0 ∨ bd = true ∨ 500 < L.length := by rcases bd with _ | _ <;> simp_all <;> omega
      have hcs2 : logR false (b, false) = (csOf L, (l, bd)) := by rw [HLOG.out, hcs]; exact cmdsR_stop (by rcases hstop with h | h | h; (· exact .inl h); (· exact .inr (.inl h)); (· exact .inr (.inr ⟨rfl, by omega⟩)))
      have hrd : refReadL b = if bd = true ∨ (logOut (csOf L)).2 ≠ 0 ∨ (logOut (csOf L)).1 ≠ b then none else some (csOf L) := by unfold refReadL; rw [hcs2]
      have hL1 := h501 rfl
      have hrl := rlog_any L wr.heap.size AV L.length cV wr (fun x hx => (hI.own x hx).2.2) ⟨rfl, Rd.of_own hI.row, fun x hx => ⟨(hI.own x hx).2.1, Rd.of_own (hI.own x hx).1⟩⟩ (Nat.le_refl _) (by omega)
      have hbz := hI.below.size
      have HBW := Lib.hid hI.below
      have hkeep : ∀ w9, Below wr.heap.size wr w9 → RLPost (fun x => .int .i64 x) (some (csOf L)) w (.returned (.tuple #[.slice AV L.length cV, .int .i64 0])) w9 := fun w9 hb9 =>
        ⟨L, AV, _, cV, rfl, rfl, ⟨rfl, (Rd.of_own hI.row).below hb9 |>.more hb9.size, fun x hx => ⟨(hI.own x hx).2.1, ((Rd.of_own (hI.own x hx).1).below hb9).more hb9.size⟩⟩, hI.below.trans (hb9.mono hbz), by omega, fun x hx => by have h1 := (hI.own x hx).2; have h2 := h1.2.1; omega⟩
      have hinj := strOf_list_inj (logOut_bytes (csOf L)) hb
      have HK := Lib.hid hkeep; clear hkeep
      have HRD := Lib.hid hrd; clear hrd hcs hcs2 hI HLOG HST h501
      have HRL := Lib.hid hrl; clear hrl
      have HINJ := Lib.hid hinj; clear hinj
      have HR5 := Lib.hid hR5; clear hR5 hgo hc0
      rcases bd with _ | _
      · by_cases hm0 : (m : Int) > 0
        rotate_left
        · clear hstop
          go_wp2_with fail
          refine HRL.out.mono ?_
          rintro e w9 ⟨A9, c9, rfl, hr9, _, hb9⟩
          have hg1 := (HR5.out.1.below hb9 hpl).cell 1
          dsimp only at hg1
          clear hc1
          have hbw9 : Below w.heap.size w w9 := HBW.out.trans (hb9.mono hbz)
          have hcb := str_of (c := c) (H.out.below (hbw9.mono hB))
          have hco := str_of (c := c9) hr9
          have hgood := HK.out w9 hb9
          have hfail : RLPost (fun x => .int .i64 x) none w (.returned (.tuple #[.slice none 0 0, .int .i64 3])) w9 := RLPost.fail (E := fun x => .int .i64 x) hbw9
          have hinj := HINJ.out
          have hrd := HRD.out
          have hlo : outS (logS (csOf L)) = logOut (csOf L) := rfl
          rw [hlo] at hco ⊢
          have HG := Lib.hid hgood; clear hgood
          have HFa := Lib.hid hfail; clear hfail
          clear hlo hr9 hb9 HINJ HRD HK HRL HBW hbw9
          generalize logOut (csOf L) = out at *
          obtain ⟨ob, oe⟩ := out
          dsimp only at hco hinj hrd ⊢
          by_cases he : oe = 0
          · subst he
            by_cases hs : ob = b
            · skip
              have hrd2 : refReadL b = some (csOf L) := by rw [hrd, if_neg (by rintro (h | h | h); (· cases h); (· exact h rfl); (· exact h hs))]
              have HRD2 := Lib.hid hrd2; clear hrd2 hrd
              rw [decide_eq_true hs] at hinj
              clear hs
              go_wp2_with fail
              go_ret2
              rw [HRD2.out]
              exact HG.out
            · skip
              have hrd2 : refReadL b = none := by rw [hrd, if_pos (.inr (.inr hs))]
              have HRD2 := Lib.hid hrd2; clear hrd2 hrd
              rw [decide_eq_false hs] at hinj
              clear hs
              go_wp2_with fail
              go_ret2
              rw [HRD2.out]
              exact HFa.out
          · have d1 : (oe == 0) = false := by simpa using he
            have d2 : (oe != 0) = true := by simpa using he
            clear hinj
            have hrd2 : refReadL b = none := by rw [hrd, if_pos (.inr (.inl he))]
            have HRD2 := Lib.hid hrd2; clear hrd2 hrd
            clear he
            go_wp2_with fail
            go_ret2
            rw [HRD2.out]
            exact HFa.out
        · have hll : ¬ (L.length : Int) ≤ 500 := by rcases hstop with h | h | h; (· omega); (· cases h); (· omega)
          clear hstop
          go_wp2_with fail
          refine HRL.out.mono ?_
          rintro e w9 ⟨A9, c9, rfl, hr9, _, hb9⟩
          have hg1 := (HR5.out.1.below hb9 hpl).cell 1
          dsimp only at hg1
          clear hc1
          have hbw9 : Below w.heap.size w w9 := HBW.out.trans (hb9.mono hbz)
          have hcb := str_of (c := c) (H.out.below (hbw9.mono hB))
          have hco := str_of (c := c9) hr9
          have hgood := HK.out w9 hb9
          have hfail : RLPost (fun x => .int .i64 x) none w (.returned (.tuple #[.slice none 0 0, .int .i64 3])) w9 := RLPost.fail (E := fun x => .int .i64 x) hbw9
          have hinj := HINJ.out
          have hrd := HRD.out
          have hlo : outS (logS (csOf L)) = logOut (csOf L) := rfl
          rw [hlo] at hco ⊢
          have HG := Lib.hid hgood; clear hgood
          have HFa := Lib.hid hfail; clear hfail
          clear hlo hr9 hb9 HINJ HRD HK HRL HBW hbw9
          generalize logOut (csOf L) = out at *
          obtain ⟨ob, oe⟩ := out
          dsimp only at hco hinj hrd ⊢
          by_cases he : oe = 0
          · subst he
            by_cases hs : ob = b
            · skip
              have hrd2 : refReadL b = some (csOf L) := by rw [hrd, if_neg (by rintro (h | h | h); (· cases h); (· exact h rfl); (· exact h hs))]
              have HRD2 := Lib.hid hrd2; clear hrd2 hrd
              rw [decide_eq_true hs] at hinj
              clear hs
              go_wp2_with fail
              go_ret2
              rw [HRD2.out]
              exact HG.out
            · skip
              have hrd2 : refReadL b = none := by rw [hrd, if_pos (.inr (.inr hs))]
              have HRD2 := Lib.hid hrd2; clear hrd2 hrd
              rw [decide_eq_false hs] at hinj
              clear hs
              go_wp2_with fail
              go_ret2
              rw [HRD2.out]
              exact HFa.out
          · have d1 : (oe == 0) = false := by simpa using he
            have d2 : (oe != 0) = true := by simpa using he
            clear hinj
            have hrd2 : refReadL b = none := by rw [hrd, if_pos (.inr (.inl he))]
            have HRD2 := Lib.hid hrd2; clear hrd2 hrd
            clear he
            go_wp2_with fail
            go_ret2
            rw [HRD2.out]
            exact HFa.out
      · clear hstop
        by_cases hm0 : (m : Int) > 0
        all_goals
          go_wp2_with fail
          refine HRL.out.mono ?_
          rintro e w9 ⟨A9, c9, rfl, hr9, _, hb9⟩
          have hg1 := (HR5.out.1.below hb9 hpl).cell 1
          dsimp only at hg1
          clear hc1
          have hbw9 : Below w.heap.size w w9 := HBW.out.trans (hb9.mono hbz)
          have hcb := str_of (c := c) (H.out.below (hbw9.mono hB))
          have hco := str_of (c := c9) hr9
          have hgood := HK.out w9 hb9
          have hfail : RLPost (fun x => .int .i64 x) none w (.returned (.tuple #[.slice none 0 0, .int .i64 3])) w9 := RLPost.fail (E := fun x => .int .i64 x) hbw9
          have hinj := HINJ.out
          have hrd := HRD.out
          have hlo : outS (logS (csOf L)) = logOut (csOf L) := rfl
          rw [hlo] at hco ⊢
          have HG := Lib.hid hgood; clear hgood
          have HFa := Lib.hid hfail; clear hfail
          clear hlo hr9 hb9 HINJ HRD HK HRL HBW hbw9
          generalize logOut (csOf L) = out at *
          obtain ⟨ob, oe⟩ := out
          dsimp only at hco hinj hrd ⊢
          clear hinj
          have hrd2 : refReadL b = none := by rw [hrd, if_pos (.inl (by first | rfl | trivial))]
          have HRD2 := Lib.hid hrd2; clear hrd2 hrd
          go_wp2_with fail
          go_ret2
          rw [HRD2.out]
          exact HFa.out
end Go.Proofs.YtnahkpfamocnfaaDoor
