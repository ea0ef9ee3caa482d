/- chainmaillaw.WireReads: its walk. -/
import Derived.Test.YtnahkpfamocnfaaDoorSame
import Derived.Test.YtnahkpfamocnfaaDoorReadMW
import Derived.Test.YtnahkpfamocnfaaDoorReadME
import Derived.Test.YtnahkpfamocnfaaDoorReadLW
import Derived.Test.YtnahkpfamocnfaaDoorReadLE
import Derived.Test.YtnahkpfamocnfaaDoorTell
namespace Go.Proofs.YtnahkpfamocnfaaDoor
open Go.RowKit
theorem msgR_short {k : Bool} {b : List Nat} (h : b.length ≤ 3000) : (msgR k (b, false)).1.cmd.writes.length ≤ 4000 := by
  have h1 := (fourR_len k (b, false)).1
  have h2 := (numR_len k (fourR k (b, false)).2.2.2.2).1
  unfold msgR
  dsimp only at h1 ⊢
  split
  · exact (cmdR_small (k := k) (s := ((numR k (fourR k (b, false)).2.2.2.2).2.1, (numR k (fourR k (b, false)).2.2.2.2).2.2 || msgBad k (fourR k (b, false)).1)) (by dsimp only; omega)).1
  · exact Nat.zero_le _
theorem readM_short {b : List Nat} (h : b.length ≤ 3000) : ((refReadM b).getD zmsg).cmd.writes.length ≤ 4000 := by
  unfold refReadM
  dsimp only
  split
  · exact Nat.zero_le _
  · exact msgR_short h
theorem same_err {k : Int} : (k == k) = true := by simp
set_option maxRecDepth 100000 in
set_option maxHeartbeats 4000000 in
theorem wireReads_walk (b : List Nat) (B n c : Nat) (A : Option Addr) (w : World) (h : Rd w B 1 A n (b.map bv)) (hB : B ≤ w.heap.size) (hc : n ≤ c) (hb : Bytes b) (hL : Laid w) :
    Calls Tryd.prog 6 #[.slice A n c] w (TrueP w) := by
  have hbl : b.length = n := by have := h.1; simpa using this
  have H := Lib.hid h; clear h
  have HL := Lib.hid hL; clear hL
  go_enter Tryd.func6, Tryd.ntmps6
  by_cases h3 : (n : Int) > 3000
  · go_wp2_with fail
    go_ret
    exact ⟨rfl, Below.refl _ _⟩
  · have hn : n ≤ 3000 := by omega
    have hms := readM_same hb
    have hls := readL_same hb
    have hsh := readM_short (b := b) (by omega)
    have hcm1 := fun W h => ereadM_any b B n c A W h
    have hcm2 := fun W h => wreadM_any b B n c A W h
    have hcl1 := fun W h => ereadL_any b B n c A W h
    have hcl2 := fun W h => wreadL_any b B n c A W h
    rw [hms] at hcm2
    rw [hls] at hcl2
    generalize refReadM b = om at *
    generalize refReadL b = ol at *
    have HM1 := Lib.hid hcm1; clear hcm1
    have HM2 := Lib.hid hcm2; clear hcm2
    have HL1 := Lib.hid hcl1; clear hcl1
    have HL2 := Lib.hid hcl2; clear hcl2
    clear hms hls
    go_wp2_with fail
    refine (HM1.out w H.out hB hc hb hn).mono ?_
    rintro e w1 ⟨A1, n1, k1, rfl, hp1, hb1⟩
    generalize hk : (if om.isSome = true then (0 : Int) else 3) = km at *
    generalize hmm : om.getD zmsg = m at *
    have hn1 : n1 ≤ 10000 := by rw [← hp1.1]; omega
    have HP1 := Lib.hid hp1; clear hp1
    unfold msgV
    go_wp2_with fail
    have hz1 := hb1.size
    have hb1a : Below w.heap.size w (w1.alloc (.cells (msgCells m A1 n1 k1) 26)) := hb1.alloc hz1 _
    refine (HM2.out _ (H.out.below (hb1a.mono hB)) (Nat.le_trans hB hb1a.size) hc hb hn).mono ?_
    rintro e w2 ⟨A2, n2, k2, rfl, hp2, hb2⟩
    rw [hk, hmm]
    rw [hmm] at hp2
    have hn2 : n2 = n1 := by rw [← hp2.1, ← HP1.out.1]
    subst hn2
    have hx1 : Blk w2 w1.heap.size 26 (msgCells m A1 n2 k1) := (Blk.new w1 _ _).below hb2 (by simp)
    have HX1 := Lib.hid hx1; clear hx1
    have HP2 := Lib.hid hp2; clear hp2
    have hbw2 : Below w.heap.size w w2 := hb1a.trans (hb2.mono hb1a.size)
    have h12 : w1.heap.size < w2.heap.size := HX1.out.lt
    unfold msgV
    go_wp2_with fail
    have hz2 := hbw2.size
    have hb2a : Below w2.heap.size w2 (w2.alloc (.cells (msgCells m A2 n2 k2) 26)) := (Below.refl _ _).alloc (Nat.le_refl _) _
    have hbw2a := hbw2.trans (hb2a.mono hz2)
    refine (HL1.out _ (H.out.below (hbw2a.mono hB)) (Nat.le_trans hB hbw2a.size) hc hb hn).mono ?_
    rintro e w3 ⟨L1, A3, n3, k3, rfl, hcs1, hr3, hb3, hn3, hx3⟩
    generalize hkl : (if ol.isSome = true then (0 : Int) else 3) = kl at *
    have HR3 := Lib.hid hr3; clear hr3
    have hbw3 := hbw2a.trans (hb3.mono hbw2a.size)
    go_wp2_with fail
    refine (HL2.out w3 (H.out.below (hbw3.mono hB)) (Nat.le_trans hB hbw3.size) hc hb hn).mono ?_
    rintro e w4 ⟨L2, A4, n4, k4, rfl, hcs2, hr4, hb4, _, _⟩
    rw [hkl]
    have hcs : csOf L2 = csOf L1 := by rw [hcs1, hcs2]
    have hn4 : n4 = n3 := by
      rw [← hr4.1, ← HR3.out.1]
      have := congrArg List.length hcs
      simpa [csOf] using this
    subst hn4
    have HR4 := Lib.hid hr4; clear hr4
    have h24 : Below w2.heap.size w2 w4 := (hb2a.trans (hb3.mono hb2a.size)).trans (hb4.mono (Nat.le_trans hb2a.size hb3.size))
    have hbw4 := hbw3.trans (hb4.mono hbw3.size)
    have hy1 : Blk w4 w1.heap.size 26 (msgCells m A1 n2 k1) := HX1.out.below h24 h12
    have hy2 : Blk w4 w2.heap.size 26 (msgCells m A2 n2 k2) := ((Blk.new w2 _ _).below hb3 (by simp)).below hb4 (by have := hb3.size; simp at this; omega)
    have HY1 := Lib.hid hy1; clear hy1
    have HY2 := Lib.hid hy2; clear hy2
    have hP1 : ReadsP w4 w1.heap.size A1 n2 m.cmd.writes := ⟨HP1.out.1, (HP1.out.2.below (((Below.refl w1.heap.size w1).alloc (Nat.le_refl _) _).trans (hb2.mono (by simp)))).below (h24.mono (by omega))⟩
    have hP2 : ReadsP w4 w2.heap.size A2 n2 m.cmd.writes := ⟨HP2.out.1, HP2.out.2.below h24⟩
    have HP1' := Lib.hid hP1; clear hP1
    have HP2' := Lib.hid hP2; clear hP2
    have h4z := h24.size
    go_wp2_with fail
    have hbare := bare_any km km w4 (HL.out.below hbw4 HL.out.pos)
    rw [same_err] at hbare
    refine hbare.mono ?_
    rintro e w5 ⟨rfl, hb5⟩
    have hbw5 := hbw4.trans (hb5.mono hbw4.size)
    have h5z := hb5.size
    have hq1 : Blk w5 w1.heap.size 26 (msgCells m A1 n2 k1) := HY1.out.below hb5 (by omega)
    have hq2 : Blk w5 w2.heap.size 26 (msgCells m A2 n2 k2) := HY2.out.below hb5 HY2.out.lt
    have hsm := sameMsg m w2.heap.size w1.heap.size n2 k2 k1 A2 A1 w5 ⟨HP2'.out.1, HP2'.out.2.below (hb5.mono (by omega))⟩ ⟨HP1'.out.1, HP1'.out.2.below (hb5.mono (by omega))⟩ (by omega) (by omega) hn1
    unfold msgV at hsm
    have HSM := Lib.hid hsm; clear hsm
    have hk0 := hq1.cell 0
    have hj0 := hq2.cell 0
    have hk1 := hq1.cell 1
    have hj1 := hq2.cell 1
    have hk2 := hq1.cell 2
    have hj2 := hq2.cell 2
    have hk3 := hq1.cell 3
    have hj3 := hq2.cell 3
    have hk4 := hq1.cell 4
    have hj4 := hq2.cell 4
    have hk5 := hq1.cell 5
    have hj5 := hq2.cell 5
    have hk6 := hq1.cell 6
    have hj6 := hq2.cell 6
    have hk7 := hq1.cell 7
    have hj7 := hq2.cell 7
    have hk8 := hq1.cell 8
    have hj8 := hq2.cell 8
    simp only [msgCells, List.getElem?_toArray, List.getElem?_cons_succ, List.getElem?_cons_zero] at hk0 hj0 hk1 hj1 hk2 hj2 hk3 hj3 hk4 hj4 hk5 hj5 hk6 hj6 hk7 hj7 hk8 hj8
    have hlt1 := hq1.lt
    have hlt2 := hq2.lt
    clear hq1 hq2
    go_wp2_with fail
    refine HSM.out.mono ?_
    rintro e w6 ⟨rfl, hb6⟩
    have hbw6 := hbw5.trans (hb6.mono hbw5.size)
    clear hk0 hj0 hk1 hj1 hk2 hj2 hk3 hj3 hk4 hj4 hk5 hj5 hk6 hj6 hk7 hj7 hk8 hj8
    go_wp2_with fail
    have hbare2 := bare_any kl kl w6 (HL.out.below hbw6 HL.out.pos)
    rw [same_err] at hbare2
    refine hbare2.mono ?_
    rintro e w7 ⟨rfl, hb7⟩
    have hbw7 := hbw6.trans (hb7.mono hbw6.size)
    have h47 : Below w4.heap.size w4 w7 := hb5.trans ((hb6.mono h5z).trans (hb7.mono (Nat.le_trans h5z hb6.size)))
    have h37 : Below w3.heap.size w3 w7 := hb4.trans (h47.mono hb4.size)
    have h4s := hb4.size
    have h7s := h47.size
    have hr1 : ReadsC w7 w3.heap.size A3 n4 L1 := HR3.out.below h37
    have hr2 : ReadsC w7 w4.heap.size A4 n4 L2 := HR4.out.below h47
    have hx4 : ∀ x ∈ L2, x.n ≤ 10000 := fun x hx => by
      have h1 : x.c ∈ csOf L1 := by rw [← hcs]; exact List.mem_map.2 ⟨x, hx, rfl⟩
      obtain ⟨y, hy, e⟩ := List.mem_map.1 h1
      have h2 := hx3 y hy
      have h3 := (hr1.2.2 y hy).1
      have h4 := (hr2.2.2 x hx).1
      rw [e] at h3
      omega
    have hsl := sameLog L2 L1 hcs w4.heap.size w3.heap.size n4 k4 k3 A4 A3 w7 hr2 hr1 (by omega) (by omega) hn3 hx4
    have HSL := Lib.hid hsl; clear hsl hr1 hr2 hx4 hx3
    go_wp2_with fail
    refine HSL.out.mono ?_
    rintro e w8 ⟨rfl, hb8⟩
    have hbw8 := hbw7.trans (hb8.mono hbw7.size)
    go_wp2_with fail
    go_ret
    exact ⟨rfl, hbw8⟩
end Go.Proofs.YtnahkpfamocnfaaDoor
