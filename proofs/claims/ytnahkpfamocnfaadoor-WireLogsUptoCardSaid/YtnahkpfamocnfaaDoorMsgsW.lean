/- chainmaillaw.WireMsgs: the walk. -/
import Derived.Test.YtnahkpfamocnfaaDoorMsgR
namespace Go.Proofs.YtnahkpfamocnfaaDoor
open Go.RowKit
theorem few_any (c : Cm) (A : Option Addr) (n k : Nat) (w : World) : Calls Tryd.prog 8 #[cmdV c A n k] w fun e w' => e = .returned (.bool (decide ((n : Int) ≤ 40))) ∧ Below w.heap.size w w' := by
  unfold cmdV
  go_enter Tryd.func8, Tryd.ntmps8
  go_wp2_with fail
  go_ret
  exact ⟨rfl, (Below.refl _ _).alloc (Nat.le_refl _) _⟩
set_option maxRecDepth 100000 in
set_option maxHeartbeats 1000000 in
theorem msgs_walk (m : Ms) (B : Nat) (A : Option Addr) (n k : Nat) (w : World) (hs : ∀ p ∈ m.cmd.writes, small p) (hr : ReadsP w B A n m.cmd.writes) (hB : B ≤ w.heap.size) (hL : Laid w) :
    Calls Tryd.prog 3 #[msgV m A n k] w fun e w' => e = .returned (.bool true) ∧ Below w.heap.size w w' := by
  unfold msgV
  have hbx : Blk (w.alloc (.cells #[.int .i64 m.kind, .int .i64 m.from_, .int .i64 m.to_, .int .i64 m.epoch, .int .i64 m.n, .int .i64 m.cmd.kind, .int .i64 m.cmd.tx, .int .i64 m.cmd.time, .slice A n k] 26)) w.heap.size 26 (msgCells m A n k) := Blk.new w _ _
  have HBX := Lib.hid hbx; clear hbx
  have hfew := few_any m.cmd A n k
  unfold cmdV at hfew
  have HFEW := Lib.hid hfew; clear hfew
  by_cases hn : (n : Int) ≤ 40
  · have hc : smallC m.cmd := ⟨by rw [hr.1]; omega, hs⟩
    have HC := Lib.hid hc; clear hc hs
    have hrm := fun W => rmsg_any m B A n k W HC.out
    have hwm := fun W => wmsg_any m B A n k W HC.out
    unfold msgV at hrm hwm
    have HRM := Lib.hid hrm; clear hrm
    have HWM := Lib.hid hwm; clear hwm
    go_enter Tryd.func3, Tryd.ntmps3
    go_wp2_with fail
    refine (HFEW.out _).mono ?_
    rintro e w1 ⟨rfl, hb1⟩
    have hbl := HBX.out.below hb1 (by simp)
    have hB1 : Below w.heap.size w w1 := ((Below.refl _ _).alloc (Nat.le_refl _) _).trans (hb1.mono (by simp))
    have hx0 := hbl.cell 0
    have hx1 := hbl.cell 1
    have hx2 := hbl.cell 2
    have hx3 := hbl.cell 3
    have hx4 := hbl.cell 4
    have hx5 := hbl.cell 5
    have hx6 := hbl.cell 6
    have hx7 := hbl.cell 7
    have hx8 := hbl.cell 8
    simp only [msgCells] at hx0 hx1 hx2 hx3 hx4 hx5 hx6 hx7 hx8
    go_wp2_with fail
    refine (HRM.out w1 ⟨hr.1, hr.2.below (hB1.mono hB)⟩ (by have := hB1.size; omega)).mono ?_
    rintro e w2 ⟨A2, c2, rfl, hr2, hf2, hb2⟩
    have hbl2 := hbl.below hb2 (by have := hbl.lt; omega)
    have hB2 : Below w.heap.size w w2 := hB1.trans (hb2.mono hB1.size)
    clear hx0 hx1 hx2 hx3 hx4 hx5 hx6 hx7 hx8
    have hx0 := hbl2.cell 0
    have hx1 := hbl2.cell 1
    have hx2 := hbl2.cell 2
    have hx3 := hbl2.cell 3
    have hx4 := hbl2.cell 4
    have hx5 := hbl2.cell 5
    have hx6 := hbl2.cell 6
    have hx7 := hbl2.cell 7
    have hx8 := hbl2.cell 8
    simp only [msgCells] at hx0 hx1 hx2 hx3 hx4 hx5 hx6 hx7 hx8
    have HR2 := Lib.hid hr2; clear hr2 hf2
    go_wp2_with fail
    refine (HWM.out w2 ⟨hr.1, hr.2.below (hB2.mono hB)⟩ (by have := hB2.size; omega)).mono ?_
    rintro e w3 ⟨A3, c3, rfl, hr3, hf3, hb3⟩
    have hB3 : Below w.heap.size w w3 := hB2.trans (hb3.mono hB2.size)
    have hr2' := HR2.out.below hb3
    have hL3 : Laid w3 := hL.below hB3 (by have := hL.pos; omega)
    clear hx0 hx1 hx2 hx3 hx4 hx5 hx6 hx7 hx8 HR2 hf3
    have HR2 := Lib.hid hr2'; clear hr2'
    have HR3 := Lib.hid hr3; clear hr3
    have HL := Lib.hid hL3; clear hL3
    generalize hE : errV (msgOut m).2 = ev
    have HE := Lib.hid hE; clear hE
    generalize hG : (msgOut m).2 = er
    have HG := Lib.hid hG; clear hG
    generalize hK : (msgOut m).1 = bs
    rw [hK] at HR2 HR3
    clear hK
    go_wp2_with fail
    have hev : ev = errV er := by rw [← HE.out, HG.out]
    rw [hev]
    refine (bare_any er er w3 HL.out).mono ?_
    rintro e w4 ⟨rfl, hb4⟩
    have hB4 : Below w.heap.size w w4 := hB3.trans (hb4.mono hB3.size)
    have hc2 := run_string_of (P := Tryd.prog) w4 28 9 5 Tryd.underlying28 Tryd.underlying5 Tryd.underlying9 _ _ c2 A2 bs ((HR2.out.below (hb4.mono hb3.size)).reads)
    have hc3 := run_string_of (P := Tryd.prog) w4 28 9 5 Tryd.underlying28 Tryd.underlying5 Tryd.underlying9 _ _ c3 A3 bs ((HR3.out.below hb4).reads)
    have he : (er == er) = true := by simp
    rw [he]
    clear hev HE HG HL
    go_wp2_with fail
    go_ret
    exact ⟨rfl, hB4⟩
  · go_enter Tryd.func3, Tryd.ntmps3
    go_wp2_with fail
    refine (HFEW.out _).mono ?_
    rintro e w1 ⟨rfl, hb1⟩
    have hB1 : Below w.heap.size w w1 := ((Below.refl _ _).alloc (Nat.le_refl _) _).trans (hb1.mono (by simp))
    have d1 : decide ((n : Int) ≤ 40) = false := by simpa using hn
    rw [d1]
    go_wp2_with fail
    go_ret
    exact ⟨rfl, hB1⟩
end Go.Proofs.YtnahkpfamocnfaaDoor
