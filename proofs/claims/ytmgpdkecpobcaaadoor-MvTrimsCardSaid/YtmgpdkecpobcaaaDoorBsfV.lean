/- slices.BinarySearchFunc: of versions. -/
import Derived.Test.YtmgpdkecpobcaaaDoorMv1
import Derived.Deep.CutBlock
namespace Go.Proofs.YtmgpdkecpobcaaaDoor
open Go.RowKit
/-- A function value that compares an element with t by cf, in whatever world that has grown out of w. -/
def VCmpW (F : Nat) (cf : VxR → Int) (t : Int) (w : World) : Prop :=
  ∀ (W : World) (x : VxR), Below w.heap.size w W → (True) → Calls Tryd.prog F #[vxV x, .int .i64 t] W fun e w' => e = .returned (.int .i64 (cf x)) ∧ Below W.heap.size W w'
def VBsRel (cf : VxR → Int) (L : List VxR) (n : Nat) (w : World) (u v : Value) (wr : World) : Prop :=
  ∃ i j : Nat, u = .int .i64 i ∧ v = .int .i64 j ∧ i ≤ j ∧ j ≤ n ∧ (∀ k (h : k < L.length), k < i → cf L[k] < 0) ∧ (∀ k (h : k < L.length), j ≤ k → 0 ≤ cf L[k]) ∧ Below w.heap.size w wr
def VBsPost (cf : VxR → Int) (L : List VxR) (n : Nat) (w : World) (e : Ending) (w' : World) : Prop :=
  ∃ (i : Nat) (f : Bool), e = .returned (.tuple #[.int .i64 i, .bool f]) ∧ i ≤ n ∧ (∀ k (h : k < L.length), k < i → cf L[k] < 0) ∧ (∀ k (h : k < L.length), i ≤ k → 0 ≤ cf L[k]) ∧ (f = true ↔ ∃ h : i < L.length, cf L[i] = 0) ∧ Below w.heap.size w w'
set_option maxRecDepth 100000 in
set_option maxHeartbeats 4000000 in
/-- cf rises along the list. -/
theorem vsearch_any (F : Nat) (cf : VxR → Int) (A : Option Addr) (n k : Nat) (L : List VxR) (t : Int) (w : World) (eg : ∀ args w, (callFunc F args).run Tryd.prog w = .ok (.enter F args) w)
    (hp : VCmpW F cf t w) (hr : Rd w w.heap.size 3 A n (L.flatMap vxCells)) (hl : L.length = n) (hn : n ≤ 100000) (hok : ∀ x ∈ L, True)
    (hmono : ∀ (i j : Nat) (hi : i < L.length) (hj : j < L.length), i ≤ j → cf L[i] ≤ cf L[j]) :
    Calls Tryd.prog 19 #[.slice A n k, .int .i64 t, .func (.func F) #[] #[]] w (VBsPost cf L n w) := by
  have HR := Lib.hid hr; clear hr
  have HP := Lib.hid hp; clear hp
  have HM := Lib.hid hmono; clear hmono
  have HOK := Lib.hid hok; clear hok
  have HL := Lib.hid hl; clear hl
  go_enter Tryd.func19, Tryd.ntmps19
  go_wp2_with fail
  go_loopw [9, 10] (VBsRel cf L n w) (fun u v _ => (intOf v).toNat - (intOf u).toNat)
  case atStart => exact ⟨0, n, rfl, rfl, Nat.zero_le _, Nat.le_refl _, fun k h h2 => absurd h2 (by omega), fun k h h2 => absurd h2 (by have := HL.out; omega), Below.refl _ _⟩
  case round =>
    obtain ⟨i, j, rfl, rfl, hij, hjn, hlo, hhi, hbw⟩ := hrel
    have HBW := Lib.hid hbw
    have HLO := Lib.hid hlo; clear hlo
    have HHI := Lib.hid hhi; clear hhi
    by_cases hlt : (i : Int) < j
    · have hmi : i ≤ (i + j) / 2 := by omega
      have hmj : (i + j) / 2 < j := by omega
      obtain ⟨g', o', x, rfl, hga, hx, h0, h1, h2⟩ := (HR.out.below hbw).cellsV HL.out (j := (i + j) / 2) (by omega)
      have hgw : g' < wr.heap.size := Nat.lt_of_lt_of_le hga hbw.size
      have hxok := HOK.out x (List.mem_of_getElem? hx)
      have hcall := HP.out wr x hbw hxok
      have HC := Lib.hid hcall; clear hcall
      have HX := Lib.hid hx; clear hx hbw
      go_wp2_with fail
      refine HC.out.mono ?_
      rintro e w2 ⟨rfl, hb2⟩
      have hbw2 := HBW.out.trans (hb2.mono HBW.out.size)
      have HB2 := Lib.hid hbw2; clear hbw2 hb2 HC
      obtain ⟨hml, hxe⟩ := List.getElem?_eq_some_iff.1 HX.out
      have HXE := Lib.hid hxe; clear hxe
      by_cases hc : cf x < 0
      · have d1 : decide (cf x < 0) = true := decide_eq_true hc
        have hrel2 : VBsRel cf L n w (.int .i64 (((i + j) / 2 + 1 : Nat) : Int)) (.int .i64 j) w2 := by
          refine ⟨(i + j) / 2 + 1, j, rfl, rfl, by omega, hjn, fun q hq h2 => ?_, HHI.out, HB2.out⟩
          have := HM.out q ((i + j) / 2) hq hml (by omega)
          rw [HXE.out] at this
          omega
        have HR2 := Lib.hid hrel2; clear hrel2 hc
        go_wp2_with fail
        go_roundw
        case rel => exact HR2.out
        case measure => simp [intOf]; omega
      · have d1 : decide (cf x < 0) = false := decide_eq_false hc
        have hrel2 : VBsRel cf L n w (.int .i64 i) (.int .i64 (((i + j) / 2 : Nat) : Int)) w2 := by
          refine ⟨i, (i + j) / 2, rfl, rfl, by omega, by omega, HLO.out, fun q hq h2 => ?_, HB2.out⟩
          have := HM.out ((i + j) / 2) q hml hq h2
          rw [HXE.out] at this
          omega
        have HR2 := Lib.hid hrel2; clear hrel2 hc
        go_wp2_with fail
        go_roundw
        case rel => exact HR2.out
        case measure => simp [intOf]; omega
    · obtain rfl : j = i := by omega
      by_cases hin : (j : Int) < n
      · obtain ⟨g', o', x, rfl, hga, hx, h0, h1, h2⟩ := (HR.out.below hbw).cellsV HL.out (j := j) (by omega)
        have hgw : g' < wr.heap.size := Nat.lt_of_lt_of_le hga hbw.size
        have hcall := HP.out wr x hbw (HOK.out x (List.mem_of_getElem? hx))
        have HC := Lib.hid hcall; clear hcall
        have HX := Lib.hid hx; clear hx hbw
        go_wp2_with fail
        refine HC.out.mono ?_
        rintro e w2 ⟨rfl, hb2⟩
        have hbw2 := HBW.out.trans (hb2.mono HBW.out.size)
        have HB2 := Lib.hid hbw2; clear hbw2 hb2 HC
        have hfin : VBsPost cf L n w (.returned (.tuple #[.int .i64 j, .bool (cf x == 0)])) w2 := by
          obtain ⟨hml, hxe⟩ := List.getElem?_eq_some_iff.1 HX.out
          refine ⟨j, _, rfl, by omega, HLO.out, HHI.out, ?_, HB2.out⟩
          rw [beq_iff_eq]
          exact ⟨fun h => ⟨hml, by rw [hxe]; exact h⟩, fun ⟨_, h⟩ => by rw [hxe] at h; exact h⟩
        have HF := Lib.hid hfin; clear hfin
        go_wp2_with fail
        go_ret2
        exact HF.out
      · have hfin : VBsPost cf L n w (.returned (.tuple #[.int .i64 j, .bool false])) wr :=
          ⟨j, false, rfl, by omega, HLO.out, HHI.out, ⟨fun h => (by cases h), fun ⟨h, _⟩ => absurd h (by have := HL.out; omega)⟩, HBW.out⟩
        have HF := Lib.hid hfin; clear hfin hbw
        go_wp2_with fail
        go_ret2
        exact HF.out
end Go.Proofs.YtmgpdkecpobcaaaDoor
