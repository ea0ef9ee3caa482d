/- net.Down: its predicate, slices.IndexFunc, slices.DeleteFunc of messages. -/
import Derived.Test.YtnahkpfamocnfaaDoorNet5
namespace Go.Proofs.YtnahkpfamocnfaaDoor
open Go.RowKit
def goneF (b : Nat) : Value := .func (.func 55) #[] #[.pointer (some ⟨b, 0, none⟩)]
set_option maxRecDepth 100000 in
set_option maxHeartbeats 1000000 in
theorem gone_any (b : Nat) (id : Int) (x : MsR) (w : World) (hb : w.cell? ⟨b, 0, none⟩ = some (.int .i64 id)) :
    Calls Tryd.prog 55 #[mrV x, .pointer (some ⟨b, 0, none⟩)] w fun e w' => e = .returned (.bool (gone id x.m)) ∧ Below w.heap.size w w' := by
  have hlt := World.block_lt_of_cell? w _ hb
  have hbl : ∀ o, Below w.heap.size w (w.alloc o) := fun o => (Below.refl _ _).alloc (Nat.le_refl _) _
  have HBL := Lib.hid hbl; clear hbl
  unfold mrV msgV
  have hg : gone id x.m = (decide (x.m.from_ = id) || decide (x.m.to_ = id)) := rfl
  by_cases h1 : x.m.from_ = id
  · have d1 : (x.m.from_ == id) = true := by simpa using h1
    have hg' : gone id x.m = true := by rw [hg, decide_eq_true h1]; rfl
    have HG := Lib.hid hg'; clear hg' hg h1
    go_enter Tryd.func55, Tryd.ntmps55
    go_wp2_with fail
    go_ret
    rw [HG.out]
    exact ⟨rfl, HBL.out _⟩
  · have d1 : (x.m.from_ == id) = false := by simpa using h1
    have hg' : gone id x.m = (x.m.to_ == id) := by rw [hg, decide_eq_false h1]; by_cases h : x.m.to_ = id <;> simp [h]
    have HG := Lib.hid hg'; clear hg' hg h1
    go_enter Tryd.func55, Tryd.ntmps55
    go_wp2_with fail
    go_ret
    rw [HG.out]
    exact ⟨rfl, HBL.out _⟩
def fidx (p : Ms → Bool) (L : List MsR) : Int := match L.findIdx? (fun x => p x.m) with | some i => (i : Int) | none => -1
def ixRel (p : Ms → Bool) (L : List MsR) (n : Nat) (w : World) (v : Value) (wr : World) : Prop := ∃ j : Nat, v = .int .i64 j ∧ j ≤ n ∧ (∀ x ∈ L.take j, p x.m = false) ∧ Below w.heap.size w wr
set_option maxRecDepth 100000 in
set_option maxHeartbeats 2000000 in
theorem index_any (b g off k n : Nat) (id : Int) (L : List MsR) (w : World) (hb : w.cell? ⟨b, 0, none⟩ = some (.int .i64 id)) (hr : Rd w w.heap.size 9 (some ⟨g, off, none⟩) n (L.flatMap mrCells)) (hl : L.length = n) (hn : n ≤ 100000) :
    Calls Tryd.prog 70 #[.slice (some ⟨g, off, none⟩) n k, goneF b] w fun e w' => e = .returned (.int .i64 (fidx (gone id) L)) ∧ Below w.heap.size w w' := by
  unfold goneF
  have HR := Lib.hid hr; clear hr
  go_enter Tryd.func70, Tryd.ntmps70
  go_wp2_with fail
  go_loopw [8] (ixRel (gone id) L n w) (fun v _ => n - (intOf v).toNat)
  case atStart => exact ⟨0, rfl, Nat.zero_le _, (fun x hx => by simp at hx), Below.refl _ _⟩
  case round =>
    obtain ⟨j, rfl, hj, hno, hbw⟩ := hrel
    by_cases hlt : (j : Int) < n
    · obtain ⟨g', o', x, hA, hga, hx, h0, h1, h2, h3, h4, h5, h6, h7, h8⟩ := (HR.out.below hbw).cells9 hl (j := j) (by omega)
      simp only [Option.some.injEq, Addr.mk.injEq, and_true] at hA
      obtain ⟨rfl, rfl⟩ := hA
      have hgw : g < wr.heap.size := Nat.lt_of_lt_of_le hga hbw.size
      have hcall := gone_any b id x wr ((hbw.cell (p := ⟨b, 0, none⟩) (World.block_lt_of_cell? w _ hb)).trans hb)
      have hjl : j < L.length := by omega
      have hyes : gone id x.m = true → fidx (gone id) L = j := fun hp => by
        have : L.findIdx? (fun x => gone id x.m) = some j := by
          rw [List.findIdx?_eq_some_iff_getElem]
          refine ⟨hjl, ?_, fun i hi => ?_⟩
          · rw [← Option.some.inj ((List.getElem?_eq_getElem hjl).symm.trans hx)] at hp; exact hp
          · simp only [Bool.not_eq_true]
            exact hno _ (by rw [List.mem_take_iff_getElem]; exact ⟨i, by omega, rfl⟩)
        unfold fidx
        rw [this]
      have hstep : gone id x.m = false → ∀ y ∈ L.take (j + 1), gone id y.m = false := fun hp y hy => by
        rw [List.take_add_one, hx] at hy
        rcases List.mem_append.1 hy with hy | hy
        · exact hno y hy
        · simp at hy; rw [hy]; exact hp
      have HYES := Lib.hid hyes; clear hyes
      have HSTEP := Lib.hid hstep; clear hstep
      have HNO := Lib.hid hno; clear hno
      have HC := Lib.hid hcall; clear hcall
      have HX := Lib.hid hx; clear hx
      clear hb
      unfold mrV msgV at HC
      go_wp2_with fail
      refine HC.out.mono ?_
      rintro e w2 ⟨rfl, hb2⟩
      have hbw2 := hbw.trans (hb2.mono hbw.size)
      have HB2 := Lib.hid hbw2; clear hbw2
      rcases hp : gone id x.m with _ | _
      · have HP := Lib.hid hp; clear hp
        go_wp2_with fail
        go_roundw
        case rel => exact ⟨j + 1, rfl, by omega, HSTEP.out HP.out, HB2.out⟩
        case measure => simp [intOf]; omega
      · have HP := Lib.hid hp; clear hp
        go_wp2_with fail
        go_ret
        exact ⟨by rw [HYES.out HP.out]; rfl, HB2.out⟩
    · obtain rfl : j = n := by omega
      have hnone : fidx (gone id) L = -1 := by
        have : L.findIdx? (fun x => gone id x.m) = none := by
          rw [List.findIdx?_eq_none_iff]
          intro x hx
          exact hno x (by rw [List.take_of_length_le (by omega)]; exact hx)
        unfold fidx
        rw [this]
      have HN := Lib.hid hnone; clear hnone hno hb
      go_wp2_with fail
      go_ret
      rw [HN.out]
      exact ⟨rfl, hbw⟩
end Go.Proofs.YtnahkpfamocnfaaDoor
