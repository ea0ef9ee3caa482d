/- chainmaillaw.sameInts: true of two slices that hold the same numbers. -/
import Derived.Test.YtopmehbncidpnaaGreatDoorRt8
namespace Go.Proofs.YtopmehbncidpnaaGreatDoor
open Go.RowKit
theorem intsI_at {w : World} {B n k : Nat} {A : Option Addr} {l : List Int} (h : Rd w B 1 A n (l.map (Value.int .i64))) (hk : k < n) : ∃ g off x, A = some ⟨g, off, none⟩ ∧ g < B ∧ l[k]? = some x ∧ w.cell? ⟨g, off + k, none⟩ = some (.int .i64 x) := by
  obtain ⟨g, off, u, hA, hg, hx, hc⟩ := h.at1 hk
  rw [List.getElem?_map] at hx
  rcases hh : l[k]? with _ | x
  · rw [hh] at hx; simp at hx
  · rw [hh] at hx; simp at hx; subst hx; exact ⟨g, off, x, hA, hg, rfl, hc⟩
def SameRelI (n : Nat) (w : World) (v : Value) (wr : World) : Prop := ∃ j : Nat, v = .int .i64 j ∧ j ≤ n ∧ Below w.heap.size w wr
set_option maxRecDepth 100000 in
set_option maxHeartbeats 1000000 in
theorem sameI_any (o : List Int) (B B' n c c' : Nat) (A A' : Option Addr) (w : World) (h : Rd w B 1 A n (o.map (Value.int .i64))) (h' : Rd w B' 1 A' n (o.map (Value.int .i64))) (hB : B ≤ w.heap.size) (hB' : B' ≤ w.heap.size) (hn : n ≤ 1000000) :
    Calls Tryz.prog 7 #[.slice A n c, .slice A' n c'] w fun e w' => e = .returned (.bool true) ∧ Below w.heap.size w w' := by
  have H := Lib.hid h; clear h
  have H' := Lib.hid h'; clear h'
  go_enter Tryz.func7, Tryz.ntmps7
  go_wp2_with fail
  go_loopw [5] (SameRelI n w) (fun v _ => n - (intOf v).toNat)
  case atStart => exact ⟨0, rfl, Nat.zero_le _, Below.refl _ _⟩
  case round =>
    obtain ⟨j, rfl, hj, hbw⟩ := hrel
    by_cases hlt : (j : Int) < n
    · obtain ⟨g, off, x, hA, hg, hx, hc⟩ := intsI_at (H.out.below (hbw.mono hB)) (k := j) (by omega)
      obtain ⟨g', off', x', hA', hg', hx', hc'⟩ := intsI_at (H'.out.below (hbw.mono hB')) (k := j) (by omega)
      rw [hx] at hx'
      obtain rfl : x = x' := Option.some.inj hx'
      subst hA hA'
      have hz := hbw.size
      have hgl : g < wr.heap.size := by omega
      have hgl' : g' < wr.heap.size := by omega
      clear hx hx'
      go_wp2_with fail
      go_quiet (fail)
      go_wp2_with fail
      go_roundw
      case rel => exact ⟨j + 1, rfl, by omega, ⟨hbw.os, hbw.tape, hbw.output, hbw.size, hbw.block⟩⟩
      case measure => simp [intOf]; omega
    · go_wp2_with fail
      go_ret
      exact ⟨rfl, hbw⟩
end Go.Proofs.YtopmehbncidpnaaGreatDoor
