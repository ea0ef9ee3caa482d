/- How a log reads: a slice of commands. -/
import Derived.Test.YtnahkpfamocnfabDoorOpen
import Derived.Test.YtnahkpfamocnfabDoorLogW
namespace Go.Proofs.YtnahkpfamocnfabDoor
open Go.ChangeShapes Go.WideShapes Go.ChangeAt Go.RowKit Go.Deep
section
variable {H : Type} {enc : TypeId × Value → H} {W : World}
def crOk (W : World) (M : Nat) (x : CmR) : Prop := ReadsP W W.heap.size x.A x.n x.c.writes ∧ ∀ p ∈ x.c.writes, below M p
theorem open_cr {n : Nat} {sp : Nat → Bool} {cs : List Value} {y : DataW H × List MemPlace} (h : DataW.trod enc Tryd.prog W 0 sp true n 24 cs = some y) : ∃ x, cs = crCells x ∧ crOk W (Rows.uptoBulk y.1) x := by
  obtain ⟨c, A, k, cp, rfl, hr, hb⟩ := open_cmd h
  exact ⟨⟨c, A, k, cp⟩, rfl, hr, hb⟩
theorem open_log {n : Nat} {sp : Nat → Bool} {v : Value} {y : DataW H × List MemPlace} (h : DataW.trod enc Tryd.prog W 0 sp true n 27 [v] = some y) :
    ∃ A k c l, v = .slice A k c ∧ ReadsC W W.heap.size A k l ∧ ∀ x ∈ l, ∀ p ∈ x.c.writes, below (Rows.uptoBulk y.1) p := by
  obtain ⟨A, k, c, l, rfl, _, hl, hr, hq⟩ := open_gen Tryd.underlying27 4 (by kernel_rfl) (by omega) crCells (fun x => rfl) (crOk W) (fun n cs y h => open_cr h) h
  exact ⟨A, k, c, l, rfl, ⟨hl, hr, fun x hx => (by obtain ⟨m, _, hb⟩ := hq x hx; exact hb.1)⟩, fun x hx p hp => by
    obtain ⟨m, hm, hb⟩ := hq x hx
    exact ⟨Nat.le_trans (hb.2 p hp).1 hm, Nat.le_trans (hb.2 p hp).2 hm⟩⟩
end
end Go.Proofs.YtnahkpfamocnfabDoor
