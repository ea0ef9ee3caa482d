/- net.Lost. -/
import Derived.Test.YtnahkpfamocnfaaDoorNet4
namespace Go.Proofs.YtnahkpfamocnfaaDoor
open Go.RowKit
section
variable (base g off nd : Nat) (T : TypeId) (cs : Array Value) (V : Value) (D : Option Nat) (L : List MsR) (dead : Int → Bool) (lost : Int) (w : World)
theorem lost_any (hI : NetI w base g off T cs V D nd L dead lost) : Calls Tryd.prog 34 #[.pointer (some ⟨g, off, none⟩)] w fun e w' => e = .returned (.int .i64 lost) ∧ w = w' := by
  have c0 := (hI.blk.cell (off + 2)).trans hI.c2
  clear hI
  go_enter Tryd.func34, Tryd.ntmps34
  go_wp2_with fail
  go_ret
  exact ⟨rfl, rfl⟩
end
end Go.Proofs.YtnahkpfamocnfaaDoor
