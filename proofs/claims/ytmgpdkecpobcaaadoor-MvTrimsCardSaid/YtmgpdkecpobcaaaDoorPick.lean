/- chainmailkeep.pick: one of the numbers below n. -/
import Derived.Test.YtmgpdkecpobcaaaDoorRows
import Derived.Test.YtmgpdkecpobcaaaDoorFrame
import Derived.WalkKit
import Derived.WalkSpells
import Derived.WalkLawsBesides
import Derived.IntWalk
namespace Go.Proofs.YtmgpdkecpobcaaaDoor
open Go.RowKit
def pickN (a : Int) (n : Nat) : Nat := ((a % 18446744073709551616) % n).toNat
theorem pickN_lt (a : Int) {n : Nat} (h : 0 < n) : pickN a n < n := by
  unfold pickN
  have h1 : 0 ≤ (a % 18446744073709551616) % (n : Int) := Int.emod_nonneg _ (by omega)
  have h2 : (a % 18446744073709551616) % (n : Int) < n := Int.emod_lt_of_pos _ (by omega)
  omega
set_option maxHeartbeats 1000000 in
theorem pick_any (a : Int) (n : Nat) (h : 0 < n) (hn : n ≤ 4611686018427387904) (w : World) : Calls Tryd.prog 5 #[.int .i64 a, .int .i64 n] w fun e w' => e = .returned (.int .i64 (pickN a n)) ∧ w = w' := by
  go_enter Tryd.func5, Tryd.ntmps5
  go_wp2_with fail
  go_ret
  refine ⟨?_, rfl⟩
  have hw : IntKind.u64.wrap a = a % 18446744073709551616 := by simp [IntKind.wrap, IntKind.bits, IntKind.signed]
  have h1 : 0 ≤ a % 18446744073709551616 := Int.emod_nonneg _ (by omega)
  have h2 : 0 ≤ (a % 18446744073709551616) % (n : Int) := Int.emod_nonneg _ (by omega)
  have h3 : (a % 18446744073709551616) % (n : Int) < n := Int.emod_lt_of_pos _ (by omega)
  have e : wrap64 ((IntKind.u64.wrap a).tmod n) = (pickN a n : Int) := by
    rw [hw, Int.tmod_eq_emod_of_nonneg h1, IntWalk.wrap64_in _ (by omega)]
    unfold pickN
    omega
  show Ending.returned (.int .i64 (wrap64 ((IntKind.u64.wrap a).tmod n))) = _
  rw [e]
end Go.Proofs.YtmgpdkecpobcaaaDoor
