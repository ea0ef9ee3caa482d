/- Plain: seven bits laid behind what was read. -/
import Derived.Test.YtnahkpfamocnfaaDoorReadPlain2
import Derived.Laws.BitsAllLaws
namespace Go.Proofs.YtnahkpfamocnfaaDoor
open Go.RowKit
theorem i64_or_nat (a b : Nat) (ha : a < 4611686018427387904) (hb : b < 4611686018427387904) : bits .or .i64 (a : Int) (b : Int) = ((a ||| b : Nat) : Int) := by
  have hx : a ||| b < 2 ^ 62 := Nat.or_lt_two_pow (by omega) (by omega)
  show IntKind.i64.wrap ((BitVec.ofInt 64 (a : Int) ||| BitVec.ofInt 64 (b : Int)).toNat : Int) = _
  rw [BitVec.toNat_or, ofInt_u64 a (by omega), ofInt_u64 b (by omega)]
  generalize a ||| b = c at hx ⊢
  have : c < 4611686018427387904 := hx
  simp [IntKind.wrap, IntKind.bits, IntKind.signed]
  omega
theorem w64_in (n : Int) (h : -9223372036854775808 ≤ n ∧ n ≤ 9223372036854775807) : wrap64 n = n := by unfold wrap64; omega
theorem pow_small {j : Nat} (hj : j ≤ 6) : 128 ^ j ≤ 4398046511104 := by
  have := Nat.pow_le_pow_right (n := 128) (by omega) hj
  simpa using this
theorem part_small {x j : Nat} (hj : j ≤ 6) : x % 128 * 128 ^ j ≤ 562949953421312 := by
  have h1 := pow_small hj
  have h2 : x % 128 ≤ 128 := by omega
  exact Nat.le_trans (Nat.mul_le_mul h2 h1) (by decide)
theorem scan_bits {acc x j : Nat} (hx : x < 256) (hj : j ≤ 6) (ha : acc < 128 ^ j) :
    bits .or .i64 (acc : Int) (wrap64 (wrap64 (bits .and .u8 (x : Int) 127) * 2 ^ (7 * j))) = ((acc + x % 128 * 128 ^ j : Nat) : Int) := by
  have h1 : bits .and .u8 (x : Int) 127 = ((x % 128 : Nat) : Int) := by
    have := u8_and_nat x 127 hx (by omega)
    rw [nat_mask7] at this
    exact this
  have h2 : (2 : Int) ^ (7 * j) = ((128 ^ j : Nat) : Int) := by
    rw [Int.pow_mul]; simp
  rw [h1, w64_in ((x % 128 : Nat) : Int) (by omega), h2, ← Int.natCast_mul]
  have hp := part_small (x := x) hj
  have hq := pow_small hj
  rw [w64_in _ (by omega), i64_or_nat _ _ (by omega) (by omega)]
  have hm : x % 128 * 128 ^ j % 2 ^ (7 * j) = 0 := by
    have : (2 : Nat) ^ (7 * j) = 128 ^ j := by rw [Nat.pow_mul]
    rw [this]; exact Nat.mul_mod_left _ _
  have ha' : acc < 2 ^ (7 * j) := by rw [Nat.pow_mul]; exact ha
  rw [Nat.or_comm, nat_join _ _ _ hm ha']
  congr 1
  omega
theorem scan_step {k : Bool} {l : List Nat} {j acc x : Nat} (h : l[j]? = some x) : scan k j acc (l.drop j) =
    if 5 < j ∨ (k = true ∧ (1099511627776 < acc + x % 128 * 128 ^ j ∨ (x = 0 ∧ 0 < j))) then none
    else if x < 128 then some (acc + x % 128 * 128 ^ j, l.drop (j + 1)) else scan k (j + 1) (acc + x % 128 * 128 ^ j) (l.drop (j + 1)) := by
  obtain ⟨hl, hx⟩ := List.getElem?_eq_some_iff.1 h
  have : l.drop j = x :: l.drop (j + 1) := by rw [← hx]; exact List.drop_eq_getElem_cons hl
  rw [this]; rfl
theorem scan_end {k : Bool} {l : List Nat} {j acc : Nat} (h : l.length ≤ j) : scan k j acc (l.drop j) = none := by
  rw [List.drop_eq_nil_of_le h]; rfl
theorem acc_lt {acc x j : Nat} (ha : acc < 128 ^ j) : acc + x % 128 * 128 ^ j < 128 ^ (j + 1) := by
  have : x % 128 + 1 ≤ 128 := by omega
  have h2 : (x % 128 + 1) * 128 ^ j ≤ 128 * 128 ^ j := Nat.mul_le_mul_right _ this
  rw [Nat.pow_succ, Nat.mul_comm (128 ^ j)]
  rw [Nat.add_mul] at h2
  omega
theorem numR_none {k : Bool} {s : RS} (h : scan k 0 0 s.1 = none) : numR k s = (0, (s.1, true)) := by unfold numR; rw [h]
theorem numR_some {k : Bool} {s : RS} {n : Nat} {r : List Nat} (h : scan k 0 0 s.1 = some (n, r)) : numR k s = (n, (r, s.2)) := by unfold numR; rw [h]
end Go.Proofs.YtnahkpfamocnfaaDoor
