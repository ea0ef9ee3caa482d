/- Plain: a number's bytes, seven bits each (1.1). -/
import Derived.Test.YtnahkpfamocnfaaDoorFrame
namespace Go.Proofs.YtnahkpfamocnfaaDoor
open Go.RowKit
def enc (n : Nat) : List Nat := if n < 128 then [n] else (n % 128 + 128) :: enc (n / 128)
termination_by n
decreasing_by omega
theorem enc_small {n : Nat} (h : n < 128) : enc n = [n] := by rw [enc, if_pos h]
theorem enc_big {n : Nat} (h : ¬ n < 128) : enc n = (n % 128 + 128) :: enc (n / 128) := by rw [enc, if_neg h]
theorem enc_len (k : Nat) : ∀ n, n < 128 ^ k → (enc n).length ≤ max k 1 := by
  induction k with
  | zero => intro n h; have : n = 0 := by simpa using h
            subst this; rw [enc_small (by omega)]; simp
  | succ k ih =>
    intro n h
    by_cases hn : n < 128
    · rw [enc_small hn]; simp; try omega
    · rw [enc_big hn]
      have h2 : n / 128 < 128 ^ k := by rw [Nat.div_lt_iff_lt_mul (by omega)]; rw [Nat.pow_succ] at h; exact h
      have := ih _ h2
      have hk : 1 ≤ k := by rcases Nat.eq_zero_or_pos k with h0 | h0
                            · subst h0; simp at h2; omega
                            · exact h0
      simp only [List.length_cons]; omega
theorem enc_mem : ∀ (k n : Nat), n ≤ k → ∀ x ∈ enc n, x < 256 := by
  intro k
  induction k with
  | zero => intro n h x hx; rw [enc_small (by omega)] at hx; simp at hx; omega
  | succ k ih =>
    intro n h x hx
    by_cases hn : n < 128
    · rw [enc_small hn] at hx; simp at hx; omega
    · rw [enc_big hn] at hx
      rcases List.mem_cons.1 hx with h1 | h1
      · omega
      · exact ih _ (by omega) x h1
theorem or128 : ∀ n : Nat, n % 256 ||| 128 = n % 128 + 128 := by
  intro n
  have h : ∀ m : Fin 256, (m.val ||| 128) = m.val % 128 + 128 := by decide +kernel
  have := h ⟨n % 256, Nat.mod_lt _ (by omega)⟩
  simp only at this; rw [this]; omega
def bv (x : Nat) : Value := .int .u8 (x : Int)
def encV (n : Nat) : List Value := (enc n).map bv
end Go.Proofs.YtnahkpfamocnfaaDoor
