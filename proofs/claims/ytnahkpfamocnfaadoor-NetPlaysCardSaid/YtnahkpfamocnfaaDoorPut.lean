/- wire.Put: its contract, by a walk. -/
import Derived.Test.YtnahkpfamocnfaaDoorRows
import Derived.WalkKit
import Derived.WalkSpells
import Derived.WalkLawsBesides
import Derived.Test.YtnahkpfamocnfaaDoorEnc
namespace Go.Proofs.YtnahkpfamocnfaaDoor
open Go.RowKit
theorem u8_info : (Tryd.prog.info? 5).map (fun i => (i.zero, i.size, i.bytes)) = some (some (.int .u8 0), 1, 1) := by kernel_rfl
def PutPost (base : Nat) (v : Value) (k : Nat) (xs : List Value) (n : Nat) (w : World) (e : Ending) (w' : World) : Prop :=
  ∃ v', e = .returned v' ∧ w'.ownsRow base 5 1 v' (k + (enc n).length) (xs ++ encV n) ∧ Moved w w' v.ownBlock v'.ownBlock
def PutRel (base : Nat) (v : Value) (k : Nat) (xs : List Value) (n : Nat) (w : World) (u i : Value) (wr : World) : Prop :=
  ∃ (m j : Nat) (pre : List Nat), i = .int .i64 m ∧ m ≤ 1099511627776 ∧ j + (enc m).length ≤ k + 100 ∧ j = k + pre.length ∧ enc n = pre ++ enc m ∧ wr.ownsRow base 5 1 u j (xs ++ pre.map bv) ∧ Moved w wr v.ownBlock u.ownBlock
set_option maxHeartbeats 400000 in
theorem put_any (base : Nat) (v : Value) (k : Nat) (xs : List Value) (n : Nat) (w : World) (hn : n ≤ 1099511627776) (hk : k ≤ 100000000000)
    (hown : w.ownsRow base 5 1 v k xs) (hbase : base ≤ w.heap.size) :
    Calls Tryd.prog 59 #[v, .int .i64 n] w (PutPost base v k xs n w) := by
  have hel : (enc n).length ≤ 10 := by have := enc_len 10 n (by omega); omega
  go_enter Tryd.func59, Tryd.ntmps59
  go_wp2_with fail
  go_loopw [0, 1] (PutRel base v k xs n w) (fun _ i _ => (intOf i).toNat)
  case atStart => exact ⟨n, k, [], rfl, hn, by omega, by simp, by simp, by simpa using hown, Moved.refl _ _⟩
  case round =>
    obtain ⟨m, j, pre, rfl, hm, hj, hjp, he, ho, hmv⟩ := hrel
    have HJP := Lib.hid hjp; have HE := Lib.hid he; clear hjp he hel
    have hbw : base ≤ wr.heap.size := by have := hmv.size; omega
    by_cases hlt : (128 : Int) ≤ m
    · have hlt' : ¬ m < 128 := by omega
      have hor : bits .or .u8 ((m : Int) % 256) 128 = ((m % 128 + 128 : Nat) : Int) := by
        have := u8_or_nat (m % 256) 128 (by omega) (by omega)
        rw [or128] at this
        rw [← this]; rfl
      have HOR := Lib.hid hor; clear hor
      go_wp2_with (at_builtin; refine stop ?_)
      rw [HOR.out]
      refine back ?_
      refine wpList_append1 wr _ rfl (.tmp 7) (.tmp 11) 28 rfl base 5 (.int .u8 0) 1 1 Tryd.underlying28 u8_info rfl (by decide) _ _ _ _ rfl ho 1 rfl _ rfl rfl (by simp [Value.oneCell']) ?_ ?_ hbw ?_
      · unfold maxLen; omega
      · omega
      intro v' w1 hown' hmv'
      clear ho
      go_wp2_with fail
      go_roundw
      case rel =>
        refine ⟨m / 128, j + 1, pre ++ [m % 128 + 128], rfl, by omega, ?_, by rw [HJP.out]; simp; omega, by rw [HE.out, enc_big hlt']; simp, ?_, hmv.trans hmv'⟩
        · rw [enc_big hlt'] at hj; simp at hj; omega
        · rw [List.map_append, ← List.append_assoc]; exact hown'
      case measure => simp [intOf]; omega
    · have hlt' : m < 128 := by omega
      go_wp2_with (at_builtin; refine stop ?_)
      refine back ?_
      refine wpList_append1 wr _ rfl (.tmp 15) (.tmp 18) 28 rfl base 5 (.int .u8 0) 1 1 Tryd.underlying28 u8_info rfl (by decide) _ _ _ _ rfl ho 1 rfl _ rfl rfl (by simp [Value.oneCell']) ?_ ?_ hbw ?_
      · rw [enc_small hlt'] at hj; simp at hj; unfold maxLen; omega
      · rw [enc_small hlt'] at hj; simp at hj; omega
      intro v' w1 hown' hmv'
      clear ho
      go_wp2_with fail
      go_ret
      refine ⟨v', rfl, ?_, hmv.trans hmv'⟩
      rw [encV, HE.out, enc_small hlt', List.length_append, List.map_append, ← List.append_assoc, ← Nat.add_assoc, ← HJP.out]
      exact hown'
theorem put_int (base : Nat) (v : Value) (k : Nat) (xs : List Value) (x : Int) (w : World) (h0 : 0 ≤ x) (hn : x ≤ 1099511627776) (hk : k ≤ 100000000000)
    (hown : w.ownsRow base 5 1 v k xs) (hbase : base ≤ w.heap.size) :
    Calls Tryd.prog 59 #[v, .int .i64 x] w (PutPost base v k xs x.toNat w) := by
  obtain ⟨n, rfl⟩ := Int.eq_ofNat_of_zero_le h0
  exact put_any base v k xs n w (by omega) hk hown hbase
end Go.Proofs.YtnahkpfamocnfaaDoor
