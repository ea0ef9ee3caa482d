/- chainmailref's eye: num; texts by both; wire's reader: truth. -/
import Derived.Test.YtnahkpfamocnfaaDoorReader
namespace Go.Proofs.YtnahkpfamocnfaaDoor
open Go.RowKit
def EyeRel (l : List Nat) (n : Nat) (w : World) (u v i : Value) (wr : World) : Prop :=
  ∃ (j acc : Nat), u = .int .i64 acc ∧ v = .int .i64 (128 ^ j : Nat) ∧ i = .int .i64 j ∧ j ≤ n ∧ j ≤ 6 ∧ acc < 128 ^ j ∧ scan false 0 0 l = scan false j acc (l.drop j) ∧ wr = w
theorem u8_rem {x : Nat} (h : x < 256) : ((x : Int).tmod 128) = ((x % 128 : Nat) : Int) := by rw [Int.tmod_eq_emod_of_nonneg (by omega)]; omega
set_option maxRecDepth 100000 in
set_option maxHeartbeats 1000000 in
theorem enum_any (B p : Nat) (A : Option Addr) (n c : Nat) (s : RS) (w : World) (hW : Rdr 114 w B p A n c s) :
    Calls Tryd.prog 45 #[.pointer (some ⟨p, 0, none⟩)] w (RPost 114 B p (.int .i64 (numR false s).1) (numR false s).2 w) := by
  have HW := Lib.hid hW
  obtain ⟨hb, hr, hnc, hBp, hby⟩ := hW
  have hc0 := hb.cell 0
  have hc1 := hb.cell 1
  have hf0 := hb.frozen 0
  have hf1 := hb.frozen 1
  have hlen : s.1.length = n := by have := hr.1; simpa using this
  go_enter Tryd.func45, Tryd.ntmps45
  go_wp2_with fail
  go_loopw [3, 4, 5] (EyeRel s.1 n w) (fun _ _ i _ => n - (intOf i).toNat)
  case atStart => exact ⟨0, 0, rfl, rfl, rfl, by omega, by omega, by simp, rfl, rfl⟩
  case round =>
    obtain ⟨j, acc, rfl, rfl, rfl, hj, hj6, hacc, hsc, rfl⟩ := hrel
    have hend : (n ≤ j ∨ 5 < j) → RPost 114 B p (.int .i64 (numR false s).1) (numR false s).2 wr (.returned (.int .i64 0)) (wr.setCell ⟨p, 1, none⟩ (.bool true)) := fun h => by
      have hsn : scan false 0 0 s.1 = none := by
        rw [hsc]
        by_cases h2 : n ≤ j
        · exact scan_end (by omega)
        · have h5 : 5 < j := by omega
          obtain ⟨x, hx⟩ : ∃ x, s.1[j]? = some x := ⟨_, List.getElem?_eq_getElem (by omega)⟩
          rw [scan_step hx, if_pos (.inl h5)]
      rw [numR_none hsn]
      exact ⟨_, n, c, rfl, HW.out.bad true, Fr.set1 p wr _ _⟩
    have HEND := Lib.hid hend; clear hend
    have hq := pow_small hj6
    by_cases hlt : (j : Int) < n
    · by_cases h6 : (j : Int) < 6
      · obtain ⟨g, off, u, rfl, hab, hx, hc⟩ := hr.at1 (k := j) (by omega)
        obtain ⟨x, hx1, rfl⟩ : ∃ x, s.1[j]? = some x ∧ u = bv x := by
          rw [List.getElem?_map] at hx
          rcases hh : s.1[j]? with _ | x
          · rw [hh] at hx; simp at hx
          · rw [hh] at hx; simp at hx; exact ⟨x, rfl, hx.symm⟩
        unfold bv at hc
        have hxb : x < 256 := hby x (List.mem_of_getElem? hx1)
        have hst := scan_step (k := false) (acc := acc) hx1
        rw [if_neg (by simp; omega)] at hst
        have hp := part_small (x := x) hj6
        have hal := acc_lt (x := x) hacc
        have hrem := u8_rem hxb
        have hm128 : x % 128 < 128 := by omega
        rw [← hsc] at hst
        have hpow : 128 ^ (j + 1) = 128 ^ j * 128 := Nat.pow_succ ..
        have hgood : x < 128 → RPost 114 B p (.int .i64 (numR false s).1) (numR false s).2 wr (.returned (.int .i64 (acc + x % 128 * 128 ^ j : Nat))) (wr.setCell ⟨p, 0, none⟩ (.slice (dropA (some ⟨g, off, none⟩) (j + 1) c) (n - (j + 1)) (c - (j + 1)))) := fun h128 => by
          have hsn : scan false 0 0 s.1 = some (acc + x % 128 * 128 ^ j, s.1.drop (j + 1)) := by rw [hst, if_pos h128]
          rw [numR_some hsn]
          exact ⟨_, _, _, rfl, HW.out.rest (by omega), Fr.set1 p wr _ _⟩
        have HGOOD := Lib.hid hgood; clear hgood
        have hrel1 : ¬ x < 128 → EyeRel s.1 n wr (.int .i64 (acc + x % 128 * 128 ^ j : Nat)) (.int .i64 (128 ^ j * 128 : Nat)) (.int .i64 ((j : Int) + 1)) wr := fun h128 =>
          ⟨j + 1, _, rfl, by rw [hpow], rfl, by omega, by omega, hal, by rw [hst, if_neg h128], rfl⟩
        have HREL := Lib.hid hrel1; clear hrel1
        have hacc2 : acc < 4398046511104 := by omega
        clear hsc hst hal hpow HEND
        generalize 128 ^ j = P at *
        have hcast : (acc : Int) + ((x % 128 : Nat) : Int) * (P : Int) = ((acc + x % 128 * P : Nat) : Int) := by simp
        have hcast2 : (P : Int) * 128 = ((P * 128 : Nat) : Int) := by simp
        have hb3 : (0 : Int) ≤ ((x % 128 : Nat) : Int) * (P : Int) ∧ ((x % 128 : Nat) : Int) * (P : Int) ≤ 562949953421312 := by rw [← Int.natCast_mul]; omega
        generalize hz : x % 128 = z at *
        generalize hzp : (z : Int) * (P : Int) = zp at *
        generalize hV : acc + z * P = V at *
        generalize hP2 : P * 128 = P2 at *
        have hsl := slice_from wr (some ⟨g, off, none⟩) n c (j + 1) ((j : Int) + 1) (by omega) (by omega)
        by_cases c6 : (x : Int) < 128
        · have hp := HGOOD.out (by omega)
          have HP := Lib.hid hp; clear hp HGOOD HREL hz hV hr hby HW
          go_wp2_with fail
          go_ret
          exact HP.out
        · have hp := HREL.out (by omega)
          have HP := Lib.hid hp; clear hp HGOOD HREL hz hV hr hby HW
          go_wp2_with fail
          go_roundw
          case rel => exact HP.out
          case measure => simp [intOf]; omega
      · have hp := HEND.out (.inr (by omega))
        have HP := Lib.hid hp; clear hp HEND hsc hb hr hby HW
        go_wp2_with fail
        go_ret
        exact HP.out
    · have hp := HEND.out (.inl (by omega))
      have HP := Lib.hid hp; clear hp HEND hsc hb hr hby HW
      go_wp2_with fail
      go_ret
      exact HP.out
end Go.Proofs.YtnahkpfamocnfaaDoor
