/- Plain: what is written is read again, whatever stands behind it; a beginning of it is none. -/
import Derived.Test.YtnahkpfamocnfabDoorReadPlain2
namespace Go.Proofs.YtnahkpfamocnfabDoor
open Go.RowKit
theorem msgOut_ext {m : Ms} {b : List Nat} (h : msgOut m = (b, 0)) (k : Bool) (r : List Nat) : msgR k (b ++ r, false) = (normM m, (r, false)) := by
  unfold msgOut at h
  split at h
  · simp at h
  rename_i hk
  have hk' : 1 ≤ m.kind ∧ m.kind ≤ 4 := by unfold kindB at hk; simp at hk; omega
  have hs : (msgS m).2 = 0 ∧ (msgS m).1 = b := by
    unfold outS at h
    split at h
    · rename_i hne; injection h with _ h2; exact absurd h2 hne
    · rw [h]; exact ⟨rfl, rfl⟩
  clear h
  obtain ⟨h0, hb⟩ := hs
  have hfive : (numS (numS (numS (numS (numS ([], 0) m.kind) m.from_) m.to_) m.epoch) m.n).2 = 0 := by
    unfold msgS at h0
    split at h0
    · exact (cmdS_inv h0 k).1
    · exact h0
  obtain ⟨g5, p5, q5, a5⟩ := numS_inv hfive
  obtain ⟨g4, p4, q4, a4⟩ := numS_inv g5
  obtain ⟨g3, p3, q3, a3⟩ := numS_inv g4
  obtain ⟨g2, p2, q2, a2⟩ := numS_inv g3
  obtain ⟨_, p1, q1, a1⟩ := numS_inv g2
  rw [a4, a3, a2, a1] at a5
  have hpre : ∀ r, fourR k (enc m.kind.toNat ++ enc m.from_.toNat ++ enc m.to_.toNat ++ enc m.epoch.toNat ++ (enc m.n.toNat ++ r), false) = (m.kind.toNat, m.from_.toNat, m.to_.toNat, m.epoch.toNat, (enc m.n.toNat ++ r, false)) :=
    fun r => fourR_enc k (by omega) (by omega) (by omega) (by omega) _
  have hmb : msgBad k m.kind.toNat = false := by
    unfold msgBad
    rw [Bool.and_eq_false_iff]; right; simp; omega
  have c1 : ((m.kind.toNat : Nat) : Int) = m.kind := by omega
  have c2 : ((m.from_.toNat : Nat) : Int) = m.from_ := by omega
  have c3 : ((m.to_.toNat : Nat) : Int) = m.to_ := by omega
  have c4 : ((m.epoch.toNat : Nat) : Int) = m.epoch := by omega
  have c5 : ((m.n.toNat : Nat) : Int) = m.n := by omega
  unfold msgS at h0 hb
  unfold msgR normM
  simp only
  split at h0
  · rename_i h3
    rw [if_pos h3] at hb
    obtain ⟨_, e, d1, d2⟩ := cmdS_inv h0 k
    rw [d1, a5] at hb
    have hbb : b ++ r = enc m.kind.toNat ++ enc m.from_.toNat ++ enc m.to_.toNat ++ enc m.epoch.toNat ++ (enc m.n.toNat ++ (e ++ r)) := by rw [← hb]; simp
    have d2' := d2 r
    rw [hbb, hpre, numR_enc k _ (by omega)]
    simp only
    rw [hmb, Bool.or_false, d2', if_pos (by omega), if_pos h3, c1, c2, c3, c4, c5]
  · rename_i h3
    rw [if_neg h3] at hb
    rw [a5] at hb
    have hbb : b ++ r = enc m.kind.toNat ++ enc m.from_.toNat ++ enc m.to_.toNat ++ enc m.epoch.toNat ++ (enc m.n.toNat ++ r) := by rw [← hb]; simp
    rw [hbb, hpre, numR_enc k _ (by omega)]
    simp only
    rw [hmb, Bool.or_false, if_neg (by omega), if_neg h3, c1, c2, c3, c4, c5]
theorem logOut_ext {l : List Cm} {b : List Nat} (h : logOut l = (b, 0)) (k : Bool) (r : List Nat) : logR k (b ++ r, false) = (l.map normC, (r, false)) := by
  unfold logOut at h
  have hs : (logS l).2 = 0 ∧ (logS l).1 = b := by
    unfold outS at h
    split at h
    · rename_i hne; injection h with _ h2; exact absurd h2 hne
    · rw [h]; exact ⟨rfl, rfl⟩
  unfold logS at hs
  obtain ⟨h0, hb⟩ := hs
  obtain ⟨h1, h2, h3⟩ := limS_inv h0
  have hl : ¬ 500 < l.length := by simpa using h2
  obtain ⟨h4, e, h5, h6⟩ := cmds_inv k l _ h1
  obtain ⟨_, _, _, h7⟩ := numS_inv h4
  rw [h3, h5, h7] at hb
  simp only [List.nil_append, Int.toNat_natCast] at hb
  unfold logR
  rw [← hb, List.append_assoc, numR_enc k _ (by omega)]
  simp only
  have hd : (k && decide (500 < l.length)) = false := by rw [Bool.and_eq_false_iff]; right; simp; omega
  have h8 := h6 r [] (by simp; omega)
  rw [hd, Bool.or_false, h8]
  simp
/-- What is written is read again: as the message that it says. -/
theorem readM_back {m : Ms} {b : List Nat} (hb : Bytes b) (h : msgOut m = (b, 0)) : wireReadM b = some (normM m) ∧ msgOut (normM m) = (b, 0) := by
  have h1 := msgOut_inv h true
  have h2 := msgR_sound hb (by rw [h1]) (by rw [h1])
  rw [h1] at h2
  refine ⟨?_, h2.2⟩
  unfold wireReadM
  simp [h1]
theorem readL_back {l : List Cm} {b : List Nat} (hb : Bytes b) (h : logOut l = (b, 0)) : wireReadL b = some (l.map normC) ∧ logOut (l.map normC) = (b, 0) := by
  have h1 := logOut_inv h true
  have h2 := logR_sound hb (by rw [h1]) (by rw [h1])
  rw [h1] at h2
  refine ⟨?_, h2.2⟩
  unfold wireReadL
  simp [h1]
/-- A beginning of it is none. -/
theorem readM_short_none {m : Ms} {b : List Nat} (hb : Bytes b) (h : msgOut m = (b, 0)) {k : Nat} (hk : k < b.length) : wireReadM (b.take k) = none := by
  unfold wireReadM
  dsimp only
  split
  · rfl
  · rename_i hn
    simp only [not_or, Bool.not_eq_true, Nat.not_lt, Nat.le_zero_eq] at hn
    have h2 := msgR_sound (b := b.take k) (fun x hx => hb x (List.mem_of_mem_take hx)) hn.1 (List.eq_nil_of_length_eq_zero hn.2)
    have h3 := msgOut_ext h2.2 true (b.drop k)
    rw [List.take_append_drop, msgOut_inv h true] at h3
    injection h3 with _ h3
    injection h3 with h3 _
    have := congrArg List.length h3
    rw [List.length_drop] at this
    simp at this
    omega
theorem readL_short_none {l : List Cm} {b : List Nat} (hb : Bytes b) (h : logOut l = (b, 0)) {k : Nat} (hk : k < b.length) : wireReadL (b.take k) = none := by
  unfold wireReadL
  dsimp only
  split
  · rfl
  · rename_i hn
    simp only [not_or, Bool.not_eq_true, Nat.not_lt, Nat.le_zero_eq] at hn
    have h2 := logR_sound (b := b.take k) (fun x hx => hb x (List.mem_of_mem_take hx)) hn.1 (List.eq_nil_of_length_eq_zero hn.2)
    have h3 := logOut_ext h2.2 true (b.drop k)
    rw [List.take_append_drop, logOut_inv h true] at h3
    injection h3 with _ h3
    injection h3 with h3 _
    have := congrArg List.length h3
    rw [List.length_drop] at this
    simp at this
    omega
/-- What was written is not too long, and of bytes. -/
theorem msgOut_pos {m : Ms} {b : List Nat} (h : msgOut m = (b, 0)) : 0 < b.length := by
  rcases b with _ | ⟨x, b⟩
  · have h1 := msgOut_inv h true
    unfold msgR at h1
    simp only [fourR, numR, scan] at h1
    split at h1
    · rename_i h3; simp at h3
    · injection h1 with _ h1; injection h1 with _ h1; simp at h1
  · simp
theorem logOut_pos {l : List Cm} {b : List Nat} (h : logOut l = (b, 0)) : 0 < b.length := by
  rcases b with _ | ⟨x, b⟩
  · have h1 := logOut_inv h true
    have h2 : (logR true ([], false)).2.2 = true := by
      rcases hh : (logR true ([], false)).2.2 with _ | _
      · exact absurd (cmdsR_bad (by unfold logR at hh; exact hh)) (by simp [numR, scan])
      · rfl
    rw [h1] at h2; cases h2
  · simp
end Go.Proofs.YtnahkpfamocnfabDoor
