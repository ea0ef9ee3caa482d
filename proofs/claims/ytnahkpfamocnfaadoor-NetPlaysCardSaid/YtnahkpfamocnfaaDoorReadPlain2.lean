/- Plain: commands, messages and logs, as they are read; the program's reading is the document's. -/
import Derived.Test.YtnahkpfamocnfaaDoorReadPlain
import Derived.Test.YtnahkpfamocnfaaDoorMsgW2
namespace Go.Proofs.YtnahkpfamocnfaaDoor
open Go.RowKit
theorem pairsR_sound : ∀ (n : Nat) (s : RS) (acc : List Pr), Bytes s.1 → (pairsR true n s acc).2.2 = false →
    s.2 = false ∧ ∃ e l, s.1 = e ++ (pairsR true n s acc).2.1 ∧ (pairsR true n s acc).1 = acc ++ l ∧ l.length = n ∧ l.map normP = l ∧ ∀ a, l.foldl pairS (a, 0) = (a ++ e, 0)
  | 0, s, acc, _, h => ⟨h, [], [], by simp [pairsR], by simp [pairsR], rfl, rfl, fun a => by simp⟩
  | n + 1, s, acc, hb, h => by
    unfold pairsR at h ⊢
    split at h
    · rename_i hs; rw [hs] at h; cases h
    · rename_i hs
      rw [if_neg hs]
      have hb2 : Bytes (pairR true s).2.1 ∧ s.2 = false ∧ ((pairR true s).2.2 = false → ∃ e, s.1 = e ++ (pairR true s).2.1 ∧ ∀ a, pairS (a, 0) (pairR true s).1 = (a ++ e, 0)) := by
        refine ⟨?_, by simpa using hs, fun hf => (pairR_sound hb hf).2⟩
        by_cases hf : (pairR true s).2.2 = false
        · obtain ⟨_, e, h1, _⟩ := pairR_sound hb hf
          rw [h1] at hb; exact hb.right
        · exfalso
          cases n with
          | zero => exact hf h
          | succ n => unfold pairsR at h; rw [if_pos (by simpa using hf)] at h; exact hf h
      obtain ⟨hf, e, l, h1, h2, h3, h4, h5⟩ := pairsR_sound n _ _ hb2.1 h
      obtain ⟨e1, h6, h7⟩ := hb2.2.2 hf
      refine ⟨hb2.2.1, e1 ++ e, (pairR true s).1 :: l, ?_, ?_, by simp [h3], by simp [h4, pairR_norm], fun a => ?_⟩
      · rw [List.append_assoc, ← h1]; exact h6
      · rw [h2]; simp
      · rw [List.foldl_cons, h7, h5]; simp
theorem pairs_inv (k : Bool) : ∀ (l : List Pr) (st : St), (l.foldl pairS st).2 = 0 →
    st.2 = 0 ∧ ∃ e, (l.foldl pairS st).1 = st.1 ++ e ∧ ∀ r acc, pairsR k l.length (e ++ r, false) acc = (acc ++ l.map normP, (r, false))
  | [], st, h => ⟨h, [], by simp, fun r acc => by simp [pairsR]⟩
  | p :: l, st, h => by
    rw [List.foldl_cons] at h ⊢
    obtain ⟨h1, e, h2, h3⟩ := pairs_inv k l _ h
    obtain ⟨h4, e1, h5, _, h6⟩ := pairS_inv h1 k
    refine ⟨h4, e1 ++ e, by rw [h2, h5, List.append_assoc], fun r acc => ?_⟩
    rw [List.length_cons, List.append_assoc]
    unfold pairsR
    rw [if_neg (by simp), h6, h3]
    simp
theorem fourR_sound {s : RS} (hb : Bytes s.1) (h : (fourR true s).2.2.2.2.2 = false) :
    s.2 = false ∧ (fourR true s).1 ≤ 1099511627776 ∧ (fourR true s).2.1 ≤ 1099511627776 ∧ (fourR true s).2.2.1 ≤ 1099511627776 ∧ (fourR true s).2.2.2.1 ≤ 1099511627776 ∧
      s.1 = enc (fourR true s).1 ++ enc (fourR true s).2.1 ++ enc (fourR true s).2.2.1 ++ enc (fourR true s).2.2.2.1 ++ (fourR true s).2.2.2.2.1 := by
  unfold fourR at h ⊢
  simp only at h ⊢
  have b3 := numR_bad h
  have b2 := numR_bad b3
  have b1 := numR_bad b2
  obtain ⟨h1, h2, h3⟩ := numR_sound hb b1
  have hb1 : Bytes (numR true s).2.1 := by rw [h2] at hb; exact hb.right
  obtain ⟨_, h4, h5⟩ := numR_sound hb1 b2
  have hb2 : Bytes (numR true (numR true s).2).2.1 := by rw [h4] at hb1; exact hb1.right
  obtain ⟨_, h6, h7⟩ := numR_sound hb2 b3
  have hb3 : Bytes (numR true (numR true (numR true s).2).2).2.1 := by rw [h6] at hb2; exact hb2.right
  obtain ⟨_, h8, h9⟩ := numR_sound hb3 h
  refine ⟨h1, h3, h5, h7, h9, ?_⟩
  rw [List.append_assoc, List.append_assoc, List.append_assoc, ← h8, ← h6, ← h4, ← h2]
theorem fourR_enc (k : Bool) {x y z u : Nat} (hx : x ≤ 1099511627776) (hy : y ≤ 1099511627776) (hz : z ≤ 1099511627776) (hu : u ≤ 1099511627776) (r : List Nat) :
    fourR k (enc x ++ enc y ++ enc z ++ enc u ++ r, false) = (x, y, z, u, (r, false)) := by
  unfold fourR
  simp only [List.append_assoc]
  rw [numR_enc k x hx]
  simp only []
  rw [numR_enc k y hy]
  simp only []
  rw [numR_enc k z hz]
  simp only []
  rw [numR_enc k u hu]
theorem pairsR_bad {k : Bool} {n : Nat} {s : RS} {a : List Pr} (h : (pairsR k n s a).2.2 = false) : s.2 = false := by
  cases n with
  | zero => exact h
  | succ n =>
    unfold pairsR at h
    split at h
    · exact h
    · rename_i hs; simpa using hs
theorem cmdR_sound {s : RS} (hb : Bytes s.1) (h : (cmdR true s).2.2 = false) :
    s.2 = false ∧ ∃ e, s.1 = e ++ (cmdR true s).2.1 ∧ normC (cmdR true s).1 = (cmdR true s).1 ∧ ∀ a, cmdS (a, 0) (cmdR true s).1 = (a ++ e, 0) := by
  unfold cmdR at h ⊢
  simp only at h ⊢
  have hp := pairsR_bad h
  simp only [Bool.or_eq_false_iff] at hp
  obtain ⟨hf, hk⟩ := hp
  obtain ⟨h1, x1, x2, x3, x4, x5⟩ := fourR_sound hb hf
  generalize fourR true s = f at *
  have hb2 : Bytes f.2.2.2.2.1 := by rw [x5] at hb; exact hb.right
  have hcb : f.2.2.2.2.2 || cmdBad true f.1 f.2.2.2.1 = false := by rw [hf, hk]; rfl
  obtain ⟨_, e, l, h2, h3, h4, h5, h6⟩ := pairsR_sound f.2.2.2.1 (f.2.2.2.2.1, f.2.2.2.2.2 || cmdBad true f.1 f.2.2.2.1) [] hb2 h
  rw [List.nil_append] at h3
  unfold cmdBad at hk
  simp only [Bool.true_and, Bool.or_eq_false_iff, decide_eq_false_iff_not] at hk
  obtain ⟨⟨k1, k2⟩, k3⟩ := hk
  refine ⟨h1, enc f.1 ++ enc f.2.1 ++ enc f.2.2.1 ++ enc f.2.2.2.1 ++ e, ?_, ?_, fun a => ?_⟩
  · rw [List.append_assoc, ← h2]; exact x5
  · unfold normC; simp only; rw [h3, h5]
  · rw [h3]
    unfold cmdS headS
    simp only
    have e1 : kindS (a, 0) (f.1 : Nat) = (a, 0) := by unfold kindS; rw [if_neg (by omega)]
    have e2 : decide (20 < l.length) = false := by simp; omega
    have e3 : ((f.1 : Nat) : Int) % 8 = (f.1 : Nat) := by omega
    rw [e1, e2, limS_ok, e3, numS_ok x1, numS_ok x2, numS_ok x3, numS_ok (n := l.length) (by omega), h6, h4]
    simp
theorem headS_inv {st : St} {c : Cm} (h : (headS st c).2 = 0) : st.2 = 0 ∧ 1 ≤ c.kind ∧ c.kind ≤ 4 ∧ c.writes.length ≤ 20 ∧ 0 ≤ c.tx ∧ c.tx ≤ 1099511627776 ∧ 0 ≤ c.time ∧ c.time ≤ 1099511627776 ∧
    (headS st c).1 = st.1 ++ (enc c.kind.toNat ++ enc c.tx.toNat ++ enc c.time.toNat ++ enc c.writes.length) := by
  unfold headS at h ⊢
  obtain ⟨h, _, _, a1⟩ := numS_inv h
  obtain ⟨h, t1, t2, a2⟩ := numS_inv h
  obtain ⟨h, t3, t4, a3⟩ := numS_inv h
  obtain ⟨h, _, _, a4⟩ := numS_inv h
  obtain ⟨h, l1, a5⟩ := limS_inv h
  have l2 : ¬ 20 < c.writes.length := by simpa using l1
  unfold kindS at h
  simp only at h
  split at h
  · simp at h
  rename_i hk
  refine ⟨h, by omega, by omega, by omega, t3, t4, t1, t2, ?_⟩
  rw [a1, a2, a3, a4, a5]
  have e3 : c.kind % 8 = c.kind := by omega
  rw [e3]
  simp [kindS]
theorem cmdS_inv {st : St} {c : Cm} (h : (cmdS st c).2 = 0) (k : Bool) :
    st.2 = 0 ∧ ∃ e, (cmdS st c).1 = st.1 ++ e ∧ ∀ r, cmdR k (e ++ r, false) = (normC c, (r, false)) := by
  unfold cmdS at h ⊢
  obtain ⟨h1, e, h2, h3⟩ := pairs_inv k c.writes _ h
  obtain ⟨h4, k1, k2, k3, t1, t2, t3, t4, a1⟩ := headS_inv h1
  refine ⟨h4, _, by rw [h2, a1, List.append_assoc], fun r => ?_⟩
  have hfour := fourR_enc k (x := c.kind.toNat) (y := c.tx.toNat) (z := c.time.toNat) (u := c.writes.length) (by omega) (by omega) (by omega) (by omega) (e ++ r)
  unfold cmdR
  simp only []
  rw [show enc c.kind.toNat ++ enc c.tx.toNat ++ enc c.time.toNat ++ enc c.writes.length ++ e ++ r = enc c.kind.toNat ++ enc c.tx.toNat ++ enc c.time.toNat ++ enc c.writes.length ++ (e ++ r) by simp]
  rw [hfour]
  simp only []
  have hcb : cmdBad k c.kind.toNat c.writes.length = false := by
    unfold cmdBad
    rw [Bool.and_eq_false_iff]
    right
    simp; omega
  rw [hcb, Bool.or_false, h3]
  unfold normC
  have e1 : ((c.kind.toNat : Nat) : Int) = c.kind := by omega
  have e2 : ((c.tx.toNat : Nat) : Int) = c.tx := by omega
  have e3 : ((c.time.toNat : Nat) : Int) = c.time := by omega
  rw [e1, e2, e3]
  simp
/- Messages. -/
def normM (m : Ms) : Ms := if m.kind = 3 then ⟨m.kind, m.from_, m.to_, m.epoch, m.n, normC m.cmd⟩ else ⟨m.kind, m.from_, m.to_, m.epoch, m.n, ⟨0, 0, 0, []⟩⟩
theorem cmdR_bad {k : Bool} {s : RS} (h : (cmdR k s).2.2 = false) : s.2 = false := by
  unfold cmdR at h
  have hp := pairsR_bad h
  simp only [Bool.or_eq_false_iff] at hp
  exact numR_bad (numR_bad (numR_bad (numR_bad hp.1)))
theorem msgR_three {k : Bool} {s : RS} (h : (fourR k s).1 = 3) : msgR k s = (⟨(fourR k s).1, (fourR k s).2.1, (fourR k s).2.2.1, (fourR k s).2.2.2.1, (numR k (fourR k s).2.2.2.2).1, (cmdR k ((numR k (fourR k s).2.2.2.2).2.1, (numR k (fourR k s).2.2.2.2).2.2 || msgBad k (fourR k s).1)).1⟩, (cmdR k ((numR k (fourR k s).2.2.2.2).2.1, (numR k (fourR k s).2.2.2.2).2.2 || msgBad k (fourR k s).1)).2) := by
  unfold msgR; simp only; rw [if_pos h]
theorem msgR_else {k : Bool} {s : RS} (h : ¬ (fourR k s).1 = 3) : msgR k s = (⟨(fourR k s).1, (fourR k s).2.1, (fourR k s).2.2.1, (fourR k s).2.2.2.1, (numR k (fourR k s).2.2.2.2).1, ⟨0, 0, 0, []⟩⟩, ((numR k (fourR k s).2.2.2.2).2.1, (numR k (fourR k s).2.2.2.2).2.2 || msgBad k (fourR k s).1)) := by
  unfold msgR; simp only; rw [if_neg h]
theorem msgR_sound {b : List Nat} (hb : Bytes b) (h : (msgR true (b, false)).2.2 = false) (he : (msgR true (b, false)).2.1 = []) :
    normM (msgR true (b, false)).1 = (msgR true (b, false)).1 ∧ msgOut (msgR true (b, false)).1 = (b, 0) := by
  have hE : (numR true (fourR true (b, false)).2.2.2.2).2.2 = false ∧ msgBad true (fourR true (b, false)).1 = false := by
    by_cases h3 : (fourR true (b, false)).1 = 3
    · rw [msgR_three h3] at h
      dsimp only at h
      have := cmdR_bad (k := true) (s := ((numR true (fourR true (b, false)).2.2.2.2).2.1, (numR true (fourR true (b, false)).2.2.2.2).2.2 || msgBad true (fourR true (b, false)).1)) h
      exact Bool.or_eq_false_iff.1 this
    · rw [msgR_else h3] at h
      dsimp only at h
      exact Bool.or_eq_false_iff.1 h
  obtain ⟨hE, hM⟩ := hE
  have hF := numR_bad hE
  obtain ⟨_, x1, x2, x3, x4, x5⟩ := fourR_sound (s := (b, false)) hb hF
  have m3 := msgR_three (k := true) (s := (b, false))
  have m4 := msgR_else (k := true) (s := (b, false))
  generalize msgR true (b, false) = out at *
  generalize fourR true (b, false) = f at *
  have hb2 : Bytes f.2.2.2.2.1 := by simp only at x5; rw [x5] at hb; exact hb.right
  obtain ⟨_, y1, y2⟩ := numR_sound hb2 hE
  generalize numR true f.2.2.2.2 = g at *
  have hM' := hM
  simp only [msgBad, Bool.true_and, Bool.or_eq_false_iff, decide_eq_false_iff_not] at hM'
  rw [hE, hM, Bool.or_false] at m3 m4
  have hkb : kindB (f.1 : Nat) = false := by unfold kindB; simp; omega
  have hS : numS (numS (numS (numS (numS ([], 0) (f.1 : Nat)) (f.2.1 : Nat)) (f.2.2.1 : Nat)) (f.2.2.2.1 : Nat)) (g.1 : Nat) = (enc f.1 ++ enc f.2.1 ++ enc f.2.2.1 ++ enc f.2.2.2.1 ++ enc g.1, 0) := by
    rw [numS_ok x1, numS_ok x2, numS_ok x3, numS_ok x4, numS_ok y2]; simp
  have hbb : b = enc f.1 ++ enc f.2.1 ++ enc f.2.2.1 ++ enc f.2.2.2.1 ++ enc g.1 ++ g.2.1 := by
    simp only at x5; rw [x5, y1]; simp
  have hbg : Bytes g.2.1 := by rw [y1] at hb2; exact hb2.right
  by_cases h3 : f.1 = 3
  · have m3 := m3 h3
    subst m3
    simp only at h he ⊢
    obtain ⟨_, e, z1, z2, z3⟩ := cmdR_sound (s := (g.2.1, false)) hbg h
    rw [he, List.append_nil] at z1
    simp only at z1
    refine ⟨?_, ?_⟩
    · unfold normM; simp only; rw [if_pos (by omega), z2]
    · unfold msgOut
      simp only
      rw [hkb, if_neg (by simp)]
      have hm : msgS ⟨f.1, f.2.1, f.2.2.1, f.2.2.2.1, g.1, (cmdR true (g.2.1, false)).1⟩ = (b, 0) := by
        unfold msgS; simp only; rw [if_pos (by omega), hS, z3, ← z1, ← hbb]
      rw [hm, outS_zero rfl]
  · have m4 := m4 h3
    subst m4
    simp only at h he ⊢
    refine ⟨?_, ?_⟩
    · unfold normM; simp only; rw [if_neg (by omega)]
    · unfold msgOut
      simp only
      rw [hkb, if_neg (by simp)]
      have hm : msgS ⟨f.1, f.2.1, f.2.2.1, f.2.2.2.1, g.1, ⟨0, 0, 0, []⟩⟩ = (b, 0) := by
        unfold msgS; simp only; rw [if_neg (by omega), hS, hbb, he]; simp
      rw [hm, outS_zero rfl]
theorem msgOut_inv {m : Ms} {b : List Nat} (h : msgOut m = (b, 0)) (k : Bool) : msgR k (b, false) = (normM m, ([], false)) := by
  unfold msgOut at h
  split at h
  · simp at h
  rename_i hk
  have hk' : 1 ≤ m.kind ∧ m.kind ≤ 4 := by unfold kindB at hk; simp at hk; omega
  have hs : (msgS m).2 = 0 ∧ (msgS m).1 = b := by
    unfold outS at h
    split at h
    · rename_i hne; injection h with _ h2; exact absurd h2 hne
    · rw [h]; exact ⟨rfl, rfl⟩
  clear h
  obtain ⟨h0, hb⟩ := hs
  have hfive : (numS (numS (numS (numS (numS ([], 0) m.kind) m.from_) m.to_) m.epoch) m.n).2 = 0 := by
    unfold msgS at h0
    split at h0
    · exact (cmdS_inv h0 k).1
    · exact h0
  obtain ⟨g5, p5, q5, a5⟩ := numS_inv hfive
  obtain ⟨g4, p4, q4, a4⟩ := numS_inv g5
  obtain ⟨g3, p3, q3, a3⟩ := numS_inv g4
  obtain ⟨g2, p2, q2, a2⟩ := numS_inv g3
  obtain ⟨_, p1, q1, a1⟩ := numS_inv g2
  rw [a4, a3, a2, a1] at a5
  have hpre : ∀ r, fourR k (enc m.kind.toNat ++ enc m.from_.toNat ++ enc m.to_.toNat ++ enc m.epoch.toNat ++ (enc m.n.toNat ++ r), false) = (m.kind.toNat, m.from_.toNat, m.to_.toNat, m.epoch.toNat, (enc m.n.toNat ++ r, false)) :=
    fun r => fourR_enc k (by omega) (by omega) (by omega) (by omega) _
  have hmb : msgBad k m.kind.toNat = false := by
    unfold msgBad
    rw [Bool.and_eq_false_iff]; right; simp; omega
  have c1 : ((m.kind.toNat : Nat) : Int) = m.kind := by omega
  have c2 : ((m.from_.toNat : Nat) : Int) = m.from_ := by omega
  have c3 : ((m.to_.toNat : Nat) : Int) = m.to_ := by omega
  have c4 : ((m.epoch.toNat : Nat) : Int) = m.epoch := by omega
  have c5 : ((m.n.toNat : Nat) : Int) = m.n := by omega
  unfold msgS at h0 hb
  unfold msgR normM
  simp only
  split at h0
  · rename_i h3
    rw [if_pos h3] at hb
    obtain ⟨_, e, d1, d2⟩ := cmdS_inv h0 k
    rw [d1, a5] at hb
    have hbb : b = enc m.kind.toNat ++ enc m.from_.toNat ++ enc m.to_.toNat ++ enc m.epoch.toNat ++ (enc m.n.toNat ++ e) := by rw [← hb]; simp
    have d2' := d2 []
    rw [List.append_nil] at d2'
    rw [hbb, hpre, numR_enc k _ (by omega)]
    simp only
    rw [hmb, Bool.or_false, d2', if_pos (by omega), if_pos h3, c1, c2, c3, c4, c5]
  · rename_i h3
    rw [if_neg h3] at hb
    rw [a5] at hb
    have hbb : b = enc m.kind.toNat ++ enc m.from_.toNat ++ enc m.to_.toNat ++ enc m.epoch.toNat ++ (enc m.n.toNat ++ []) := by rw [← hb]; simp
    rw [hbb, hpre, numR_enc k _ (by omega)]
    simp only
    rw [hmb, Bool.or_false, if_neg (by omega), if_neg h3, c1, c2, c3, c4, c5]
/-- What the program reads, and what the document does. -/
def wireReadM (b : List Nat) : Option Ms := let x := msgR true (b, false); if x.2.2 = true ∨ 0 < x.2.1.length then none else some x.1
def refReadM (b : List Nat) : Option Ms := let x := msgR false (b, false); if x.2.2 = true ∨ (msgOut x.1).2 ≠ 0 ∨ (msgOut x.1).1 ≠ b then none else some x.1
theorem readM_same {b : List Nat} (hb : Bytes b) : wireReadM b = refReadM b := by
  unfold wireReadM refReadM
  simp only
  split
  · rename_i h1
    split
    · rfl
    · rename_i h2
      exfalso
      simp only [not_or, Bool.not_eq_true, ne_eq, Decidable.not_not] at h2
      obtain ⟨_, h3, h4⟩ := h2
      have h5 := msgOut_inv (m := (msgR false (b, false)).1) (b := b) (Prod.ext h4 h3) true
      rw [h5] at h1
      simp at h1
  · rename_i h1
    simp only [not_or, Bool.not_eq_true, Nat.not_lt, Nat.le_zero_eq] at h1
    obtain ⟨h2, h3⟩ := h1
    obtain ⟨h4, h5⟩ := msgR_sound hb h2 (List.eq_nil_of_length_eq_zero h3)
    have h6 := msgOut_inv h5 false
    rw [h4] at h6
    rw [h6, h5]
    simp
/- Logs. -/
theorem cmdsR_bad {k : Bool} {n : Nat} {s : RS} {a : List Cm} (h : (cmdsR k n s a).2.2 = false) : s.2 = false := by
  cases n with
  | zero => exact h
  | succ n =>
    unfold cmdsR at h
    split at h
    · exact h
    · rename_i hs; simp at hs; exact hs.1
theorem cmdsR_sound : ∀ (n : Nat) (s : RS) (acc : List Cm), Bytes s.1 → (cmdsR true n s acc).2.2 = false →
    ∃ e l, s.1 = e ++ (cmdsR true n s acc).2.1 ∧ (cmdsR true n s acc).1 = acc ++ l ∧ l.length = n ∧ l.map normC = l ∧ ∀ a, l.foldl cmdS (a, 0) = (a ++ e, 0)
  | 0, s, acc, _, h => ⟨[], [], by simp [cmdsR], by simp [cmdsR], rfl, rfl, fun a => by simp⟩
  | n + 1, s, acc, hb, h => by
    have hs := cmdsR_bad h
    unfold cmdsR at h ⊢
    rw [if_neg (by simp [hs])] at h ⊢
    have hf := cmdsR_bad h
    obtain ⟨_, e1, h6, h8, h7⟩ := cmdR_sound hb hf
    have hb2 : Bytes (cmdR true s).2.1 := by rw [h6] at hb; exact hb.right
    obtain ⟨e, l, h1, h2, h3, h4, h5⟩ := cmdsR_sound n _ _ hb2 h
    refine ⟨e1 ++ e, (cmdR true s).1 :: l, ?_, ?_, by simp [h3], by simp [h4, h8], fun a => ?_⟩
    · rw [List.append_assoc, ← h1]; exact h6
    · rw [h2]; simp
    · rw [List.foldl_cons, h7, h5]; simp
theorem cmds_inv (k : Bool) : ∀ (l : List Cm) (st : St), (l.foldl cmdS st).2 = 0 →
    st.2 = 0 ∧ ∃ e, (l.foldl cmdS st).1 = st.1 ++ e ∧ ∀ r acc, acc.length + l.length ≤ 501 → cmdsR k l.length (e ++ r, false) acc = (acc ++ l.map normC, (r, false))
  | [], st, h => ⟨h, [], by simp, fun r acc _ => by simp [cmdsR]⟩
  | p :: l, st, h => by
    rw [List.foldl_cons] at h ⊢
    obtain ⟨h1, e, h2, h3⟩ := cmds_inv k l _ h
    obtain ⟨h4, e1, h5, h6⟩ := cmdS_inv h1 k
    refine ⟨h4, e1 ++ e, by rw [h2, h5, List.append_assoc], fun r acc hl => ?_⟩
    rw [List.length_cons] at hl
    rw [List.length_cons, List.append_assoc]
    unfold cmdsR
    rw [if_neg (by simp; omega), h6, h3 _ _ (by simp; omega)]
    simp
def logOut (l : List Cm) : St := outS (logS l)
theorem logR_sound {b : List Nat} (hb : Bytes b) (h : (logR true (b, false)).2.2 = false) (he : (logR true (b, false)).2.1 = []) :
    (logR true (b, false)).1.map normC = (logR true (b, false)).1 ∧ logOut (logR true (b, false)).1 = (b, 0) := by
  unfold logR at h he ⊢
  have hn := cmdsR_bad h
  simp only [Bool.true_and, Bool.or_eq_false_iff, decide_eq_false_iff_not] at hn
  obtain ⟨hn, hl⟩ := hn
  obtain ⟨_, h1, h2⟩ := numR_sound (s := (b, false)) hb hn
  simp only at h1
  have hb2 : Bytes (numR true (b, false)).2.1 := by rw [h1] at hb; exact hb.right
  obtain ⟨e, l, h3, h4, h5, h6, h7⟩ := cmdsR_sound (numR true (b, false)).1 ((numR true (b, false)).2.1, (numR true (b, false)).2.2 || (true && decide (500 < (numR true (b, false)).1))) [] hb2 h
  rw [he, List.append_nil] at h3
  simp only at h3
  rw [List.nil_append] at h4
  rw [h4]
  refine ⟨h6, ?_⟩
  unfold logOut logS
  rw [h5]
  have hd : decide (500 < (numR true (b, false)).1) = false := by simp; omega
  rw [hd, numS_ok h2, h7, limS_ok]
  have hbb : [] ++ enc (numR true (b, false)).1 ++ e = b := by rw [List.nil_append, ← h3, ← h1]
  rw [hbb, outS_zero rfl]
theorem logOut_inv {l : List Cm} {b : List Nat} (h : logOut l = (b, 0)) (k : Bool) : logR k (b, false) = (l.map normC, ([], false)) := by
  unfold logOut at h
  have hs : (logS l).2 = 0 ∧ (logS l).1 = b := by
    unfold outS at h
    split at h
    · rename_i hne; injection h with _ h2; exact absurd h2 hne
    · rw [h]; exact ⟨rfl, rfl⟩
  unfold logS at hs
  obtain ⟨h0, hb⟩ := hs
  obtain ⟨h1, h2, h3⟩ := limS_inv h0
  have hl : ¬ 500 < l.length := by simpa using h2
  obtain ⟨h4, e, h5, h6⟩ := cmds_inv k l _ h1
  obtain ⟨_, _, _, h7⟩ := numS_inv h4
  rw [h3, h5, h7] at hb
  simp only [List.nil_append, Int.toNat_natCast] at hb
  unfold logR
  rw [← hb, numR_enc k _ (by omega)]
  simp only
  have hd : (k && decide (500 < l.length)) = false := by rw [Bool.and_eq_false_iff]; right; simp; omega
  have h8 := h6 [] [] (by simp; omega)
  rw [List.append_nil] at h8
  rw [hd, Bool.or_false, h8]
  simp
def wireReadL (b : List Nat) : Option (List Cm) := let x := logR true (b, false); if x.2.2 = true ∨ 0 < x.2.1.length then none else some x.1
def refReadL (b : List Nat) : Option (List Cm) := let x := logR false (b, false); if x.2.2 = true ∨ (logOut x.1).2 ≠ 0 ∨ (logOut x.1).1 ≠ b then none else some x.1
theorem readL_same {b : List Nat} (hb : Bytes b) : wireReadL b = refReadL b := by
  unfold wireReadL refReadL
  simp only
  split
  · rename_i h1
    split
    · rfl
    · rename_i h2
      exfalso
      simp only [not_or, Bool.not_eq_true, ne_eq, Decidable.not_not] at h2
      obtain ⟨_, h3, h4⟩ := h2
      have h5 := logOut_inv (l := (logR false (b, false)).1) (b := b) (Prod.ext h4 h3) true
      rw [h5] at h1
      simp at h1
  · rename_i h1
    simp only [not_or, Bool.not_eq_true, Nat.not_lt, Nat.le_zero_eq] at h1
    obtain ⟨h2, h3⟩ := h1
    obtain ⟨h4, h5⟩ := logR_sound hb h2 (List.eq_nil_of_length_eq_zero h3)
    have h6 := logOut_inv h5 false
    rw [h4] at h6
    rw [h6, h5]
    simp
end Go.Proofs.YtnahkpfamocnfaaDoor
