/- What was written without a fault is short. -/
import Derived.Test.YtnahkpfamocnfabDoorBackPlain
namespace Go.Proofs.YtnahkpfamocnfabDoor
open Go.RowKit
theorem textS_lim {st : St} {s : ByteArray} {most : Nat} (h : (textS st s most).2 = 0) : st.2 = 0 ∧ s.size ≤ most := by
  have h1 : (numS (limS st (decide ((most : Int) < s.size))) s.size).2 = 0 := h
  obtain ⟨h2, _⟩ := numS_inv h1
  obtain ⟨h3, h4, _⟩ := limS_inv h2
  simp only [decide_eq_false_iff_not] at h4
  exact ⟨h3, by omega⟩
theorem pairS_lim {st : St} {p : Pr} (h : (pairS st p).2 = 0) : st.2 = 0 ∧ (pairS st p).1.length ≤ st.1.length + 90 := by
  have h1 := textS_len st p.key 20
  unfold pairS at h ⊢
  split at h
  · rename_i hg
    rw [if_pos hg]
    obtain ⟨h2, _⟩ := numS_inv h
    obtain ⟨h3, h4⟩ := textS_lim (most := 20) h2
    have h5 := numS_len (textS st p.key 20) 1
    exact ⟨h3, by omega⟩
  · rename_i hg
    rw [if_neg hg]
    obtain ⟨h2, h6⟩ := textS_lim (most := 40) h
    obtain ⟨h2, _⟩ := numS_inv h2
    obtain ⟨h3, h4⟩ := textS_lim (most := 20) h2
    have h5 := numS_len (textS st p.key 20) 0
    have h7 := textS_len (numS (textS st p.key 20) 0) p.val 40
    exact ⟨h3, by omega⟩
theorem pairs_lim : ∀ (l : List Pr) (st : St), (l.foldl pairS st).2 = 0 → st.2 = 0 ∧ (l.foldl pairS st).1.length ≤ st.1.length + 90 * l.length
  | [], st, h => ⟨h, by simp⟩
  | p :: l, st, h => by
    obtain ⟨h1, h2⟩ := pairs_lim l (pairS st p) h
    obtain ⟨h3, h4⟩ := pairS_lim h1
    simp only [List.foldl_cons, List.length_cons]
    exact ⟨h3, by omega⟩
theorem cmdS_lim {st : St} {c : Cm} (h : (cmdS st c).2 = 0) : st.2 = 0 ∧ (cmdS st c).1.length ≤ st.1.length + 1840 := by
  obtain ⟨h1, h2⟩ := pairs_lim c.writes (headS st c) h
  have h3 := headS_len st c
  obtain ⟨h4, _, _, h5, _⟩ := headS_inv h1
  unfold cmdS
  exact ⟨h4, by omega⟩
theorem cmds_lim : ∀ (l : List Cm) (st : St), (l.foldl cmdS st).2 = 0 → st.2 = 0 ∧ (l.foldl cmdS st).1.length ≤ st.1.length + 1840 * l.length
  | [], st, h => ⟨h, by simp⟩
  | p :: l, st, h => by
    obtain ⟨h1, h2⟩ := cmds_lim l (cmdS st p) h
    obtain ⟨h3, h4⟩ := cmdS_lim h1
    simp only [List.foldl_cons, List.length_cons]
    exact ⟨h3, by omega⟩
theorem msgOut_short {m : Ms} {b : List Nat} (h : msgOut m = (b, 0)) : b.length ≤ 10000 := by
  unfold msgOut at h
  split at h
  · simp at h
  unfold outS at h
  split at h
  · rename_i hne; injection h with _ h; exact absurd h hne
  · have h5 : (numS (numS (numS (numS (numS ([], 0) m.kind) m.from_) m.to_) m.epoch) m.n).1.length ≤ 50 := by
      have g1 := numS_len ([], 0) m.kind
      have g2 := numS_len (numS ([], 0) m.kind) m.from_
      have g3 := numS_len (numS (numS ([], 0) m.kind) m.from_) m.to_
      have g4 := numS_len (numS (numS (numS ([], 0) m.kind) m.from_) m.to_) m.epoch
      have g5 := numS_len (numS (numS (numS (numS ([], 0) m.kind) m.from_) m.to_) m.epoch) m.n
      simp only [List.length_nil] at g1
      omega
    have hb : (msgS m).1 = b := by rw [h]
    have h0 : (msgS m).2 = 0 := by rw [h]
    unfold msgS at hb h0
    split at hb
    · rename_i h3
      rw [if_pos h3] at h0
      have := (cmdS_lim h0).2
      rw [hb] at this
      omega
    · rw [← hb]; omega
theorem logOut_short {l : List Cm} {b : List Nat} (hl : l.length ≤ 30) (h : logOut l = (b, 0)) : b.length ≤ 100000 := by
  unfold logOut outS at h
  split at h
  · rename_i hne; injection h with _ h; exact absurd h hne
  · have hb : (logS l).1 = b := by rw [h]
    have h0 : (logS l).2 = 0 := by rw [h]
    unfold logS at hb h0
    obtain ⟨h1, _, h2⟩ := limS_inv h0
    rw [h2] at hb
    have h3 := (cmds_lim l _ h1).2
    have h4 := numS_len ([], 0) l.length
    simp only [List.length_nil] at h4
    rw [hb] at h3
    omega
end Go.Proofs.YtnahkpfamocnfabDoor
