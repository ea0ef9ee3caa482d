/- As HeldN's, with a list of the operations that come behind the taken one in two steps or more. -/
import Derived.Test.YtmgpdkecpobcaaaDoorHeldN
namespace Go.Proofs.YtmgpdkecpobcaaaDoor
open Go.RowKit
section
variable {P : Program} {ops : Array Oper} {Q : Exit → Act → World → Prop} {md : Region.Mode} {N : Nat} {C : World → Prop}
/-- Each of D waits for i or for another of D, and none is done. -/
def behindB (md : Region.Mode) (ops : Array Oper) (listed : Array Bool) (i : Nat) (D : List Nat) : Bool :=
  D.all fun k => !(k == i) && (listed.getD k true == false) && (match ops[k]? with | some o => o.after.any fun e => Region.binds md e && (e.on == i || D.contains e.on) | none => false)
def lateD (md : Region.Mode) (ops : Array Oper) (listed : Array Bool) (i N : Nat) (D : List Nat) : Bool :=
  (List.range ops.size).all fun j => j == i || listed.getD j true || decide (j < N) || D.contains j || (match ops[j]? with | some o => o.after.any fun e => Region.binds md e && e.on == i | none => true)
theorem lateD_spec {listed : Array Bool} {i : Nat} {D : List Nat} (h : lateD md ops listed i N D = true) : ∀ j oj, ops[j]? = some oj → j ≠ i → listed.getD j true = false → (∀ e ∈ oj.after, Region.binds md e = true → e.on ≠ i) → j ∉ D → j < N := fun j oj hj hji hl hno hD => by
  have hlt : j < ops.size := (Array.getElem?_eq_some_iff.1 hj).1
  have h1 := List.all_eq_true.1 h j (List.mem_range.2 hlt)
  rw [hj] at h1
  simp only [Bool.or_eq_true, beq_iff_eq, decide_eq_true_eq] at h1
  rcases h1 with (((h1 | h1) | h1) | h1) | h1
  · exact absurd h1 hji
  · rw [hl] at h1; cases h1
  · exact h1
  · exact absurd (by simpa using h1) hD
  · obtain ⟨e, he, h2⟩ := Array.any_eq_true'.1 h1
    simp only [Bool.and_eq_true, beq_iff_eq] at h2
    exact absurd h2.2 (hno e he h2.1)
theorem behind_spec {listed : Array Bool} {i : Nat} {D : List Nat} (h : behindB md ops listed i D = true) : ∀ k ∈ D, k ≠ i ∧ listed.getD k true = false ∧ ∃ o, ops[k]? = some o ∧ ∃ e ∈ o.after, Region.binds md e = true ∧ (e.on = i ∨ e.on ∈ D) := fun k hk => by
  have h1 := List.all_eq_true.1 h k hk
  simp only [Bool.and_eq_true, beq_iff_eq, Bool.not_eq_true', beq_eq_false_iff_ne] at h1
  obtain ⟨⟨h2, h3⟩, h4⟩ := h1
  refine ⟨h2, h3, ?_⟩
  split at h4
  · rename_i o ho
    obtain ⟨e, he, h5⟩ := Array.any_eq_true'.1 h4
    simp only [Bool.and_eq_true, Bool.or_eq_true, beq_iff_eq] at h5
    exact ⟨o, ho, e, he, h5.1, h5.2.imp id (fun h => by simpa using h)⟩
  · cases h4
theorem wpAnyN_firstD {i : Nat} {oi : Oper} {v : Value} (D : List Nat) (hi : ops[i]? = some oi) (hsel : ∀ (j : Nat) (o : Oper) cs b, ops[j]? = some o → o.op ≠ .select cs b)
    (hQ : ∀ c a w, Q (.panic c) (a.put oi.dst v) w → Q (.panic c) a w) (hDd : ∀ k ∈ D, ∃ o, ops[k]? = some o ∧ ∃ e ∈ o.after, Region.binds md e = true ∧ (e.on = i ∨ e.on ∈ D)) :
    ∀ (fuel : Nat) (listed : Array Bool) (a : Act) (w : World),
      (∀ j oj, ops[j]? = some oj → j ≠ i → listed.getD j true = false → (∀ e ∈ oj.after, Region.binds md e = true → e.on ≠ i) → oi.apart ops oj = true ∧ (j ∉ D → j < N)) →
      (∀ k ∈ D, k ≠ i ∧ listed.getD k true = false) →
      i ∈ Region.ready md ops listed → YieldsIf P ops C oi v a → C w →
      wpAnyN P md ops Q N C fuel (listed.setIfInBounds i true) (a.put oi.dst v) w → wpAnyN P md ops Q N C (fuel + 1) listed a w := by
  intro fuel
  induction fuel with
  | zero =>
    intro listed a w _ _ hr hy hS H
    refine ⟨fun h => (by rw [h] at hr; cases hr), fun j hj => ?_⟩
    by_cases hji : j = i
    · subst hji; exact hy.wpOp hi hS ⟨fun _ => hS, H⟩
    · have := ready_mono hj hji
      rw [H.1] at this
      cases this
  | succ fuel ih =>
    intro listed a w hfree hDl hr hy hS H
    refine ⟨fun h => (by rw [h] at hr; cases hr), fun j hj => ?_⟩
    by_cases hji : j = i
    · subst hji; exact hy.wpOp hi hS ⟨fun _ => hS, H⟩
    · have h1 := H.2 j (ready_mono hj hji)
      obtain ⟨hjun, oj, hoj, hall⟩ := mem_ready.1 hj
      have hun : ∀ x, listed.getD x true = false → ∀ e ∈ oj.after, Region.binds md e = true → e.on ≠ x := fun x h0 e he hb heq => by
        have h1 := hall e he hb
        rw [heq] at h1
        rcases Nat.lt_or_ge x listed.size with h' | h'
        · simp [h'] at h0 h1; rw [h0] at h1; cases h1
        · simp [Array.getElem?_eq_none h'] at h1
      have hnot : ∀ e ∈ oj.after, Region.binds md e = true → e.on ≠ i := hun i (mem_ready.1 hr).1
      have hjD : j ∉ D := fun hD => by
        obtain ⟨o, ho, e, he, hb, h⟩ := hDd j hD
        rw [hoj] at ho
        obtain rfl := Option.some.inj ho
        rcases h with h | h
        · exact hnot e he hb h
        · exact hun _ (hDl _ h).2 e he hb rfl
      obtain ⟨hap, hjN⟩ := hfree j oj hoj hji hjun hnot
      have h2 := wpOp_putIf hoj hap (fun cs b => hsel i oi cs b hi) (fun cs b => hsel j oj cs b hoj) hQ hy h1
      have hfree' : ∀ k ok, ops[k]? = some ok → k ≠ i → (listed.setIfInBounds j true).getD k true = false →
          (∀ e ∈ ok.after, Region.binds md e = true → e.on ≠ i) → oi.apart ops ok = true ∧ (k ∉ D → k < N) := fun k ok hk hki hun hno => by
        refine hfree k ok hk hki ?_ hno
        by_cases hjk : j = k
        · subst hjk; exact hjun
        · rw [getD_set_ne true hjk] at hun; exact hun
      have hDl' : ∀ k ∈ D, k ≠ i ∧ (listed.setIfInBounds j true).getD k true = false := fun k hk => by
        refine ⟨(hDl k hk).1, ?_⟩
        rw [getD_set_ne true (fun e : j = k => hjD (e ▸ hk))]
        exact (hDl k hk).2
      refine wpOp_mono (fun a' w' h3 => ⟨h3.2.1, ih (listed.setIfInBounds j true) a' w' hfree' hDl' (ready_mono hr (Ne.symm hji)) h3.1 (h3.2.1 (hjN hjD)) ?_⟩) h2
      rw [Array.setIfInBounds_comm _ _ hji]
      exact h3.2.2
theorem ntakeD (i : Nat) (D : List Nat) {oi : Oper} {v : Value} {fuel : Nat} {listed : Array Bool} {a : Act} {w : World} (hi : ops[i]? = some oi)
    (hs : Region.noSelect ops = true) (hf : Region.free md ops listed i = true) (hb : behindB md ops listed i D = true) (hl : lateD md ops listed i N D = true) (hr : (Region.ready md ops listed).contains i = true)
    (hQ : ∀ c a w, Q (.panic c) (a.put oi.dst v) w → Q (.panic c) a w) (hw : Region.wanted oi (yielded ops a.tmps) = true) (hC : C w)
    (hy : ∀ w, C w → (execOp a.eval oi).run P w = .ok (.value v) w)
    (h : wpAnyN P md ops Q N C fuel (listed.setIfInBounds i true) (a.put oi.dst v) w) : wpAnyN P md ops Q N C (fuel + 1) listed a w :=
  wpAnyN_firstD D hi (Region.noSelect_spec hs) hQ (fun k hk => (behind_spec hb k hk).2.2) fuel listed a w (fun j oj hj hji hjl hno => ⟨Region.free_spec hi hf j oj hj hji hjl hno, lateD_spec hl j oj hj hji hjl hno⟩)
    (fun k hk => ⟨(behind_spec hb k hk).1, (behind_spec hb k hk).2.1⟩) (by simpa using hr) (.inl ⟨hw, hy⟩) hC h
end
end Go.Proofs.YtmgpdkecpobcaaaDoor
