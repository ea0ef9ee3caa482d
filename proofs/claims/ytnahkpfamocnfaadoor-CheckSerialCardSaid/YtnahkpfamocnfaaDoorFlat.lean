/- Plain: elements of a fixed number of cells, laid in a row: where each one's cells stand. -/
import Derived.Test.YtnahkpfamocnfaaDoorFrame
namespace Go.Proofs.YtnahkpfamocnfaaDoor
open Go.RowKit
theorem flat_len {α : Type} (size : Nat) (e1 : α → List Value) (hsz : ∀ x, (e1 x).length = size) : ∀ l : List α, (l.flatMap e1).length = l.length * size
  | [] => by simp
  | x :: l => by rw [List.flatMap_cons, List.length_append, hsz, flat_len size e1 hsz l, List.length_cons, Nat.succ_mul]; omega
theorem flat_at {α : Type} (size : Nat) (e1 : α → List Value) (hsz : ∀ x, (e1 x).length = size) : ∀ (l : List α) (j : Nat) (x : α), l[j]? = some x → ∀ i, i < size → (l.flatMap e1)[j * size + i]? = (e1 x)[i]?
  | [], j, x, h, _, _ => by simp at h
  | y :: l, 0, x, h, i, hi => by
    simp at h
    subst h
    rw [List.flatMap_cons, Nat.zero_mul, Nat.zero_add, List.getElem?_append_left (by rw [hsz]; exact hi)]
  | y :: l, j + 1, x, h, i, hi => by
    have h' : l[j]? = some x := by simpa using h
    have ih := flat_at size e1 hsz l j x h' i hi
    have e : (j + 1) * size + i = (j * size + i) + size := by rw [Nat.succ_mul]; omega
    rw [e, List.flatMap_cons, List.getElem?_append_right (by rw [hsz]; omega), hsz, Nat.add_sub_cancel]
    exact ih
/-- An element of a slice that reads as a list: its cells. -/
theorem Rd.elem {α : Type} {size : Nat} {e1 : α → List Value} (hsz : ∀ x, (e1 x).length = size) {w : World} {B n k : Nat} {A : Option Addr} {l : List α} (hl : l.length = n) (h : Rd w B size A n (l.flatMap e1)) (hk : k < n) :
    ∃ g off x, A = some ⟨g, off, none⟩ ∧ g < B ∧ l[k]? = some x ∧ ∀ i u, (e1 x)[i]? = some u → w.cell? ⟨g, off + k * size + i, none⟩ = some u := by
  obtain ⟨g, off, e, hb, hc⟩ := h.2 (by omega)
  have hkl : k < l.length := by omega
  refine ⟨g, off, l[k], e, hb, List.getElem?_eq_getElem hkl, fun i u hu => ?_⟩
  have hi : i < size := by rw [← hsz l[k]]; exact (List.getElem?_eq_some_iff.1 hu).1
  have := hc (k * size + i) u (by rw [flat_at size e1 hsz l k _ (List.getElem?_eq_getElem hkl) i hi]; exact hu)
  rw [← Nat.add_assoc] at this
  exact this
end Go.Proofs.YtnahkpfamocnfaaDoor
