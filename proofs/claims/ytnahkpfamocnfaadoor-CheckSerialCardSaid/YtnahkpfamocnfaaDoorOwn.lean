/- Owned rows: two of different types lie apart; a cell of one is stored; the check's and the document's structs. -/
import Derived.Test.YtnahkpfamocnfaaDoorChk7
namespace Go.Proofs.YtnahkpfamocnfaaDoor
open Go.RowKit
theorem tx_info : (Tryd.prog.info? 46).map (fun i => (i.zero, i.size, i.bytes)) = some (some (.agg #[.slice none 0 0, .int .i64 0, .int .i64 0]), 3, 40) := by kernel_rfl
theorem rtx_info : (Tryd.prog.info? 108).map (fun i => (i.zero, i.size, i.bytes)) = some (some (.agg #[.slice none 0 0, .int .i64 0, .int .i64 0]), 3, 40) := by kernel_rfl
theorem op_info : (Tryd.prog.info? 110).map (fun i => (i.zero, i.size, i.bytes)) = some (some (.agg #[.int .i64 0, .string ⟨#[]⟩, .string ⟨#[]⟩, .bool false]), 4, 48) := by kernel_rfl
theorem rop_info : (Tryd.prog.info? 111).map (fun i => (i.zero, i.size, i.bytes)) = some (some (.agg #[.int .i64 0, .string ⟨#[]⟩, .string ⟨#[]⟩, .bool false]), 4, 48) := by kernel_rfl
theorem own_some {w : World} {base e size n g : Nat} {v : Value} {xs : List Value} (h : w.ownsRow base e size v n xs) (hg : v.ownBlock = some g) : ∃ c, v = .slice (some ⟨g, 0, none⟩) n c := by
  rcases h.2 with ⟨rfl, _⟩ | ⟨g', cap, cur, rfl, _⟩
  · simp [Value.ownBlock] at hg
  · have : g' = g := by simpa [Value.ownBlock] using hg
    subst this
    exact ⟨_, rfl⟩
theorem own_own_ne {w : World} {base base' e e' size size' n n' : Nat} {v v' : Value} {xs xs' : List Value} (h : w.ownsRow base e size v n xs) (h' : w.ownsRow base' e' size' v' n' xs') (hne : e ≠ e') {g : Nat} (hg : v.ownBlock = some g) : v'.ownBlock ≠ some g := by
  intro hg'
  rcases h.2 with ⟨rfl, _⟩ | ⟨g1, cap, cur, rfl, _, hh, _⟩
  · simp [Value.ownBlock] at hg
  · rcases h'.2 with ⟨rfl, _⟩ | ⟨g2, cap', cur', rfl, _, hh', _⟩
    · simp [Value.ownBlock] at hg'
    · have e1 : g1 = g := by simpa [Value.ownBlock] using hg
      have e2 : g2 = g := by simpa [Value.ownBlock] using hg'
      subst e1
      subst e2
      rw [hh] at hh'
      injection hh' with hh'
      injection hh' with _ ht
      exact hne ht
theorem flat_set {α : Type} (size : Nat) (e1 : α → List Value) (hsz : ∀ x, (e1 x).length = size) (i : Nat) (u : Value) (hi : i < size) : ∀ (X : List α) (j : Nat) (x y : α), X[j]? = some x → (e1 x).set i u = e1 y → (X.flatMap e1).set (j * size + i) u = (X.set j y).flatMap e1
  | [], j, x, y, h, _ => by simp at h
  | z :: X, 0, x, y, h, hy => by
    simp at h
    subst h
    rw [List.flatMap_cons, Nat.zero_mul, Nat.zero_add, List.set_append_left _ _ (by rw [hsz]; exact hi), hy]
    simp
  | z :: X, j + 1, x, y, h, hy => by
    have h' : X[j]? = some x := by simpa using h
    have ih := flat_set size e1 hsz i u hi X j x y h' hy
    have e : (j + 1) * size + i = (e1 z).length + (j * size + i) := by rw [hsz, Nat.succ_mul]; omega
    rw [List.flatMap_cons, e, List.set_append_right _ _ (by omega)]
    have e2 : (e1 z).length + (j * size + i) - (e1 z).length = j * size + i := by omega
    rw [e2, ih]
    simp
theorem drop_at {α : Type} {l : List α} {k : Nat} {o : α} (h : l[k]? = some o) : l.drop k = o :: l.drop (k + 1) := by
  obtain ⟨hl, hx⟩ := List.getElem?_eq_some_iff.1 h
  rw [← hx]
  exact List.drop_eq_getElem_cons hl
theorem mid_at {α : Type} (a : List α) (x : α) (b : List α) (k : Nat) (h : a.length = k) : (a ++ x :: b)[k]? = some x := by
  rw [List.getElem?_append_right (by omega), h]; simp
theorem mid_set {α : Type} (a : List α) (x y : α) (b : List α) (k : Nat) (h : a.length = k) : (a ++ x :: b).set k y = a ++ y :: b := by
  rw [List.set_append_right _ _ (by omega), h]; simp
theorem own_set {w : World} {base e size n c g : Nat} {xs : List Value} (h : w.ownsRow base e size (.slice (some ⟨g, 0, none⟩) n c) n xs) (i : Nat) (u : Value) : (w.setCell ⟨g, i, none⟩ u).ownsRow base e size (.slice (some ⟨g, 0, none⟩) n c) n (xs.set i u) := (h.stored i u).1
theorem opc_one (l : List OpP) : ∀ u ∈ l.flatMap opCells, u.oneCell' = true := by
  intro u hu
  obtain ⟨x, _, hx⟩ := List.mem_flatMap.1 hu
  simp [opCells] at hx
  rcases hx with rfl | rfl | rfl | rfl <;> rfl
theorem txc_one (l : List TxR) : ∀ u ∈ l.flatMap txCells, u.oneCell' = true := by
  intro u hu
  obtain ⟨x, _, hx⟩ := List.mem_flatMap.1 hu
  simp [txCells] at hx
  rcases hx with rfl | rfl | rfl <;> rfl
end Go.Proofs.YtnahkpfamocnfaaDoor
