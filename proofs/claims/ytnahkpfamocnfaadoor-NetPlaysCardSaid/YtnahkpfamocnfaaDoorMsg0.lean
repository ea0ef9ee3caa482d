/- How pairs, commands and messages lie in memory. -/
import Derived.Test.YtnahkpfamocnfaaDoorWirePlain
namespace Go.Proofs.YtnahkpfamocnfaaDoor
open Go.RowKit
def prCells (p : Pr) : List Value := [.string p.key, .string p.val, .bool p.gone]
theorem flat_get : ∀ (l : List Pr) (j : Nat) (p : Pr), l[j]? = some p → (l.flatMap prCells)[j * 3]? = some (.string p.key) ∧ (l.flatMap prCells)[j * 3 + 1]? = some (.string p.val) ∧ (l.flatMap prCells)[j * 3 + 2]? = some (.bool p.gone)
  | [], j, p, h => by simp at h
  | q :: l, 0, p, h => by
    simp at h
    subst h
    simp [prCells]
  | q :: l, j + 1, p, h => by
    have h' : l[j]? = some p := by simpa using h
    obtain ⟨a, b, c⟩ := flat_get l j p h'
    have e : ∀ i, ((q :: l).flatMap prCells)[(j + 1) * 3 + i]? = (l.flatMap prCells)[j * 3 + i]? := fun i => by
      have : (j + 1) * 3 + i = (j * 3 + i) + 3 := by omega
      rw [this, List.flatMap_cons]
      rw [List.getElem?_append_right (by simp [prCells])]
      simp [prCells]
    exact ⟨by simpa using (e 0).trans (by simpa using a), (e 1).trans b, (e 2).trans c⟩
/-- A slice of pairs reads as a list of pairs. -/
def ReadsP (w : World) (B : Nat) (A : Option Addr) (n : Nat) (l : List Pr) : Prop := l.length = n ∧ Rd w B 3 A n (l.flatMap prCells)
theorem ReadsP.at_ {w : World} {B n k : Nat} {A : Option Addr} {l : List Pr} (h : ReadsP w B A n l) (hk : k < n) : ∃ g off p, A = some ⟨g, off, none⟩ ∧ g < B ∧ l[k]? = some p ∧
    w.cell? ⟨g, off + k * 3, none⟩ = some (.string p.key) ∧ w.cell? ⟨g, off + k * 3 + 1, none⟩ = some (.string p.val) ∧ w.cell? ⟨g, off + k * 3 + 2, none⟩ = some (.bool p.gone) := by
  obtain ⟨g, off, e, hb, hc⟩ := h.2.2 (by omega)
  have hl : k < l.length := by rw [h.1]; exact hk
  have hp : l[k]? = some l[k] := List.getElem?_eq_getElem hl
  obtain ⟨a, b, c⟩ := flat_get l k _ hp
  exact ⟨g, off, l[k], e, hb, hp, hc _ _ a, hc _ _ b, hc _ _ c⟩
theorem ReadsP.fr {S : Nat → Prop} {w w' : World} {B n : Nat} {A : Option Addr} {l : List Pr} (h : ReadsP w B A n l) (hf : Fr S w w') (hB : B ≤ w.heap.size) (hn : ∀ g off, A = some ⟨g, off, none⟩ → 0 < n → ¬ S g) : ReadsP w' B A n l := ⟨h.1, h.2.fr hf hB hn⟩
def cmdV (c : Cm) (A : Option Addr) (n k : Nat) : Value := .agg #[.int .i64 c.kind, .int .i64 c.tx, .int .i64 c.time, .slice A n k]
def cmdCells (c : Cm) (A : Option Addr) (n k : Nat) : Array Value := #[.int .i64 c.kind, .int .i64 c.tx, .int .i64 c.time, .slice A n k]
def msgCells (m : Ms) (A : Option Addr) (n k : Nat) : Array Value := #[.int .i64 m.kind, .int .i64 m.from_, .int .i64 m.to_, .int .i64 m.epoch, .int .i64 m.n, .int .i64 m.cmd.kind, .int .i64 m.cmd.tx, .int .i64 m.cmd.time, .slice A n k]
def msgV (m : Ms) (A : Option Addr) (n k : Nat) : Value := .agg #[.int .i64 m.kind, .int .i64 m.from_, .int .i64 m.to_, .int .i64 m.epoch, .int .i64 m.n, .int .i64 m.cmd.kind, .int .i64 m.cmd.tx, .int .i64 m.cmd.time, .slice A n k]
/-- A command as it lies: its Writes' slice. -/
structure CmR where
  c : Cm
  A : Option Addr
  n : Nat
  k : Nat
def crCells (x : CmR) : List Value := [.int .i64 x.c.kind, .int .i64 x.c.tx, .int .i64 x.c.time, .slice x.A x.n x.k]
def ReadsC (w : World) (B : Nat) (A : Option Addr) (n : Nat) (l : List CmR) : Prop := l.length = n ∧ Rd w B 4 A n (l.flatMap crCells) ∧ ∀ x ∈ l, ReadsP w B x.A x.n x.c.writes
theorem flat4 : ∀ (l : List CmR) (j : Nat) (x : CmR), l[j]? = some x → (l.flatMap crCells)[j * 4]? = some (.int .i64 x.c.kind) ∧ (l.flatMap crCells)[j * 4 + 1]? = some (.int .i64 x.c.tx) ∧ (l.flatMap crCells)[j * 4 + 2]? = some (.int .i64 x.c.time) ∧ (l.flatMap crCells)[j * 4 + 3]? = some (.slice x.A x.n x.k)
  | [], j, p, h => by simp at h
  | q :: l, 0, p, h => by
    simp at h
    subst h
    simp [crCells]
  | q :: l, j + 1, p, h => by
    have h' : l[j]? = some p := by simpa using h
    obtain ⟨a, b, c, d⟩ := flat4 l j p h'
    have e : ∀ i, ((q :: l).flatMap crCells)[(j + 1) * 4 + i]? = (l.flatMap crCells)[j * 4 + i]? := fun i => by
      have : (j + 1) * 4 + i = (j * 4 + i) + 4 := by omega
      rw [this, List.flatMap_cons]
      rw [List.getElem?_append_right (by simp [crCells])]
      simp [crCells]
    exact ⟨by simpa using (e 0).trans (by simpa using a), (e 1).trans b, (e 2).trans c, (e 3).trans d⟩
theorem ReadsC.at_ {w : World} {B n k : Nat} {A : Option Addr} {l : List CmR} (h : ReadsC w B A n l) (hk : k < n) : ∃ g off x, A = some ⟨g, off, none⟩ ∧ g < B ∧ l[k]? = some x ∧
    w.cell? ⟨g, off + k * 4, none⟩ = some (.int .i64 x.c.kind) ∧ w.cell? ⟨g, off + k * 4 + 1, none⟩ = some (.int .i64 x.c.tx) ∧ w.cell? ⟨g, off + k * 4 + 2, none⟩ = some (.int .i64 x.c.time) ∧ w.cell? ⟨g, off + k * 4 + 3, none⟩ = some (.slice x.A x.n x.k) ∧ ReadsP w B x.A x.n x.c.writes := by
  obtain ⟨g, off, e, hb, hc⟩ := h.2.1.2 (by omega)
  have hl : k < l.length := by rw [h.1]; exact hk
  have hp : l[k]? = some l[k] := List.getElem?_eq_getElem hl
  obtain ⟨a, b, c, d⟩ := flat4 l k _ hp
  exact ⟨g, off, l[k], e, hb, hp, hc _ _ a, hc _ _ b, hc _ _ c, hc _ _ d, h.2.2 _ (List.getElem_mem hl)⟩
theorem ReadsC.below {w w' : World} {B n : Nat} {A : Option Addr} {l : List CmR} (h : ReadsC w B A n l) (hb : Below B w w') : ReadsC w' B A n l := ⟨h.1, h.2.1.below hb, fun x hx => ⟨(h.2.2 x hx).1, (h.2.2 x hx).2.below hb⟩⟩
theorem ReadsP.more {w : World} {B B' n : Nat} {A : Option Addr} {l : List Pr} (h : ReadsP w B A n l) (hB : B ≤ B') : ReadsP w B' A n l := ⟨h.1, h.2.more hB⟩
def csOf (l : List CmR) : List Cm := l.map (·.c)
end Go.Proofs.YtnahkpfamocnfaaDoor
