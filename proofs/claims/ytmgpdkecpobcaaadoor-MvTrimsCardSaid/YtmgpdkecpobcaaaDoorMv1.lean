/- mv: versions in memory: a row of one's own, or what Trim has left of one. -/
import Derived.Test.YtmgpdkecpobcaaaDoorMvP
import Derived.Test.YtmgpdkecpobcaaaDoorRangeS
import Derived.Test.YtmgpdkecpobcaaaDoorHeldW
import Derived.Test.YtmgpdkecpobcaaaDoorInsV
import Derived.StillTailTactics
namespace Go.Proofs.YtmgpdkecpobcaaaDoor
open Go.RowKit
abbrev VxR := Vx
def vxCells (x : Vx) : List Value := [.int .i64 x.t, .string ⟨x.v.toArray⟩, .bool x.g]
def vxV (x : Vx) : Value := .agg #[.int .i64 x.t, .string ⟨x.v.toArray⟩, .bool x.g]
theorem flatV : ∀ (l : List Vx) (j : Nat) (x : Vx), l[j]? = some x → ∀ i, i < 3 → (l.flatMap vxCells)[j * 3 + i]? = (vxCells x)[i]?
  | [], j, p, h, i, hi => by simp at h
  | q :: l, 0, p, h, i, hi => by
    simp at h
    subst h
    rw [List.flatMap_cons, List.getElem?_append_left (by show _ < 3; omega)]
    simp
  | q :: l, j + 1, p, h, i, hi => by
    have h' : l[j]? = some p := by simpa using h
    have e : (j + 1) * 3 + i = (j * 3 + i) + 3 := by omega
    have e3 : (vxCells q).length = 3 := rfl
    rw [e, List.flatMap_cons, List.getElem?_append_right (by rw [e3]; omega), e3, Nat.add_sub_cancel]
    exact flatV l j p h' i hi
theorem flatV_len (l : List Vx) : (l.flatMap vxCells).length = l.length * 3 := by
  induction l with
  | nil => rfl
  | cons x l ih => rw [List.flatMap_cons, List.length_append, ih]; show 3 + _ = _; simp only [List.length_cons]; omega
theorem flatV_drop : ∀ (l : List Vx) (k : Nat), (l.flatMap vxCells).drop (k * 3) = (l.drop k).flatMap vxCells
  | l, 0 => by simp
  | [], k + 1 => by simp
  | x :: l, k + 1 => by
    rw [List.flatMap_cons, show (k + 1) * 3 = 3 + k * 3 by omega, ← List.drop_drop, List.drop_left' (by rfl), List.drop_succ_cons]
    exact flatV_drop l k
theorem flatV_take : ∀ (l : List Vx) (k : Nat), (l.flatMap vxCells).take (k * 3) = (l.take k).flatMap vxCells
  | l, 0 => by simp
  | [], k + 1 => by simp
  | x :: l, k + 1 => by
    rw [List.flatMap_cons, List.take_succ_cons, List.flatMap_cons, ← flatV_take l k, show (k + 1) * 3 = (vxCells x).length + k * 3 by show _ = 3 + _; omega, List.take_length_add_append]
theorem flatV_one (l : List Vx) : ∀ u ∈ l.flatMap vxCells, u.oneCell' = true := fun u hu => by
  obtain ⟨p, _, hp⟩ := List.mem_flatMap.1 hu
  unfold vxCells at hp
  rcases List.mem_cons.1 hp with rfl | hp
  · rfl
  · rcases List.mem_cons.1 hp with rfl | hp
    · rfl
    · rw [List.mem_singleton.1 hp]; rfl
theorem Rd.cellsV {w : World} {B n j : Nat} {A : Option Addr} {l : List Vx} (h : Rd w B 3 A n (l.flatMap vxCells)) (hl : l.length = n) (hj : j < n) : ∃ g off x, A = some ⟨g, off, none⟩ ∧ g < B ∧ l[j]? = some x ∧
    w.cell? ⟨g, off + j * 3, none⟩ = some (.int .i64 x.t) ∧ w.cell? ⟨g, off + j * 3 + 1, none⟩ = some (.string ⟨x.v.toArray⟩) ∧ w.cell? ⟨g, off + j * 3 + 2, none⟩ = some (.bool x.g) := by
  obtain ⟨g, off, e, hb, hc⟩ := h.2 (by omega)
  have hx : l[j]? = some l[j] := List.getElem?_eq_getElem (by omega)
  have hf := flatV l j _ hx
  exact ⟨g, off, l[j], e, hb, hx, hc (j * 3) _ (hf 0 (by omega)), hc (j * 3 + 1) _ (hf 1 (by omega)), hc (j * 3 + 2) _ (hf 2 (by omega))⟩
/-- A key's versions: a row of one's own; or a piece of a block, as long as its room. -/
def VRow (w : World) (base : Nat) (V : Value) (l : List Vx) : Prop :=
  w.ownsRow base 67 3 V l.length (l.flatMap vxCells) ∨
    ∃ g o cs, V = .slice (some ⟨g, o, none⟩) l.length l.length ∧ 0 < l.length ∧ base ≤ g ∧ l.length ≤ maxLen ∧ Blk w g 67 cs ∧ ∀ j u, (l.flatMap vxCells)[j]? = some u → cs[o + j]? = some u
section
variable {w w' : World} {base : Nat} {V : Value} {l : List Vx}
theorem VRow.form (h : VRow w base V l) : ∃ A c, V = .slice A l.length c ∧ l.length ≤ c := by
  rcases h with h | ⟨g, o, cs, rfl, _⟩
  · obtain ⟨A, c, hV, hc, _⟩ := own_slice h
    exact ⟨A, c, hV, hc⟩
  · exact ⟨_, _, rfl, Nat.le_refl _⟩
theorem VRow.rd {A : Option Addr} {n c : Nat} (h : VRow w base (.slice A n c) l) : Rd w w.heap.size 3 A l.length (l.flatMap vxCells) := by
  rcases h with h | ⟨g, o, cs, hV, h0, hb, _, hk, hc⟩
  · obtain ⟨A', c', hV, _, _⟩ := own_slice h
    injection hV with h1 h2 h3
    subst h1 h2 h3
    exact Rd.of_own h
  · injection hV with h1 h2 h3
    subst h1 h2 h3
    exact ⟨flatV_len l, fun _ => ⟨g, o, rfl, hk.lt, fun j u hu => (hk.cell (o + j)).trans (hc j u hu)⟩⟩
theorem VRow.block (h : VRow w base V l) {b : Nat} (hb : V.ownBlock = some b) : base ≤ b ∧ b < w.heap.size ∧ ∃ cs, Blk w b 67 cs := by
  rcases h with h | ⟨g, o, cs, rfl, h0, hbg, _, hk, hc⟩
  · refine ⟨(h.lt b hb).1, (h.lt b hb).2, ?_⟩
    rcases h.2 with ⟨rfl, _⟩ | ⟨g1, cap, cur, rfl, _, hh, _⟩
    · cases hb
    · have hb' : g1 = b := by injection hb
      subst hb'
      exact ⟨cur, hh⟩
  · have hb' : g = b := by injection hb
    subst hb'
    exact ⟨hbg, hk.lt, cs, hk⟩
theorem VRow.fr {S : Nat → Prop} (h : VRow w base V l) (hf : Fr S w w') (hn : ∀ b, V.ownBlock = some b → ¬ S b) : VRow w' base V l := by
  rcases h with h | ⟨g, o, cs, rfl, h0, hbg, hm, hk, hc⟩
  · exact .inl (hf.own h hn)
  · exact .inr ⟨g, o, cs, rfl, h0, hbg, hm, hf.blk hk (hn g rfl), hc⟩
theorem VRow.tall (h : VRow w base V l) (hb : Below w.heap.size w w') : VRow w' base V l :=
  h.fr (S := fun b => w.heap.size ≤ b) ⟨hb.os, hb.tape, hb.output, hb.size, fun i _ hn => hb.block i (by omega)⟩ (fun b hb2 h2 => by have := (h.block hb2).2.1; omega)
theorem VRow.notBlk (h : VRow w base V l) {g : Nat} {t : TypeId} {cs : Array Value} (hg : Blk w g t cs) (hne : t ≠ 67) : V.ownBlock ≠ some g := fun e => by
  obtain ⟨_, _, cs', hk⟩ := h.block e
  exact hk.ne_ hg (fun e => hne e.symm) rfl
theorem VRow.lower (h : VRow w base V l) {base' : Nat} (hb : base' ≤ base) : VRow w base' V l := by
  rcases h with h | ⟨g, o, cs, rfl, h0, hbg, hm, hk, hc⟩
  · exact .inl ⟨h.1, h.2.imp id fun ⟨g, cap, cur, h1, h2, r⟩ => ⟨g, cap, cur, h1, Nat.le_trans hb h2, r⟩⟩
  · exact .inr ⟨g, o, cs, rfl, h0, Nat.le_trans hb hbg, hm, hk, hc⟩
/-- A piece of it: from the k-th on, as long as its room. -/
theorem VRow.tail {g o n c : Nat} (h : VRow w base (.slice (some ⟨g, o, none⟩) n c) l) {k : Nat} (hk : k < l.length) : VRow w base (.slice (some ⟨g, o + k * 3, none⟩) (l.drop k).length (l.drop k).length) (l.drop k) := by
  have hd : (l.drop k).length = l.length - k := List.length_drop
  rcases h with h | ⟨g1, o1, cs, hV, h0, hbg, hm, hb, hc⟩
  · rcases h.2 with ⟨hV, _⟩ | ⟨g1, cap, cur, hV, hbg, hh, h1, h2, h3, h4⟩
    · injection hV with e; cases e
    · injection hV with e1 e2 e3
      injection e1 with e1
      injection e1 with e1 e4
      subst e1 e4 e2 e3
      refine .inr ⟨g, _, cur, rfl, by omega, hbg, by omega, hh, fun j u hu => ?_⟩
      rw [← flatV_drop, List.getElem?_drop] at hu
      have h5 : (cur.toList.take (l.length * 3))[k * 3 + j]? = some u := by rw [h4]; exact hu
      rw [List.getElem?_take] at h5
      split at h5
      · rw [Nat.zero_add]; simpa using h5
      · cases h5
  · injection hV with e1 e2 e3
    injection e1 with e1
    injection e1 with e1 e4
    subst e1 e4
    refine .inr ⟨g, _, cs, rfl, by omega, hbg, by omega, hb, fun j u hu => ?_⟩
    rw [← flatV_drop, List.getElem?_drop] at hu
    have := hc _ _ hu
    rwa [Nat.add_assoc]
theorem VRow.some (h : VRow w base V l) (h0 : 0 < l.length) : ∃ g o c, V = .slice (some ⟨g, o, none⟩) l.length c ∧ l.length ≤ c := by
  rcases h with h | ⟨g, o, cs, rfl, _⟩
  · obtain ⟨g, c, hV, _, _⟩ := h.form h0
    obtain ⟨A', c', hV', hc, _⟩ := own_slice h
    rw [hV] at hV'
    injection hV' with _ _ e
    subst e
    exact ⟨g, 0, c, hV, hc⟩
  · exact ⟨g, o, _, rfl, Nat.le_refl _⟩
end
/-! slices of it -/
section
variable {P : Program} {e : TypeId} {size : Nat}
theorem slice_fromO (T : TypeId) (hu : P.underlying T = some (.slice e)) (hel : P.elem T = e) (hs : ∀ w, (sizeOf e).run P w = .ok size w) (w : World) (g o n c v : Nat) (h : Int) (hh : h = v) (hv : v ≤ n) :
    (Instr.slice T (.slice (some ⟨g, o, none⟩) n c) (some (.int .i64 h)) none none).run P w = .ok (.slice (some ⟨g, if c = v then o else o + v * size, none⟩) (n - v) (c - v)) w := by
  subst hh
  subst hel
  rw [run_slice_l w T _ n c hu .i64 (v : Int) (by omega) (by omega), hs]
  simp only [Result.andThen, sliced, Int.toNat_natCast]
  congr 2
  split <;> simp [Addr.add_lit]
theorem slice_toO (T : TypeId) (hu : P.underlying T = some (.slice e)) (hel : P.elem T = e) (hs : ∀ w, (sizeOf e).run P w = .ok size w) (w : World) (g o n c v : Nat) (h : Int) (hh : h = v) (hv : v ≤ c) :
    (Instr.slice T (.slice (some ⟨g, o, none⟩) n c) none (some (.int .i64 h)) none).run P w = .ok (.slice (some ⟨g, o, none⟩) v c) w := by
  subst hh
  subst hel
  rw [run_slice_h w T _ n c hu .i64 (v : Int) (by omega) (by omega), hs]
  simp only [Result.andThen, sliced, Int.toNat_natCast, Nat.zero_mul, Nat.sub_zero]
  congr 2
  split <;> simp [Addr.add_lit]
theorem slice_clipO (T : TypeId) (hu : P.underlying T = some (.slice e)) (hel : P.elem T = e) (hs : ∀ w, (sizeOf e).run P w = .ok size w) (w : World) (g o n c : Nat) (h : Int) (hh : h = n) (hv : n ≤ c) :
    (Instr.slice T (.slice (some ⟨g, o, none⟩) n c) none (some (.int .i64 h)) (some (.int .i64 h))).run P w = .ok (.slice (some ⟨g, o, none⟩) n n) w := by
  subst hh
  subst hel
  rw [run_slice_hm w T _ n c hu .i64 .i64 (n : Int) (n : Int) (by omega) (by omega) (by omega), hs]
  simp only [Result.andThen, sliced, Int.toNat_natCast, Nat.zero_mul, Nat.sub_zero]
  congr 2
  split <;> simp [Addr.add_lit]
end
end Go.Proofs.YtmgpdkecpobcaaaDoor
