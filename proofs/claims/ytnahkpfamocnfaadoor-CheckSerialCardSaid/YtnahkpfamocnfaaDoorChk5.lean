/- check's walker: what its steps do to its state; walk, by induction. -/
import Derived.Test.YtnahkpfamocnfaaDoorChk4
import Derived.Deep.DeepCutAuto
namespace Go.Proofs.YtnahkpfamocnfaaDoor
open Go.RowKit
/- Plain: walkP, one step at a time. -/
theorem nodup_le : ∀ (n : Nat) (l : List Nat), l.Nodup → (∀ x ∈ l, x < n) → l.length ≤ n
  | 0, [], _, _ => Nat.le_refl _
  | 0, x :: l, _, h => absurd (h x (List.mem_cons_self ..)) (by omega)
  | n + 1, l, hd, h => by
    have h1 : (l.erase n).length ≤ n := nodup_le n (l.erase n) (hd.erase n) (fun x hx => by
      have := (hd.mem_erase_iff).1 hx
      have := h x this.2
      have := ((hd.mem_erase_iff).1 hx).1
      omega)
    have h2 : l.length ≤ (l.erase n).length + 1 := by
      rw [List.length_erase]; split <;> omega
    omega
def nextP (l : List TxP) (order : List Nat) (i : Nat) (m' : Mp) : Nat → Option (List Nat)
  | 0 => none
  | f' + 1 => walkP l f' (order ++ [i]) m'
def tailF (l : List TxP) (f : Nat) (order : List Nat) (m : Mp) (i : Nat) : Option (List Nat) :=
  if i ∈ order ∨ ¬ mayP l order i then none else (playsP m (opsA l i)).bind fun m' => nextP l order i m' f
theorem order_free {n : Nat} {order : List Nat} (hd : order.Nodup) (hl : ∀ x ∈ order, x < n) {i : Nat} (hi : i < n) (hn : i ∉ order) : order.length + 1 ≤ n :=
  nodup_le n (i :: order) (List.nodup_cons.2 ⟨hn, hd⟩) (fun x hx => by
    rcases List.mem_cons.1 hx with e | e
    · omega
    · exact hl x e)
theorem walkP_eq {l : List TxP} {f : Nat} {order : List Nat} {m : Mp} (hd : order.Nodup) (hl : ∀ x ∈ order, x < l.length) (hf : order.length + f = l.length) :
    walkP l f order m = if doneP l order then some order else (List.range l.length).findSome? (tailF l f order m) := by
  cases f with
  | zero =>
    unfold walkP
    have : (List.range l.length).findSome? (tailF l 0 order m) = none := by
      rw [List.findSome?_eq_none_iff]
      intro i hi
      have hi := List.mem_range.1 hi
      unfold tailF
      by_cases hin : i ∈ order
      · rw [if_pos (.inl hin)]
      · have := order_free hd hl hi hin; omega
    rw [this]
  | succ f =>
    unfold walkP
    rfl
theorem find_step {α : Type} (F : Nat → Option α) (j : Nat) (h : (List.range j).findSome? F = none) : (List.range (j + 1)).findSome? F = F j := by
  rw [List.range_succ, List.findSome?_append, h]
  simp
theorem find_more {α : Type} {F : Nat → Option α} {j n : Nat} {x : α} (hj : j < n) (h : (List.range j).findSome? F = none) (hx : F j = some x) : (List.range n).findSome? F = some x := by
  have h1 := find_step F j h
  rw [hx] at h1
  obtain ⟨k, rfl⟩ : ∃ k, n = (j + 1) + k := ⟨n - (j + 1), by omega⟩
  rw [List.range_add, List.findSome?_append, h1]
  rfl
/- The state's steps. -/
structure Nx (w : World) (r r' : WkR) : Prop where
  A : r'.A = r.A
  n : r'.n = r.n
  c : r'.c = r.c
  gu : r'.gu = r.gu
  vo : r'.vo.ownBlock = r.vo.ownBlock ∨ ∃ g, r'.vo.ownBlock = some g ∧ w.heap.size ≤ g
  b : r'.b = r.b ∨ w.heap.size ≤ r'.b
theorem Nx.refl (w : World) (r : WkR) : Nx w r r := ⟨rfl, rfl, rfl, rfl, .inl rfl, .inl rfl⟩
theorem Nx.trans {w w1 : World} {r r1 r2 : WkR} (h : Nx w r r1) (k : Nx w1 r1 r2) (hs : w.heap.size ≤ w1.heap.size) : Nx w r r2 where
  A := k.A.trans h.A
  n := k.n.trans h.n
  c := k.c.trans h.c
  gu := k.gu.trans h.gu
  vo := by
    rcases k.vo with e | ⟨g, e, hg⟩
    · rw [e]; exact h.vo
    · exact .inr ⟨g, e, by omega⟩
  b := by
    rcases k.b with e | e
    · rw [e]; exact h.b
    · exact .inr (by omega)
def SW (p : Nat) (r : WkR) (k : Nat) : Prop := k = p ∨ k = r.gu ∨ r.vo.ownBlock = some k ∨ k = r.b
theorem SW.trans {p : Nat} {w w1 w2 : World} {r r1 : WkR} (h : Fr (SW p r) w w1) (hn : Nx w r r1) (k : Fr (SW p r1) w1 w2) : Fr (SW p r) w w2 :=
  h.trans' k fun i hi hT => by
    rcases hT with e | e | e | e
    · exact .inl e
    · exact .inr (.inl (e.trans hn.gu))
    · rcases hn.vo with e2 | ⟨g, e2, hg⟩
      · exact .inr (.inr (.inl (e2 ▸ e)))
      · rw [e2] at e; injection e with e; omega
    · rcases hn.b with e2 | e2
      · exact .inr (.inr (.inr (e.trans e2)))
      · omega
theorem usedA_at (n i : Nat) (o : List Nat) : (usedA n o)[i]? = if i < n then some (.bool (decide (i ∈ o))) else none := by
  split
  · exact usedA_get o (by assumption)
  · unfold usedA; simp; omega
theorem usedA_size (n : Nat) (o : List Nat) : (usedA n o).size = n := by unfold usedA; simp
theorem usedA_push {n j : Nat} {order : List Nat} : (usedA n order).setIfInBounds j (.bool true) = usedA n (order ++ [j]) := by
  apply Array.ext_getElem?
  intro i
  rw [Array.getElem?_setIfInBounds, usedA_at, usedA_at, usedA_size]
  by_cases e : j = i
  · subst e
    rw [if_pos rfl]
    simp
  · have h2 : (i ∈ order ++ [j]) ↔ i ∈ order := by simp; omega
    rw [if_neg e, decide_eq_decide.2 h2]
theorem usedA_pop {n j : Nat} {order : List Nat} (hj : j ∉ order) : (usedA n (order ++ [j])).setIfInBounds j (.bool false) = usedA n order := by
  apply Array.ext_getElem?
  intro i
  rw [Array.getElem?_setIfInBounds, usedA_at, usedA_at, usedA_size]
  by_cases e : j = i
  · subst e
    rw [if_pos rfl, decide_eq_false hj]
  · have h2 : (i ∈ order ++ [j]) ↔ i ∈ order := by simp; omega
    rw [if_neg e, decide_eq_decide.2 h2]
theorem intsV_push (l : List Nat) (j : Nat) : intsV (l ++ [j]) = intsV l ++ [.int .i64 (j : Int)] := by unfold intsV; simp
theorem intsV_len (l : List Nat) : (intsV l).length = l.length := by unfold intsV; simp
/-- A beginning of an owned row. -/
theorem own_take {w : World} {base e size n c k : Nat} {A : Option Addr} {xs : List Value} (h : w.ownsRow base e size (.slice A n c) n xs) (hk : k ≤ n) (h0 : 0 < n) : w.ownsRow base e size (.slice A k c) k (xs.take (k * size)) := by
  have hle : k * size ≤ n * size := Nat.mul_le_mul_right _ hk
  refine ⟨by rw [List.length_take, h.1]; omega, ?_⟩
  rcases h.2 with ⟨_, h2⟩ | ⟨g, cap, cur, hv, hb, hh, hn, hm, hs, hx⟩
  · omega
  · injection hv with h1 _ h3
    subst h1 h3
    refine .inr ⟨g, c, cur, rfl, hb, hh, by omega, hm, hs, ?_⟩
    rw [← hx, List.take_take]
    congr 1
    omega
/-- .. but for the map. -/
def S3 (p : Nat) (r : WkR) (k : Nat) : Prop := k = p ∨ k = r.gu ∨ r.vo.ownBlock = some k
theorem S3.sw {p k : Nat} {r : WkR} (h : S3 p r k) : SW p r k := by
  rcases h with e | e | e
  · exact .inl e
  · exact .inr (.inl e)
  · exact .inr (.inr (.inl e))
section
variable {w w' : World} {B p nm : Nat} {L : List TxR} {r : WkR} {order : List Nat} {m : Mp}
theorem WkS.ne_p_gu (h : WkS w B p L r order nm m) : r.gu ≠ p := h.used.ne_ h.blk (by decide)
theorem WkS.ne_vo_p (h : WkS w B p L r order nm m) : r.vo.ownBlock ≠ some p := own_blk_ne h.row h.blk (by decide)
theorem WkS.ne_vo_gu (h : WkS w B p L r order nm m) : r.vo.ownBlock ≠ some r.gu := own_blk_ne h.row h.used (by decide)
theorem WkS.ne_vo_b (h : WkS w B p L r order nm m) : r.vo.ownBlock ≠ some r.b := h.map.notOwn h.row
theorem WkS.lt (h : WkS w B p L r order nm m) : ∀ k, SW p r k → B ≤ k ∧ k < w.heap.size := by
  rintro k (e | e | e | e)
  · rw [e]; exact ⟨h.hp, h.blk.lt⟩
  · rw [e]; exact ⟨h.hgu, h.used.lt⟩
  · exact h.row.lt k e
  · rw [e]; exact ⟨h.hb, h.map.lt⟩
theorem WkS.s3 (h : WkS w B p L r order nm m) : ¬ S3 p r r.b := by
  rintro (e | e | e)
  · exact h.map.notBlk h.blk e
  · exact h.map.notBlk h.used e
  · exact h.ne_vo_b e
/-- Put behind: the flag set, the number appended, the field stored. -/
theorem WkS.push (h : WkS w B p L r order nm m) {j : Nat} {w2 : World} {v' : Value} (hm : Moved (w.setCell ⟨r.gu, j, none⟩ (.bool true)) w2 r.vo.ownBlock v'.ownBlock) (ho : w2.ownsRow B 3 1 v' (order.length + 1) (intsV order ++ [.int .i64 (j : Int)])) :
    WkS (w2.setCell ⟨p, 2, none⟩ v') B p L { r with vo := v' } (order ++ [j]) nm m ∧ Fr (SW p r) w (w2.setCell ⟨p, 2, none⟩ v') ∧ Nx w r { r with vo := v' } := by
  have f1 : Fr (fun k => k = r.gu) w (w.setCell ⟨r.gu, j, none⟩ (.bool true)) := Fr.set1 r.gu w j _
  have f2 : Fr (fun k => r.vo.ownBlock = some k) (w.setCell ⟨r.gu, j, none⟩ (.bool true)) w2 := hm.1.mono (fun i _ e => e.symm)
  have fs : Fr (S3 p r) w w2 := (f1.mono (T := S3 p r) (fun i _ e => .inr (.inl e))).trans (f2.mono (fun i _ e => .inr (.inr e)))
  have f3 : Fr (fun k => k = p) w2 (w2.setCell ⟨p, 2, none⟩ v') := Fr.set1 p w2 2 _
  have hb2 : Blk w2 p 102 #[.slice r.A r.n r.c, .slice (some ⟨r.gu, 0, none⟩) r.n r.n, r.vo, .map (some r.b)] :=
    f2.blk (f1.blk h.blk (fun e => h.ne_p_gu e.symm)) (fun e => h.ne_vo_p e)
  have hu2 : Blk w2 r.gu 4 (usedA r.n (order ++ [j])) := f2.blk (by rw [← usedA_push]; exact h.used.set_ j _) (fun e => h.ne_vo_gu e)
  have hne : v'.ownBlock ≠ some p := own_blk_ne ho hb2 (by decide)
  have hf3 : Fr (S3 p r) w (w2.setCell ⟨p, 2, none⟩ v') := fs.trans (f3.mono (fun i _ e => .inl e))
  have hfall : Fr (SW p r) w (w2.setCell ⟨p, 2, none⟩ v') := hf3.mono fun i _ e => S3.sw e
  refine ⟨⟨?_, ?_, ?_, ?_, ?_, h.hp, h.hgu, h.hb, Nat.le_trans h.size hfall.size⟩, hfall, ⟨rfl, rfl, rfl, rfl, ?_, .inl rfl⟩⟩
  · have := hb2.set_ 2 v'
    simpa using this
  · exact h.reads.below (hfall.below (fun i hi => (h.lt i hi).1) h.size)
  · exact f3.blk hu2 (fun e => h.ne_p_gu e)
  · have h3 := f3.own ho (fun g hg e => hne (by rw [hg, e]))
    show World.ownsRow _ B _ 1 v' (order ++ [j]).length (intsV (order ++ [j]))
    rw [List.length_append, intsV_push]
    exact h3
  · exact h.map.fr hf3 h.s3
  · exact hm.2.imp (fun e => e) (fun ⟨g, e, hg⟩ => ⟨g, e, by simpa [World.setCell] using hg⟩)
/-- The map as it was. -/
theorem WkS.back {b' nm' : Nat} {m' : Mp} (h : WkS w B p L r order nm m) (hm : MapV w b' nm' m') (hb' : B ≤ b') : WkS (w.setCell ⟨p, 3, none⟩ (.map (some b'))) B p L { r with b := b' } order nm' m' := by
  have f3 : Fr (fun k => k = p) w (w.setCell ⟨p, 3, none⟩ (.map (some b'))) := Fr.set1 p w 3 _
  refine ⟨?_, ?_, ?_, ?_, ?_, h.hp, h.hgu, hb', Nat.le_trans h.size f3.size⟩
  · have := h.blk.set_ 3 (.map (some b'))
    simpa using this
  · exact h.reads.below (f3.below (fun i hi => hi ▸ h.hp) h.size)
  · exact f3.blk h.used (fun e => h.ne_p_gu e)
  · exact f3.own h.row (fun g hg e => h.ne_vo_p (by rw [hg, e]))
  · exact hm.fr f3 (fun e => hm.notBlk h.blk e)
/-- Taken back: the flag unset, the row shortened, the map as it was. -/
theorem WkS.pop {j n c b' nm' : Nat} {A : Option Addr} {m' : Mp} (h : WkS w B p L r (order ++ [j]) nm m) (hj : j ∉ order) (hv : r.vo = .slice A n c) (hm : MapV w b' nm' m') (hb' : B ≤ b') (w1 : World) (hw1 : w1 = ((w.setCell ⟨r.gu, j, none⟩ (.bool false)).drew).setCell ⟨p, 2, none⟩ (.slice A order.length c)) :
    WkS (w1.setCell ⟨p, 3, none⟩ (.map (some b'))) B p L { r with vo := .slice A order.length c, b := b' } order nm' m' ∧ Fr (SW p r) w (w1.setCell ⟨p, 3, none⟩ (.map (some b'))) := by
  have f1 : Fr (fun k => k = r.gu) w (w.setCell ⟨r.gu, j, none⟩ (.bool false)) := Fr.set1 r.gu w j _
  have f2 : Fr (fun k => k = p) (w.setCell ⟨r.gu, j, none⟩ (.bool false)) w1 := by rw [hw1]; exact ((Fr.refl _ _).drew).trans (Fr.set1 p _ 2 _)
  have f3 : Fr (fun k => k = p) w1 (w1.setCell ⟨p, 3, none⟩ (.map (some b'))) := Fr.set1 p _ 3 _
  have hf : Fr (fun k => k = p ∨ k = r.gu) w (w1.setCell ⟨p, 3, none⟩ (.map (some b'))) := ((f1.mono (T := fun k => k = p ∨ k = r.gu) (fun i _ e => .inr e)).trans (f2.mono (fun i _ e => .inl e))).trans (f3.mono (fun i _ e => .inl e))
  have hfall : Fr (SW p r) w (w1.setCell ⟨p, 3, none⟩ (.map (some b'))) := hf.mono fun i _ e => e.elim (fun e => .inl e) (fun e => .inr (.inl e))
  have hb1 : Blk w1 p 102 #[.slice r.A r.n r.c, .slice (some ⟨r.gu, 0, none⟩) r.n r.n, .slice A order.length c, .map (some r.b)] := by
    have := ((f1.blk h.blk (fun e => h.ne_p_gu e.symm)).drew).set_ 2 (.slice A order.length c)
    rw [← hw1] at this
    simpa using this
  refine ⟨⟨?_, ?_, ?_, ?_, ?_, h.hp, h.hgu, hb', Nat.le_trans h.size hfall.size⟩, hfall⟩
  · have := hb1.set_ 3 (.map (some b'))
    simpa using this
  · exact h.reads.below (hfall.below (fun i hi => (h.lt i hi).1) h.size)
  · exact f3.blk (f2.blk (by rw [← usedA_pop hj]; exact h.used.set_ j _) (fun e => h.ne_p_gu e)) (fun e => h.ne_p_gu e)
  · have hr := hf.own h.row (fun g hg e => e.elim (fun e => h.ne_vo_p (by rw [hg, e])) (fun e => h.ne_vo_gu (by rw [hg, e])))
    rw [hv] at hr
    have hn : n = (order ++ [j]).length := by
      rcases hr.2 with ⟨e, e2⟩ | ⟨g, cap, cur, e, _⟩
      · simp at e2
      · injection e
    subst hn
    have h3 := own_take hr (k := order.length) (by simp) (by simp)
    rw [intsV_push, List.take_append_of_le_length (by rw [intsV_len]; omega), List.take_of_length_le (by rw [intsV_len]; omega)] at h3
    exact h3
  · exact hm.fr hf (fun e => e.elim (fun e => hm.notBlk h.blk e) (fun e => hm.notBlk h.used e))
end
end Go.Proofs.YtnahkpfamocnfaaDoor
