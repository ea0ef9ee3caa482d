/- Reading a command: its bounds, its loop's state, one step. -/
import Derived.Test.YtnahkpfamocnfaaDoorText
import Derived.Laws.Rows
namespace Go.Proofs.YtnahkpfamocnfaaDoor
open Go.RowKit
theorem scan_len {k : Bool} : ∀ (l : List Nat) (i acc v : Nat) (r : List Nat), scan k i acc l = some (v, r) → r.length < l.length
  | [], i, acc, v, r, h => by simp [scan] at h
  | c :: l, i, acc, v, r, h => by
    simp only [scan] at h
    split at h
    · cases h
    · split at h
      · injection h with h; injection h with _ h; subst h; simp
      · have := scan_len l _ _ _ _ h; simp only [List.length_cons]; omega
theorem numR_len (k : Bool) (s : RS) : (numR k s).2.1.length ≤ s.1.length ∧ ((numR k s).2.2 = false → (numR k s).2.1.length < s.1.length) := by
  unfold numR
  split
  · rename_i n r h; have := scan_len _ _ _ _ _ h; exact ⟨by dsimp only; omega, fun _ => this⟩
  · exact ⟨Nat.le_refl _, fun h => by cases h⟩
theorem textR_len (k : Bool) (s : RS) (m : Nat) : (textR k s m).2.1.length ≤ s.1.length ∧ ((textR k s m).2.2 = false → (textR k s m).2.1.length < s.1.length) ∧ (textR k s m).1.size ≤ s.1.length := by
  obtain ⟨h1, h2⟩ := numR_len k s
  unfold textR
  split
  · exact ⟨h1, (fun h => by cases h), Nat.zero_le _⟩
  · dsimp only
    rw [List.length_drop, strOf_size, List.length_take]
    exact ⟨by omega, fun h => by have := h2 h; omega, by omega⟩
theorem goneR_len (k : Bool) (s : RS) : (goneR k s).2.1.length ≤ s.1.length := (numR_len k s).1
theorem goneR_bad {k : Bool} {s : RS} (h : (goneR k s).2.2 = false) : s.2 = false := by
  unfold goneR at h
  simp only [Bool.or_eq_false_iff] at h
  exact numR_bad h.1
theorem pairR_len (k : Bool) (s : RS) : (pairR k s).2.1.length ≤ s.1.length ∧ ((pairR k s).2.2 = false → (pairR k s).2.1.length < s.1.length) ∧ (pairR k s).1.key.size ≤ s.1.length ∧ (pairR k s).1.val.size ≤ s.1.length := by
  obtain ⟨h1, h2, h3⟩ := textR_len k s 20
  have h4 := goneR_len k (textR k s 20).2
  obtain ⟨h5, h6, h7⟩ := textR_len k (goneR k (textR k s 20).2).2 40
  unfold pairR
  split
  · exact ⟨by dsimp only; omega, fun h => by have := h2 (goneR_bad h); dsimp only at h ⊢; omega, h3, Nat.zero_le _⟩
  · exact ⟨by dsimp only; omega, fun h => by have := h6 h; dsimp only at h ⊢; omega, h3, by dsimp only; omega⟩
theorem pairsR_len (k : Bool) (M : Nat) : ∀ (n : Nat) (s : RS) (acc : List Pr), s.1.length ≤ M → (s.2 = false → acc.length + s.1.length ≤ M) → acc.length ≤ M + 1 → (∀ p ∈ acc, p.key.size ≤ M ∧ p.val.size ≤ M) →
    (pairsR k n s acc).1.length ≤ M + 1 ∧ (∀ p ∈ (pairsR k n s acc).1, p.key.size ≤ M ∧ p.val.size ≤ M) ∧ (pairsR k n s acc).2.1.length ≤ s.1.length ∧ ((pairsR k n s acc).2.2 = false → s.2 = false)
  | 0, s, acc, hm, hs, hl, ha => ⟨hl, ha, Nat.le_refl _, fun h => h⟩
  | n + 1, s, acc, hm, hs, hl, ha => by
    unfold pairsR
    split
    · exact ⟨hl, ha, Nat.le_refl _, fun h => h⟩
    · rename_i hb
      have hb : s.2 = false := by simpa using hb
      obtain ⟨h1, h2, h3, h4⟩ := pairR_len k s
      have h0 := hs hb
      obtain ⟨g1, g2, g3, g4⟩ := pairsR_len k M n (pairR k s).2 (acc ++ [(pairR k s).1]) (by omega) (fun h => by have := h2 h; simp; omega) (by simp; omega) (fun p hp => by
        rcases List.mem_append.1 hp with hp | hp
        · exact ha p hp
        · rw [List.mem_singleton.1 hp]; omega)
      exact ⟨g1, g2, by omega, fun _ => hb⟩
theorem fourR_len (k : Bool) (s : RS) : (fourR k s).2.2.2.2.1.length ≤ s.1.length ∧ ((fourR k s).2.2.2.2.2 = false → (fourR k s).2.2.2.2.1.length < s.1.length) := by
  have h1 := numR_len k s
  have h2 := numR_len k (numR k s).2
  have h3 := numR_len k (numR k (numR k s).2).2
  have h4 := numR_len k (numR k (numR k (numR k s).2).2).2
  unfold fourR
  dsimp only
  exact ⟨by omega, fun h => by have := h4.2 h; omega⟩
theorem cmdR_len (k : Bool) (s : RS) : (cmdR k s).2.1.length ≤ s.1.length ∧ ((cmdR k s).2.2 = false → (cmdR k s).2.1.length < s.1.length) ∧ (cmdR k s).1.writes.length ≤ s.1.length + 1 ∧ ∀ p ∈ (cmdR k s).1.writes, p.key.size ≤ s.1.length ∧ p.val.size ≤ s.1.length := by
  obtain ⟨h1, h2⟩ := fourR_len k s
  unfold cmdR
  dsimp only
  obtain ⟨g1, g2, g3, g4⟩ := pairsR_len k s.1.length (fourR k s).2.2.2.1 ((fourR k s).2.2.2.2.1, (fourR k s).2.2.2.2.2 || cmdBad k (fourR k s).1 (fourR k s).2.2.2.1) [] h1 (fun _ => by simp; exact h1) (by simp) (fun p hp => by cases hp)
  refine ⟨Nat.le_trans g3 h1, fun h => ?_, g1, g2⟩
  have := g4 h
  simp only [Bool.or_eq_false_iff] at this
  exact Nat.lt_of_le_of_lt g3 (h2 this.1)
theorem cmdR_small {k : Bool} {s : RS} (h : s.1.length ≤ 3000) : smallC (cmdR k s).1 := by
  obtain ⟨_, _, h3, h4⟩ := cmdR_len k s
  exact smallC.short (by omega) (fun p hp => by have := h4 p hp; omega)
theorem textR_most {s : RS} {m : Nat} : (textR true s m).1.size ≤ m := by
  unfold textR
  split
  · exact Nat.zero_le _
  · rename_i h
    dsimp only
    rw [strOf_size, List.length_take]
    simp only [true_and, not_or] at h
    omega
theorem pairsR_most : ∀ (n : Nat) (s : RS) (acc : List Pr), (pairsR true n s acc).1.length ≤ acc.length + n ∧ ((∀ p ∈ acc, p.key.size ≤ 20 ∧ p.val.size ≤ 40) → ∀ p ∈ (pairsR true n s acc).1, p.key.size ≤ 20 ∧ p.val.size ≤ 40)
  | 0, s, acc => ⟨Nat.le_refl _, fun h => h⟩
  | n + 1, s, acc => by
    unfold pairsR
    split
    · exact ⟨by dsimp only; omega, fun h => h⟩
    · obtain ⟨h1, h2⟩ := pairsR_most n (pairR true s).2 (acc ++ [(pairR true s).1])
      rw [List.length_append] at h1
      refine ⟨by simp at h1; omega, fun h => h2 (fun p hp => ?_)⟩
      rcases List.mem_append.1 hp with hp | hp
      · exact h p hp
      · rw [List.mem_singleton.1 hp]
        unfold pairR
        split
        · exact ⟨textR_most, Nat.zero_le _⟩
        · exact ⟨textR_most, textR_most⟩
/-- What the program reads is few and short at any length. -/
theorem cmdR_true_small (s : RS) : smallC (cmdR true s).1 := by
  unfold cmdR
  dsimp only
  by_cases h : (fourR true s).2.2.2.1 ≤ 20
  · obtain ⟨h1, h2⟩ := pairsR_most (fourR true s).2.2.2.1 ((fourR true s).2.2.2.2.1, (fourR true s).2.2.2.2.2 || cmdBad true (fourR true s).1 (fourR true s).2.2.2.1) []
    have h3 := h2 (fun p hp => by cases hp)
    simp only [List.length_nil, Nat.zero_add] at h1
    exact smallC.short (by dsimp only; omega) (fun p hp => by have := h3 p hp; omega)
  · have hb : cmdBad true (fourR true s).1 (fourR true s).2.2.2.1 = true := by unfold cmdBad; simp; omega
    rw [hb, Bool.or_true]
    have : pairsR true (fourR true s).2.2.2.1 ((fourR true s).2.2.2.2.1, true) [] = ([], ((fourR true s).2.2.2.2.1, true)) := by
      cases (fourR true s).2.2.2.1 with
      | zero => rfl
      | succ n => unfold pairsR; rfl
    rw [this]
    exact smallC.of (Nat.zero_le _) (fun p hp => by cases hp)
/- The loop's state. -/
theorem pair_info : (Tryd.prog.info? 123).map (fun i => (i.zero, i.size, i.bytes)) = some (some (.agg #[.string ⟨#[]⟩, .string ⟨#[]⟩, .bool false]), 3, 40) := by kernel_rfl
theorem Rdr.below {T : TypeId} {w w' : World} {B p D : Nat} {A : Option Addr} {n c : Nat} {s : RS} (h : Rdr T w B p A n c s) (hb : Below D w w') (hD : p < D) : Rdr T w' B p A n c s :=
  ⟨(hb.block p hD).trans h.1, h.2.1.below (hb.mono (by have := h.2.2.2.1; omega)), h.2.2.1, h.2.2.2.1, h.2.2.2.2⟩
structure CmI (T : TypeId) (w : World) (B p g2 g3 : Nat) (x y z : Int) (n0 : Nat) (s : RS) (acc : List Pr) (V : Value) (wr : World) : Prop where
  rdr : ∃ A n c, Rdr T wr B p A n c s
  row : wr.ownsRow w.heap.size 123 3 V acc.length (acc.flatMap prCells)
  b3 : Blk wr g3 24 #[.int .i64 x, .int .i64 y, .int .i64 z, V]
  b2 : Blk wr g2 24 #[.int .i64 0, .int .i64 0, .int .i64 0, .slice none 0 0]
  lt23 : g2 < g3
  base : w.heap.size ≤ g2
  pw : p < w.heap.size
  fr : Fr (fun k => k = p) w wr
  len : s.1.length ≤ n0
  few : acc.length ≤ n0 + 1
  few2 : s.2 = false → acc.length + s.1.length ≤ n0
theorem CmI.pne {T : TypeId} {w wr : World} {B p g2 g3 n0 : Nat} {x y z : Int} {s : RS} {acc : List Pr} {V : Value} (h : CmI T w B p g2 g3 x y z n0 s acc V wr) : ∀ g, V.ownBlock = some g → ¬ g = p := fun g hg e => by
  have := (h.row.lt g hg).1; have := h.pw; omega
/-- One pair laid behind. -/
theorem CmI.step {T : TypeId} {w wr w5 w6 : World} {B p g2 g3 n0 : Nat} {x y z : Int} {k : Bool} {s : RS} {acc : List Pr} {V V' : Value} (h : CmI T w B p g2 g3 x y z n0 s acc V wr) (hs : s.2 = false) (hf : Fr (fun k => k = p) wr w5)
    (hr : ∃ A n c, Rdr T w5 B p A n c (pairR k s).2) (hm : Moved w5 w6 V.ownBlock V'.ownBlock) (hrow : w6.ownsRow w.heap.size 123 3 V' (acc.length + 1) (acc.flatMap prCells ++ prCells (pairR k s).1)) :
    CmI T w B p g2 g3 x y z n0 (pairR k s).2 (acc ++ [(pairR k s).1]) V' (w6.setCell ⟨g3, 3, none⟩ V') := by
  obtain ⟨h1, h2, _, _⟩ := pairR_len k s
  have hlen := h.len
  have h0 := h.few2 hs
  have hrow5 := hf.own h.row (fun g hg e => h.pne g hg e)
  have hb3 := hf.blk h.b3 (by have := h.base; have := h.lt23; have := h.pw; omega)
  have hb2 := hf.blk h.b2 (by have := h.base; have := h.pw; omega)
  have hbm : Below w.heap.size w5 w6 := hm.below (fun g hg => (hrow5.lt g hg).1) (Nat.le_trans h.fr.size hf.size)
  have hb3' : Blk w6 g3 24 #[.int .i64 x, .int .i64 y, .int .i64 z, V] := hm.1.blk hb3 (fun e => own_blk_ne hrow5 hb3 (by decide) e.symm)
  have hb2' : Blk w6 g2 24 #[.int .i64 0, .int .i64 0, .int .i64 0, .slice none 0 0] := hm.1.blk hb2 (fun e => own_blk_ne hrow5 hb2 (by decide) e.symm)
  have hg3 : w.heap.size ≤ g3 := by have := h.base; have := h.lt23; omega
  have hset := Fr.set1 g3 w6 3 V'
  refine ⟨?_, ?_, ?_, ?_, h.lt23, h.base, h.pw, ?_, by omega, by simp; omega, fun hq => by have := h2 hq; simp; omega⟩
  · obtain ⟨A, n, c, hr⟩ := hr
    exact ⟨A, n, c, hr.below (hbm.trans (hset.below (fun i e => by omega) (Nat.le_trans h.fr.size (Nat.le_trans hf.size hm.size)))) h.pw⟩
  · rw [List.length_append, List.flatMap_append, List.flatMap_singleton]
    exact hset.own hrow (fun g hg e => by subst e; exact own_blk_ne hrow hb3' (by decide) hg)
  · have := hb3'.set_ 3 V'
    simpa using this
  · exact hset.blk hb2' (by have := h.lt23; omega)
  · exact ((h.fr.trans hf).trans' hm.1 (fun i hi e => by have := (hrow5.lt i e.symm).1; omega)).trans' hset (fun i hi e => by omega)
def CPost (T : TypeId) (k : Bool) (B p : Nat) (s : RS) (w : World) (e : Ending) (w' : World) : Prop :=
  ∃ V, e = .returned (.agg #[.int .i64 (cmdR k s).1.kind, .int .i64 (cmdR k s).1.tx, .int .i64 (cmdR k s).1.time, V]) ∧ w'.ownsRow w.heap.size 123 3 V (cmdR k s).1.writes.length ((cmdR k s).1.writes.flatMap prCells) ∧
    (∃ A n c, Rdr T w' B p A n c (cmdR k s).2) ∧ Fr (fun k => k = p) w w'
theorem wpList_append1K {P : Program} (w : World) (H : Nat) (hH : w.heap.size = H) (o1 : Obj) {ops : Array Oper} {rest : List Oper} {o : Oper} {a : Act} {Q : Exit → Act → World → Prop} (hgd : o.guard = none) (s x : Operand) (t : TypeId)
    (ho : o.op = .call { callee := .builtin .append, args := #[s, x], argTypes := #[t, t] })
    (base : Nat) (e : TypeId) (z : Value) (size bytes : Nat) (ht : P.underlying t = some (.slice e)) (hi : (P.info? e).map (fun i => (i.zero, i.size, i.bytes)) = some (some z, size, bytes)) (hzs : z.cells.size = size) (hs0 : 0 < size)
    (v : Value) (n : Nat) (xs : List Value) (ys : Array Value) (hs : a.eval s = v) (hown : w.ownsRow base e size v n xs)
    (c : Nat) (hx : a.eval x = .slice (some ⟨H, 0, none⟩) 1 c) (e1 : TypeId) (hon : o1 = .cells ys e1) (hys : ys.size = size) (h1 : ∀ u ∈ ys.toList, u.oneCell' = true)
    (h63 : n + 1 ≤ maxLen) (hbytes : (n + 1) * bytes ≤ 140737488355328) (hbase : base ≤ w.heap.size)
    (h : ∀ v' w', w'.ownsRow base e size v' (n + 1) (xs ++ ys.toList) → Moved w w' v.ownBlock v'.ownBlock → wpList P ops Q rest (a.put o.dst v') w') :
    wpList P ops Q (o :: rest) a (w.alloc o1) := by
  subst hH
  exact wpList_append1 w o1 hgd s x t ho base e z size bytes ht hi hzs hs0 v n xs ys hs hown c hx e1 hon hys h1 h63 hbytes hbase h
theorem cmd_size : (Tryd.prog.info? 24).map (·.size) = some 4 := by kernel_rfl
/-- What a command's reading ends with: the result's block, filled. -/
theorem CmI.done {T : TypeId} {w wr : World} {B p g3 n0 : Nat} {x y z : Int} {k : Bool} {s s' : RS} {acc : List Pr} {V : Value} (h : CmI T w B p w.heap.size g3 x y z n0 s' acc V wr) (hc : cmdR k s = (⟨x, y, z, acc⟩, s')) :
    CPost T k B p s w (.returned (.agg #[.int .i64 x, .int .i64 y, .int .i64 z, V])) ((((wr.setCell ⟨w.heap.size, 0, none⟩ (.int .i64 x)).setCell ⟨w.heap.size, 1, none⟩ (.int .i64 y)).setCell ⟨w.heap.size, 2, none⟩ (.int .i64 z)).setCell ⟨w.heap.size, 3, none⟩ V) ∧
    Blk ((((wr.setCell ⟨w.heap.size, 0, none⟩ (.int .i64 x)).setCell ⟨w.heap.size, 1, none⟩ (.int .i64 y)).setCell ⟨w.heap.size, 2, none⟩ (.int .i64 z)).setCell ⟨w.heap.size, 3, none⟩ V) w.heap.size 24 #[.int .i64 x, .int .i64 y, .int .i64 z, V] := by
  have hf : Fr (fun k => k = w.heap.size) wr ((((wr.setCell ⟨w.heap.size, 0, none⟩ (.int .i64 x)).setCell ⟨w.heap.size, 1, none⟩ (.int .i64 y)).setCell ⟨w.heap.size, 2, none⟩ (.int .i64 z)).setCell ⟨w.heap.size, 3, none⟩ V) :=
    ((((Fr.refl (fun k => k = w.heap.size) wr).setCell (p := ⟨w.heap.size, 0, none⟩) (.inl rfl) _).setCell (p := ⟨w.heap.size, 1, none⟩) (.inl rfl) _).setCell (p := ⟨w.heap.size, 2, none⟩) (.inl rfl) _).setCell (p := ⟨w.heap.size, 3, none⟩) (.inl rfl) _
  refine ⟨?_, ?_⟩
  · unfold CPost
    rw [hc]
    refine ⟨V, rfl, hf.own h.row (fun g hg e => by subst e; exact own_blk_ne h.row h.b2 (by decide) hg), ?_, h.fr.trans' hf (fun i hi e => by omega)⟩
    obtain ⟨A, n, c, hr⟩ := h.rdr
    exact ⟨A, n, c, hr.below (hf.below (B := w.heap.size) (fun i e => by omega) h.fr.size) h.pw⟩
  · have := (((h.b2.set_ 0 (.int .i64 x)).set_ 1 (.int .i64 y)).set_ 2 (.int .i64 z)).set_ 3 V
    simpa using this
end Go.Proofs.YtnahkpfamocnfaaDoor
