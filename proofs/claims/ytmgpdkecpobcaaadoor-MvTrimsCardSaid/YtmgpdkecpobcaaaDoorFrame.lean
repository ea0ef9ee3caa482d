/- Frames: which blocks a step may have written; where an appended slice lies; the walk is stopped at an operation. -/
import Derived.Test.YtmgpdkecpobcaaaDoorWords
import Derived.Laws.Append
namespace Go.Proofs.YtmgpdkecpobcaaaDoor
open Go.RowKit
def Stop (p : Prop) : Prop := p
theorem stop {p : Prop} (h : Stop p) : p := h
theorem back {p : Prop} (h : p) : Stop p := h

/-- Of the blocks that were there those alone that S names may have turned. -/
structure Fr (S : Nat → Prop) (w w' : World) : Prop where
  os : w'.os = w.os
  tape : w'.tape = w.tape
  output : w'.output = w.output
  size : w.heap.size ≤ w'.heap.size
  block : ∀ k, k < w.heap.size → ¬ S k → w'.heap[k]? = w.heap[k]?
section
variable {S T : Nat → Prop} {a b c w w' : World}
theorem Fr.refl (S : Nat → Prop) (w : World) : Fr S w w := ⟨rfl, rfl, rfl, Nat.le_refl _, fun _ _ _ => rfl⟩
/-- Two steps: what the second one may write is of the first one's, or new. -/
theorem Fr.trans' (h : Fr S a b) (k : Fr T b c) (hT : ∀ i, i < a.heap.size → T i → S i) : Fr S a c :=
  ⟨k.os.trans h.os, k.tape.trans h.tape, k.output.trans h.output, Nat.le_trans h.size k.size, fun i hi hn => (k.block i (Nat.lt_of_lt_of_le hi h.size) (fun ht => hn (hT i hi ht))).trans (h.block i hi hn)⟩
theorem Fr.trans (h : Fr S a b) (k : Fr S b c) : Fr S a c := h.trans' k fun _ _ x => x
theorem Fr.mono (h : Fr S a b) (hS : ∀ i, i < a.heap.size → S i → T i) : Fr T a b := ⟨h.os, h.tape, h.output, h.size, fun i hi hn => h.block i hi (fun hs => hn (hS i hi hs))⟩
theorem Fr.drew (h : Fr S a w) : Fr S a w.drew := ⟨h.os, h.tape, h.output, h.size, h.block⟩
theorem Fr.drewN (h : Fr S a w) (n : Nat) : Fr S a (w.drewN n) := ⟨h.os, h.tape, h.output, h.size, h.block⟩
theorem Fr.alloc (h : Fr S a w) (o : Obj) : Fr S a (w.alloc o) := h.trans ⟨rfl, rfl, rfl, by simp, fun k hk _ => Below.heap_alloc _ _ _ hk⟩
theorem Fr.setCell (h : Fr S a w) {p : Addr} (hp : S p.block ∨ a.heap.size ≤ p.block) (u : Value) : Fr S a (w.setCell p u) :=
  ⟨h.os, h.tape, h.output, by simpa [World.setCell] using h.size, fun k hk hn => (Below.heap_setCell w p u k (by
    rintro rfl
    rcases hp with hp | hp
    · exact hn hp
    · omega)).trans (h.block k hk hn)⟩
theorem Fr.below {B : Nat} (h : Fr S a b) (hS : ∀ i, S i → B ≤ i) (hB : B ≤ a.heap.size) : Below B a b := ⟨h.os, h.tape, h.output, h.size, fun k hk => h.block k (by omega) (fun hs => by have := hS k hs; omega)⟩
theorem Below.fr (h : Below w.heap.size w w') (S : Nat → Prop) : Fr S w w' := ⟨h.os, h.tape, h.output, h.size, fun k hk _ => h.block k hk⟩
theorem Fr.of_below {B : Nat} (h : Below B w w') (hS : ∀ k, k < w.heap.size → ¬ S k → k < B) : Fr S w w' := ⟨h.os, h.tape, h.output, h.size, fun k hk hn => h.block k (hS k hk hn)⟩
theorem Fr.of_grown {row : Option Nat} (h : w.grownBy w' row) (hr : ∀ k, row = some k → S k) : Fr S w w' := ⟨h.os, h.tape, h.output, h.size, fun k hk hn => h.block k hk (fun e => hn (hr k e.symm))⟩
theorem Fr.none_below (h : Fr (fun _ => False) w w') : Below w.heap.size w w' := ⟨h.os, h.tape, h.output, h.size, fun k hk => h.block k hk (fun x => x)⟩
theorem Fr.cell (h : Fr S w w') {p : Addr} (hp : p.block < w.heap.size) (hn : ¬ S p.block) : w'.cell? p = w.cell? p := World.cell?_of_block (h.block p.block hp hn)
theorem Fr.blk {g : Nat} {t : TypeId} {cs : Array Value} (h : Fr S w w') (hb : Blk w g t cs) (hn : ¬ S g) : Blk w' g t cs := (h.block g hb.lt hn).trans hb
theorem Fr.own {base : Nat} {e : TypeId} {size n : Nat} {v : Value} {xs : List Value} (h : Fr S w w') (ho : w.ownsRow base e size v n xs) (hn : ∀ g, v.ownBlock = some g → ¬ S g) : w'.ownsRow base e size v n xs := by
  refine ⟨ho.1, ?_⟩
  rcases ho.2 with hh | ⟨g, cap, cur, rfl, hb, hgg, rest⟩
  · exact .inl hh
  · exact .inr ⟨g, cap, cur, rfl, hb, (h.block g (Array.getElem?_eq_some_iff.1 hgg).1 (hn g rfl)).trans hgg, rest⟩
theorem Fr.reads {B size n : Nat} {A : Option Addr} {xs : List Value} (h : Fr S w w') (hr : Reads w B size A n xs) (hB : B ≤ w.heap.size) (hn : ∀ ad, A = some ad → 0 < n → ¬ S ad.block) : Reads w' B size A n xs :=
  ⟨hr.1, fun h0 => by
    obtain ⟨ad, e, hb, hc⟩ := hr.2 h0
    exact ⟨ad, e, hb, fun j u hu => (h.cell (p := ad.add j) (by rw [block_of_add]; omega) (by rw [block_of_add]; exact hn ad e h0)).trans (hc j u hu)⟩⟩
end

theorem Fr.set1 (p : Nat) (w : World) (i : Nat) (u : Value) : Fr (fun k => k = p) w (w.setCell ⟨p, i, none⟩ u) := (Fr.refl (fun k => k = p) w).setCell (p := ⟨p, i, none⟩) (.inl rfl) u
/-- A slice (address A, length n, elements of 'size' cells) reads as the cells xs, below block B: its address written out. -/
def Rd (w : World) (B size : Nat) (A : Option Addr) (n : Nat) (xs : List Value) : Prop :=
  xs.length = n * size ∧ (0 < n → ∃ g off, A = some ⟨g, off, none⟩ ∧ g < B ∧ ∀ j u, xs[j]? = some u → w.cell? ⟨g, off + j, none⟩ = some u)
section
variable {w w' : World} {B size n : Nat} {A : Option Addr} {xs : List Value}
theorem Rd.reads (h : Rd w B size A n xs) : Reads w B size A n xs := ⟨h.1, fun h0 => by
  obtain ⟨g, off, rfl, hb, hc⟩ := h.2 h0
  exact ⟨_, rfl, hb, fun j u hu => by rw [Addr.add_lit]; exact hc j u hu⟩⟩
theorem Rd.none_ (w : World) (B size : Nat) (A : Option Addr) : Rd w B size A 0 [] := ⟨by simp, fun h => absurd h (by omega)⟩
theorem Rd.keep (h : Rd w B size A n xs) (hk : ∀ g off, A = some ⟨g, off, none⟩ → 0 < n → w'.heap[g]? = w.heap[g]?) : Rd w' B size A n xs :=
  ⟨h.1, fun h0 => by
    obtain ⟨g, off, e, hb, hc⟩ := h.2 h0
    exact ⟨g, off, e, hb, fun j u hu => (World.cell?_of_block (w := w) (a := ⟨g, off + j, none⟩) (hk g off e h0)).trans (hc j u hu)⟩⟩
theorem Rd.fr {S : Nat → Prop} (h : Rd w B size A n xs) (hf : Fr S w w') (hB : B ≤ w.heap.size) (hn : ∀ g off, A = some ⟨g, off, none⟩ → 0 < n → ¬ S g) : Rd w' B size A n xs :=
  ⟨h.1, fun h0 => by
    obtain ⟨g, off, e, hb, hc⟩ := h.2 h0
    exact ⟨g, off, e, hb, fun j u hu => (hf.cell (p := ⟨g, off + j, none⟩) (by show g < _; omega) (hn g off e h0)).trans (hc j u hu)⟩⟩
theorem Rd.more {B' : Nat} (h : Rd w B size A n xs) (hB : B ≤ B') : Rd w B' size A n xs :=
  ⟨h.1, fun h0 => by
    obtain ⟨g, off, e, hb, hc⟩ := h.2 h0
    exact ⟨g, off, e, by omega, hc⟩⟩
theorem Rd.below (h : Rd w B size A n xs) (hb : Below B w w') : Rd w' B size A n xs :=
  ⟨h.1, fun h0 => by
    obtain ⟨g, off, e, hg, hc⟩ := h.2 h0
    exact ⟨g, off, e, hg, fun j u hu => (hb.cell (p := ⟨g, off + j, none⟩) hg).trans (hc j u hu)⟩⟩
theorem Rd.of_own {base : Nat} {e : TypeId} {c : Nat} (h : w.ownsRow base e size (.slice A n c) n xs) : Rd w w.heap.size size A n xs := by
  refine ⟨h.1, fun hn => ?_⟩
  obtain ⟨g, cap, hv, _, hlt⟩ := h.form hn
  have hA : A = some ⟨g, 0, none⟩ := by injection hv
  subst hA
  exact ⟨g, 0, rfl, hlt, fun j u hu => by have := h.cells (g := g) rfl j u hu; rwa [Addr.add_lit] at this⟩
/-- A list laid into a new block: reads there. -/
theorem Rd.lit (w : World) (cs : Array Value) (e : TypeId) (n size : Nat) (hs : cs.size = n * size) : Rd (w.alloc (.cells cs e)) (w.heap.size + 1) size (some ⟨w.heap.size, 0, none⟩) n cs.toList :=
  ⟨by simpa using hs, fun _ => ⟨w.heap.size, 0, rfl, by omega, fun j u hu => by
    have := (Blk.new w e cs).cell j
    rw [Nat.zero_add, this]
    simpa using hu⟩⟩
theorem Rd.at1 {k : Nat} (h : Rd w B 1 A n xs) (hk : k < n) : ∃ g off u, A = some ⟨g, off, none⟩ ∧ g < B ∧ xs[k]? = some u ∧ w.cell? ⟨g, off + k, none⟩ = some u := by
  obtain ⟨g, off, e, hb, hc⟩ := h.2 (by omega)
  have hl : k < xs.length := by have := h.1; omega
  exact ⟨g, off, xs[k], e, hb, List.getElem?_eq_getElem hl, hc k _ (List.getElem?_eq_getElem hl)⟩
end

/-- An appended slice: the frame, and where it lies now. -/
def Moved (w w' : World) (b b' : Option Nat) : Prop := Fr (fun k => some k = b) w w' ∧ (b' = b ∨ ∃ g, b' = some g ∧ w.heap.size ≤ g)
theorem Moved.refl (w : World) (b : Option Nat) : Moved w w b b := ⟨Fr.refl _ _, .inl rfl⟩
theorem Moved.trans {a b c : World} {x y z : Option Nat} (h : Moved a b x y) (k : Moved b c y z) : Moved a c x z := by
  obtain ⟨h1, h2⟩ := h
  obtain ⟨k1, k2⟩ := k
  refine ⟨h1.trans' k1 (fun i hi hy => ?_), ?_⟩
  · rcases h2 with h2 | ⟨g, h2, hg⟩
    · rw [h2] at hy; exact hy
    · rw [h2] at hy; injection hy; omega
  · rcases k2 with k2 | ⟨g, k2, hg⟩
    · rw [k2]; exact h2
    · exact .inr ⟨g, k2, Nat.le_trans h1.size hg⟩
theorem Moved.alloc (w : World) (o : Obj) (b : Option Nat) : Moved w (w.alloc o) b b := ⟨(Fr.refl _ _).alloc o, .inl rfl⟩
theorem Moved.drewN (w : World) (n : Nat) (b : Option Nat) : Moved w (w.drewN n) b b := ⟨(Fr.refl _ _).drewN n, .inl rfl⟩
theorem Moved.size {w w' : World} {b b' : Option Nat} (h : Moved w w' b b') : w.heap.size ≤ w'.heap.size := h.1.size
theorem Moved.below {w w' : World} {b b' : Option Nat} {B : Nat} (h : Moved w w' b b') (hb : ∀ g, b = some g → B ≤ g) (hB : B ≤ w.heap.size) : Below B w w' := h.1.below (fun i hi => hb i hi.symm) hB
theorem Moved.of_append {w w' : World} {v v' : Value} (hg : w.grownBy w' v.ownBlock) (hat : v'.ownBlock = v.ownBlock ∨ v'.ownBlock = some w.heap.size) : Moved w w' v.ownBlock v'.ownBlock := by
  refine ⟨Fr.of_grown hg (fun k hk => hk.symm), ?_⟩
  rcases hat with h | h
  · exact .inl h
  · exact .inr ⟨_, h, Nat.le_refl _⟩

/-- append(v, x) of one element of whatever size, laid into a block of its own just ahead. -/
theorem wpList_append1 {P : Program} (w : World) (o1 : Obj) {ops : Array Oper} {rest : List Oper} {o : Oper} {a : Act} {Q : Exit → Act → World → Prop} (hgd : o.guard = none) (s x : Operand) (t : TypeId)
    (ho : o.op = .call { callee := .builtin .append, args := #[s, x], argTypes := #[t, t] })
    (base : Nat) (e : TypeId) (z : Value) (size bytes : Nat) (ht : P.underlying t = some (.slice e)) (hi : (P.info? e).map (fun i => (i.zero, i.size, i.bytes)) = some (some z, size, bytes)) (hzs : z.cells.size = size) (hs0 : 0 < size)
    (v : Value) (n : Nat) (xs : List Value) (ys : Array Value) (hs : a.eval s = v) (hown : w.ownsRow base e size v n xs)
    (c : Nat) (hx : a.eval x = .slice (some ⟨w.heap.size, 0, none⟩) 1 c) (e1 : TypeId) (hon : o1 = .cells ys e1) (hys : ys.size = size) (h1 : ∀ u ∈ ys.toList, u.oneCell' = true)
    (h63 : n + 1 ≤ maxLen) (hbytes : (n + 1) * bytes ≤ 140737488355328) (hbase : base ≤ w.heap.size)
    (h : ∀ v' w', w'.ownsRow base e size v' (n + 1) (xs ++ ys.toList) → Moved w w' v.ownBlock v'.ownBlock → wpList P ops Q rest (a.put o.dst v') w') :
    wpList P ops Q (o :: rest) a (w.alloc o1) := by
  obtain ⟨i, hi, hz, hsize, hby⟩ := info_parts hi
  subst hon
  refine wpList_append_own_at _ hgd s x t ho base e i z size bytes ht hi hz hsize hby hzs hs0 v n xs hs (hown.alloc _) ⟨w.heap.size, 0, none⟩ 1 c ys.toList hx (by simp [hys]) (fun j u hu => ?_) h1 h63 hbytes (by simp; omega)
    fun v' w' hown' hg _ hat => h v' w' hown' ((Moved.alloc w _ _).trans (Moved.of_append hg hat))
  have hadd : (⟨w.heap.size, 0, none⟩ : Addr).add j = ⟨w.heap.size, j, none⟩ := by unfold Addr.add; split <;> simp_all
  rw [hadd, (Blk.new w e1 ys).cell j]
  simpa using hu
/-- append(v, xs...) of a slice that reads as a list. -/
theorem wpList_appendR {P : Program} (w : World) {ops : Array Oper} {rest : List Oper} {o : Oper} {a : Act} {Q : Exit → Act → World → Prop} (hgd : o.guard = none) (s x : Operand) (t : TypeId)
    (ho : o.op = .call { callee := .builtin .append, args := #[s, x], argTypes := #[t, t] })
    (base : Nat) (e : TypeId) (z : Value) (size bytes : Nat) (ht : P.underlying t = some (.slice e)) (hi : (P.info? e).map (fun i => (i.zero, i.size, i.bytes)) = some (some z, size, bytes)) (hzs : z.cells.size = size) (hs0 : 0 < size)
    (v : Value) (n : Nat) (xs : List Value) (hs : a.eval s = v) (hown : w.ownsRow base e size v n xs)
    (B : Nat) (A : Option Addr) (m c : Nat) (news : List Value) (hx : a.eval x = .slice A m c) (hr : Reads w B size A m news) (h1 : ∀ u ∈ news, u.oneCell' = true)
    (h63 : n + m ≤ maxLen) (hbytes : (n + m) * bytes ≤ 140737488355328) (hbase : base ≤ w.heap.size)
    (h : ∀ v' w', w'.ownsRow base e size v' (n + m) (xs ++ news) → Moved w w' v.ownBlock v'.ownBlock → wpList P ops Q rest (a.put o.dst v') w') :
    wpList P ops Q (o :: rest) a w := by
  obtain ⟨i, hi, hz, hsize, hby⟩ := info_parts hi
  exact wpList_append_any w hgd s x t ho base e i z size bytes ht hi hz hsize hby hzs hs0 v n xs hs hown B A m c news hx hr h1 h63 hbytes hbase
    fun v' w' hown' hg hat => h v' w' hown' (Moved.of_append hg hat)
/-- The same at one operation (inside a region that draws). -/
theorem wp_appendR {P : Program} (w : World) {o : Oper} {a : Act} {K : Act → World → Prop} {Q : Exit → Act → World → Prop} (s x : Operand) (t : TypeId)
    (ho : o.op = .call { callee := .builtin .append, args := #[s, x], argTypes := #[t, t] })
    (base : Nat) (e : TypeId) (z : Value) (size bytes : Nat) (ht : P.underlying t = some (.slice e)) (hi : (P.info? e).map (fun i => (i.zero, i.size, i.bytes)) = some (some z, size, bytes)) (hzs : z.cells.size = size) (hs0 : 0 < size)
    (v : Value) (n : Nat) (xs : List Value) (hs : a.eval s = v) (hown : w.ownsRow base e size v n xs)
    (B : Nat) (A : Option Addr) (m c : Nat) (news : List Value) (hx : a.eval x = .slice A m c) (hr : Reads w B size A m news) (h1 : ∀ u ∈ news, u.oneCell' = true)
    (h63 : n + m ≤ maxLen) (hbytes : (n + m) * bytes ≤ 140737488355328) (hbase : base ≤ w.heap.size)
    (h : ∀ v' w', w'.ownsRow base e size v' (n + m) (xs ++ news) → Moved w w' v.ownBlock v'.ownBlock → K (a.put o.dst v') w') : o.wp P a w K Q := by
  obtain ⟨i, hi, hz, hsize, hby⟩ := info_parts hi
  exact wp_append_any w s x t ho base e i z size bytes ht hi hz hsize hby hzs hs0 v n xs hs hown B A m c news hx hr h1 h63 hbytes hbase
    fun v' w' hown' hg hat => h v' w' hown' (Moved.of_append hg hat)
/-- The value of an owned row is a slice. -/
theorem own_slice {w : World} {base e size n : Nat} {v : Value} {xs : List Value} (h : w.ownsRow base e size v n xs) : ∃ A c, v = .slice A n c ∧ n ≤ c ∧ (∀ ad, A = some ad → v.ownBlock = some ad.block) := by
  rcases h.2 with ⟨rfl, rfl⟩ | ⟨g, cap, cur, rfl, _, _, hn, _⟩
  · exact ⟨none, 0, rfl, Nat.le_refl _, fun ad h => by cases h⟩
  · exact ⟨_, _, rfl, hn, fun ad h => by injection h with h; subst h; rfl⟩
end Go.Proofs.YtmgpdkecpobcaaaDoor
