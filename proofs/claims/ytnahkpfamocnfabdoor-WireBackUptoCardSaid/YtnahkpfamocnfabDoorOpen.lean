/- How arguments read: a slice of pairs, a command, a message. -/
import Derived.Test.YtnahkpfamocnfabDoorLaw
import Derived.Test.YtnahkpfamocnfabDoorMsgW2
namespace Go.Proofs.YtnahkpfamocnfabDoor
open Go.ChangeShapes Go.WideShapes Go.ChangeAt Go.RowKit Go.Deep
theorem up_part {H : Type} {d : DataW H} {l : List (DataW H)} (h : d ∈ l) : Rows.uptoBulk d ≤ Rows.uptoBulkAll l := by
  induction l with
  | nil => cases h
  | cons x r ih =>
    simp only [Rows.uptoBulkAll]
    rcases List.mem_cons.1 h with e | e
    · subst e; omega
    · have := ih e; omega
theorem up_str {H : Type} (s : ByteArray) : s.size ≤ Rows.uptoBulk (DataW.lit (H := H) (.string s.data.toList)) := by
  have : s.data.toList.length = s.size := by rw [Array.length_toList]; rfl
  simp only [Rows.uptoBulk]
  omega
theorem up_agg {H : Type} (l : List (DataW H)) : Rows.uptoBulkAll l ≤ Rows.uptoBulk (DataW.agg l) := by simp only [Rows.uptoBulk]; omega
theorem up_slice {H : Type} (l r : List (DataW H)) : Rows.uptoBulkAll l ≤ Rows.uptoBulk (DataW.slice l r) := by simp only [Rows.uptoBulk]; omega
theorem spot_none {w : World} {g o : Nat} {sp : Option Nat} {v : Value} (h : w.cell? ⟨g, o, sp⟩ = some v) : sp = none := by
  rcases sp with _ | sp
  · rfl
  · unfold World.cell? at h
    split at h
    · simp at h
    · cases h
def below (M : Nat) (p : Pr) : Prop := p.key.size ≤ M ∧ p.val.size ≤ M
theorem add_of_some {w : World} {a : Addr} {k : Nat} {v : Value} (h : w.cell? (a.add k) = some v) (g o : Nat) (sp : Option Nat) (ha : a = ⟨g, o, sp⟩) : w.cell? ⟨g, o + k, none⟩ = some v ∧ g < w.heap.size := by
  subst ha
  have hb := World.block_lt_of_cell? w _ h
  rw [block_of_add] at hb
  refine ⟨?_, hb⟩
  unfold Addr.add at h
  split at h
  · rename_i hk
    subst hk
    have := spot_none h
    subst this
    exact h
  · exact h
section
variable {H : Type} {enc : TypeId × Value → H} {W : World}
set_option maxRecDepth 100000 in
theorem open_pair {n base : Nat} {sp : Nat → Bool} {hd : Bool} {cs : List Value} {y : DataW H × List MemPlace} (h : DataW.trod enc Tryd.prog W base sp hd n 82 cs = some y) : ∃ p : Pr, cs = prCells p ∧ below (Rows.uptoBulk y.1) p := by
  obtain ⟨xs, m, _, rfl, hlen, hxl, hf⟩ := DataW.trod_struct Tryd.underlying82 h
  have hc : Tryd.prog.cellsOf 82 = 3 := by kernel_rfl
  have hs : Tryd.prog.cellsOf 9 = 1 := by kernel_rfl
  have hb : Tryd.prog.cellsOf 4 = 1 := by kernel_rfl
  rw [hc] at hlen
  match cs, hlen, xs, hxl with
  | [c0, c1, c2], _, [y0, y1, y2], _ =>
    have f0 := hf 0 _ rfl
    have f1 := hf 1 _ rfl
    have f2 := hf 2 _ rfl
    simp [hs, hb] at f0 f1 f2
    obtain ⟨s0, e0, rfl, _⟩ := DataW.trod_string Tryd.underlying9 f0
    obtain ⟨s1, e1, rfl, _⟩ := DataW.trod_string Tryd.underlying9 f1
    obtain ⟨b, e2, rfl⟩ := DataW.trod_bool Tryd.underlying4 f2
    simp at e0 e1 e2
    subst e0 e1 e2
    refine ⟨⟨s0, s1, b⟩, rfl, ?_, ?_⟩
    · have h1 := up_str (H := H) s0
      have h2 : Rows.uptoBulk (DataW.lit (H := H) (.string s0.data.toList)) ≤ _ := up_part (l := [.lit (.string s0.data.toList), .lit (.string s1.data.toList), .lit (.bool b)]) (by simp)
      have h3 := up_agg (H := H) [.lit (.string s0.data.toList), .lit (.string s1.data.toList), .lit (.bool b)]
      simp only [List.map]
      omega
    · have h1 := up_str (H := H) s1
      have h2 : Rows.uptoBulk (DataW.lit (H := H) (.string s1.data.toList)) ≤ _ := up_part (l := [.lit (.string s0.data.toList), .lit (.string s1.data.toList), .lit (.bool b)]) (by simp)
      have h3 := up_agg (H := H) [.lit (.string s0.data.toList), .lit (.string s1.data.toList), .lit (.bool b)]
      simp only [List.map]
      omega
/-- So many cells in a row, taken apart element by element. -/
theorem gather {α : Type} (size : Nat) (enc1 : α → List Value) (hsz : ∀ x, (enc1 x).length = size) (Q : α → Prop) (g o : Nat) : ∀ m : Nat, (∀ i, i < m → ∃ x, Q x ∧ ∀ j u, (enc1 x)[j]? = some u → W.cell? ⟨g, o + (i * size + j), none⟩ = some u) →
    ∃ l : List α, l.length = m ∧ (∀ x ∈ l, Q x) ∧ ∀ j u, (l.flatMap enc1)[j]? = some u → W.cell? ⟨g, o + j, none⟩ = some u
  | 0, _ => ⟨[], rfl, (fun x hx => by cases hx), (fun j u hu => by simp at hu)⟩
  | m + 1, h => by
    obtain ⟨l, hl, hq, hc⟩ := gather size enc1 hsz Q g o m (fun i hi => h i (by omega))
    obtain ⟨x, hx, hcx⟩ := h m (by omega)
    have hfl : (l.flatMap enc1).length = m * size := by
      rw [← hl]
      clear hl hq hc
      induction l with
      | nil => simp
      | cons y r ih => simp only [List.flatMap_cons, List.length_append, hsz, ih, List.length_cons, Nat.succ_mul]; omega
    refine ⟨l ++ [x], by simp [hl], fun y hy => ?_, fun j u hu => ?_⟩
    · rcases List.mem_append.1 hy with hy | hy
      · exact hq y hy
      · rw [List.mem_singleton.1 hy]; exact hx
    · rw [List.flatMap_append] at hu
      rcases Nat.lt_or_ge j (l.flatMap enc1).length with hj | hj
      · rw [List.getElem?_append_left hj] at hu
        exact hc j u hu
      · rw [List.getElem?_append_right hj] at hu
        have := hcx (j - m * size) u (by rw [← hfl]; simpa using hu)
        rw [hfl] at hj
        have e : m * size + (j - m * size) = j := by omega
        rwa [e] at this
set_option maxRecDepth 100000 in
/-- A slice argument, opened by an opener of its elements. -/
theorem open_gen {α : Type} {P : Program} {T e : TypeId} (hT : P.underlying T = some (.slice e)) (size : Nat) (hC : P.cellsOf e = size) (hs0 : 0 < size) (enc1 : α → List Value) (hsz : ∀ x, (enc1 x).length = size) (Q : Nat → α → Prop) {sp : Nat → Bool}
    (hel : ∀ (n : Nat) (cs : List Value) (y : DataW H × List MemPlace), DataW.trod enc P W 0 sp true n e cs = some y → ∃ x, cs = enc1 x ∧ Q (Rows.uptoBulk y.1) x)
    {n : Nat} {v : Value} {y : DataW H × List MemPlace} (h : DataW.trod enc P W 0 sp true n T [v] = some y) :
    ∃ (A : Option Addr) (k c : Nat) (l : List α), v = .slice A k c ∧ k ≤ c ∧ l.length = k ∧ Rd W W.heap.size size A k (l.flatMap enc1) ∧ ∀ x ∈ l, ∃ m, m ≤ Rows.uptoBulk y.1 ∧ Q m x := by
  rcases open_slice hT h with ⟨hc, _⟩ | ⟨a, len, cap, m, n', D, Pl, hc, _, hlc, _, hm, rfl, hi⟩
  · obtain rfl : v = .slice none 0 0 := by simpa using hc
    exact ⟨none, 0, 0, [], rfl, Nat.le_refl _, rfl, Rd.none_ _ _ _ _, (fun p hp => by cases hp)⟩
  · obtain rfl : v = .slice (some a) len cap := by simpa using hc
    have hlm : len ≤ m := by rw [hm]; split <;> omega
    obtain ⟨g, o, spt⟩ := a
    have hb2 := up_slice ((List.range len).map D) ((List.range (m - len)).map fun j => D (len + j))
    have hel2 : ∀ i, i < len → ∃ x : α, ((∃ b, b ≤ Rows.uptoBulk (DataW.slice ((List.range len).map D) ((List.range (m - len)).map fun j => D (len + j))) ∧ Q b x) ∧ g < W.heap.size ∧ spt = none) ∧ ∀ j u, (enc1 x)[j]? = some u → W.cell? ⟨g, o + (i * size + j), none⟩ = some u := fun i hil => by
      obtain ⟨cs', hcs, ht⟩ := hi i (by omega)
      rw [hC] at hcs
      obtain ⟨p, rfl, hp⟩ := hel _ _ _ ht
      obtain ⟨_, _, hat⟩ := World.cells?_some hcs
      have hcell : ∀ j u, (enc1 p)[j]? = some u → W.cell? ⟨g, o + (i * size + j), none⟩ = some u ∧ g < W.heap.size := fun j u hu => by
        have hj : j < size := by rw [← hsz p]; exact (List.getElem?_eq_some_iff.1 hu).1
        have h1 := hat j hj
        rw [hu, add_of_add] at h1
        exact add_of_some h1 g o spt rfl
      have hb1 : Rows.uptoBulk (D i) ≤ Rows.uptoBulkAll ((List.range len).map D) := up_part (List.mem_map.2 ⟨i, List.mem_range.2 hil, rfl⟩)
      obtain ⟨u0, hu0⟩ : ∃ u0, (enc1 p)[0]? = some u0 := ⟨_, List.getElem?_eq_getElem (by rw [hsz]; exact hs0)⟩
      have hspt : spt = none := by
        obtain ⟨cs0, hcs0, ht0⟩ := hi 0 (by omega)
        rw [hC] at hcs0
        obtain ⟨p0, rfl, _⟩ := hel _ _ _ ht0
        obtain ⟨_, _, hat0⟩ := World.cells?_some hcs0
        have h1 := hat0 0 hs0
        obtain ⟨u1, hu1⟩ : ∃ u1, (enc1 p0)[0]? = some u1 := ⟨_, List.getElem?_eq_getElem (by rw [hsz]; exact hs0)⟩
        rw [hu1] at h1
        exact spot_none (w := W) (g := g) (o := o) (v := u1) (by simpa [Addr.add] using h1)
      exact ⟨p, ⟨⟨Rows.uptoBulk (D i), Nat.le_trans hb1 hb2, hp⟩, (hcell 0 _ hu0).2, hspt⟩, fun j u hu => (hcell j u hu).1⟩
    obtain ⟨l, hll, hq, hcl⟩ := gather size enc1 hsz _ g o len hel2
    have hfl : (l.flatMap enc1).length = len * size := by
      rw [← hll]
      clear hll hq hcl
      induction l with
      | nil => simp
      | cons y r ih => simp only [List.flatMap_cons, List.length_append, ih, List.length_cons, hsz, Nat.succ_mul]; omega
    refine ⟨some ⟨g, o, spt⟩, len, cap, l, rfl, hlc, hll, ⟨hfl, fun h0 => ?_⟩, fun p hp => (hq p hp).1⟩
    obtain ⟨x, hx⟩ : ∃ x, x ∈ l := by
      cases l with
      | nil => simp at hll; omega
      | cons x r => exact ⟨x, List.mem_cons_self ..⟩
    obtain ⟨_, hg, hspt⟩ := hq x hx
    subst hspt
    exact ⟨g, o, rfl, hg, hcl⟩
theorem open_pairs {n : Nat} {sp : Nat → Bool} {v : Value} {y : DataW H × List MemPlace} (h : DataW.trod enc Tryd.prog W 0 sp true n 22 [v] = some y) :
    ∃ A k c l, v = .slice A k c ∧ ReadsP W W.heap.size A k l ∧ ∀ p ∈ l, below (Rows.uptoBulk y.1) p := by
  obtain ⟨A, k, c, l, rfl, _, hl, hr, hq⟩ := open_gen Tryd.underlying22 3 (by kernel_rfl) (by omega) prCells (fun x => rfl) below (fun n cs y h => open_pair h) h
  exact ⟨A, k, c, l, rfl, ⟨hl, hr⟩, fun p hp => by
    obtain ⟨m, hm, hb⟩ := hq p hp
    exact ⟨Nat.le_trans hb.1 hm, Nat.le_trans hb.2 hm⟩⟩
set_option maxRecDepth 100000 in
theorem open_cmd {n : Nat} {sp : Nat → Bool} {cs : List Value} {y : DataW H × List MemPlace} (h : DataW.trod enc Tryd.prog W 0 sp true n 24 cs = some y) :
    ∃ (c : Cm) (A : Option Addr) (k cp : Nat), cs = [.int .i64 c.kind, .int .i64 c.tx, .int .i64 c.time, .slice A k cp] ∧ ReadsP W W.heap.size A k c.writes ∧ ∀ p ∈ c.writes, below (Rows.uptoBulk y.1) p := by
  obtain ⟨xs, m, _, rfl, hlen, hxl, hf⟩ := DataW.trod_struct Tryd.underlying24 h
  have hc : Tryd.prog.cellsOf 24 = 4 := by kernel_rfl
  have hi : Tryd.prog.cellsOf 3 = 1 := by kernel_rfl
  have hs : Tryd.prog.cellsOf 22 = 1 := by kernel_rfl
  rw [hc] at hlen
  match cs, hlen, xs, hxl with
  | [c0, c1, c2, c3], _, [y0, y1, y2, y3], _ =>
    have f0 := hf 0 _ rfl
    have f1 := hf 1 _ rfl
    have f2 := hf 2 _ rfl
    have f3 := hf 3 _ rfl
    simp [hi, hs] at f0 f1 f2 f3
    obtain ⟨k0, e0, rfl, _⟩ := DataW.trod_int Tryd.underlying3 f0
    obtain ⟨k1, e1, rfl, _⟩ := DataW.trod_int Tryd.underlying3 f1
    obtain ⟨k2, e2, rfl, _⟩ := DataW.trod_int Tryd.underlying3 f2
    obtain ⟨A, k, cp, l, e3, hr, hb⟩ := open_pairs f3
    simp at e0 e1 e2
    subst e0 e1 e2 e3
    refine ⟨⟨k0, k1, k2, l⟩, A, k, cp, rfl, hr, fun p hp => ?_⟩
    have h1 := hb p hp
    have h2 : Rows.uptoBulk y3.1 ≤ _ := up_part (l := [.lit (.int .i64 k0), .lit (.int .i64 k1), .lit (.int .i64 k2), y3.1]) (by simp)
    have h3 := up_agg (H := H) [.lit (.int .i64 k0), .lit (.int .i64 k1), .lit (.int .i64 k2), y3.1]
    simp only [List.map]
    exact ⟨by have := h1.1; omega, by have := h1.2; omega⟩
set_option maxRecDepth 100000 in
theorem open_msg {n : Nat} {sp : Nat → Bool} {cs : List Value} {y : DataW H × List MemPlace} (h : DataW.trod enc Tryd.prog W 0 sp true n 26 cs = some y) :
    ∃ (m : Ms) (A : Option Addr) (k cp : Nat), cs = (msgCells m A k cp).toList ∧ ReadsP W W.heap.size A k m.cmd.writes ∧ ∀ p ∈ m.cmd.writes, below (Rows.uptoBulk y.1) p := by
  obtain ⟨xs, m, _, rfl, hlen, hxl, hf⟩ := DataW.trod_struct Tryd.underlying26 h
  have hc : Tryd.prog.cellsOf 26 = 9 := by kernel_rfl
  have hi : Tryd.prog.cellsOf 3 = 1 := by kernel_rfl
  have hs : Tryd.prog.cellsOf 24 = 4 := by kernel_rfl
  rw [hc] at hlen
  match cs, hlen, xs, hxl with
  | [c0, c1, c2, c3, c4, c5, c6, c7, c8], _, [y0, y1, y2, y3, y4, y5], _ =>
    have f0 := hf 0 _ rfl
    have f1 := hf 1 _ rfl
    have f2 := hf 2 _ rfl
    have f3 := hf 3 _ rfl
    have f4 := hf 4 _ rfl
    have f5 := hf 5 _ rfl
    simp [hi, hs] at f0 f1 f2 f3 f4 f5
    obtain ⟨k0, e0, rfl, _⟩ := DataW.trod_int Tryd.underlying3 f0
    obtain ⟨k1, e1, rfl, _⟩ := DataW.trod_int Tryd.underlying3 f1
    obtain ⟨k2, e2, rfl, _⟩ := DataW.trod_int Tryd.underlying3 f2
    obtain ⟨k3, e3, rfl, _⟩ := DataW.trod_int Tryd.underlying3 f3
    obtain ⟨k4, e4, rfl, _⟩ := DataW.trod_int Tryd.underlying3 f4
    obtain ⟨c, A, k, cp, e5, hr, hb⟩ := open_cmd f5
    simp at e0 e1 e2 e3 e4 e5
    obtain ⟨e5, e6, e7, e8⟩ := e5
    subst e0 e1 e2 e3 e4 e5 e6 e7 e8
    refine ⟨⟨k0, k1, k2, k3, k4, c⟩, A, k, cp, rfl, hr, fun p hp => ?_⟩
    have h1 := hb p hp
    have h2 : Rows.uptoBulk y5.1 ≤ _ := up_part (l := [.lit (.int .i64 k0), .lit (.int .i64 k1), .lit (.int .i64 k2), .lit (.int .i64 k3), .lit (.int .i64 k4), y5.1]) (by simp)
    have h3 := up_agg (H := H) [.lit (.int .i64 k0), .lit (.int .i64 k1), .lit (.int .i64 k2), .lit (.int .i64 k3), .lit (.int .i64 k4), y5.1]
    simp only [List.map]
    exact ⟨by have := h1.1; omega, by have := h1.2; omega⟩
end
end Go.Proofs.YtnahkpfamocnfabDoor
