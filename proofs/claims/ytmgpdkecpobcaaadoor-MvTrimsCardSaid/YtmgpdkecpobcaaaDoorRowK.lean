/- Rows of elements of whatever size: a beginning, one more of the spare, elements copied in; zeros appended. -/
import Derived.Test.YtmgpdkecpobcaaaDoorFrame
import Derived.WalkKit
import Derived.Lib.SliceRun
import Derived.Lib.AppendZerosOnto
import Derived.Lib.Overlaps
import Derived.Laws.CopyRow
import Derived.Laws.Tables
namespace Go.Proofs.YtmgpdkecpobcaaaDoor
open Go.RowKit
section
variable {P : Program} {w : World} {base e size g n cap : Nat} {xs : List Value}
theorem ownK_open (h : w.ownsRow base e size (.slice (some ⟨g, 0, none⟩) n cap) n xs) : ∃ cur : Array Value, base ≤ g ∧ w.heap[g]? = some (.cells cur e (0, 0)) ∧ n ≤ cap ∧ cap ≤ maxLen ∧ cur.size = cap * size ∧ cur.toList.take (n * size) = xs := by
  rcases h.2 with ⟨h, _⟩ | ⟨g', cap', cur, h, hbg, hg, hnc, hcm, hcs, htake⟩
  · cases h
  · simp only [Value.slice.injEq, Option.some.injEq, Addr.mk.injEq, and_true, true_and] at h
    obtain ⟨rfl, rfl⟩ := h
    exact ⟨cur, hbg, hg, hnc, hcm, hcs, htake⟩
theorem ownK_cap (h : w.ownsRow base e size (.slice (some ⟨g, 0, none⟩) n cap) n xs) : n ≤ cap ∧ cap ≤ maxLen := by
  obtain ⟨cur, _, _, h1, h2, _⟩ := ownK_open h
  exact ⟨h1, h2⟩
/-- A beginning of a row. -/
theorem ownK_prefix (h : w.ownsRow base e size (.slice (some ⟨g, 0, none⟩) n cap) n xs) {i : Nat} (hi : i ≤ n) : w.ownsRow base e size (.slice (some ⟨g, 0, none⟩) i cap) i (xs.take (i * size)) := by
  have hm : i * size ≤ n * size := Nat.mul_le_mul_right _ hi
  obtain ⟨cur, hbg, hg, hnc, hcm, hcs, htake⟩ := ownK_open h
  exact ⟨by rw [List.length_take, h.1]; omega, .inr ⟨g, cap, cur, rfl, hbg, hg, by omega, hcm, hcs, by rw [← htake, List.take_take, Nat.min_eq_left hm]⟩⟩
/-- One more, out of the spare. -/
theorem ownK_more (h : w.ownsRow base e size (.slice (some ⟨g, 0, none⟩) n cap) n xs) (hn : n + 1 ≤ cap) : ∃ ex : List Value, ex.length = size ∧ w.ownsRow base e size (.slice (some ⟨g, 0, none⟩) (n + 1) cap) (n + 1) (xs ++ ex) := by
  obtain ⟨cur, hbg, hg, hnc, hcm, hcs, htake⟩ := ownK_open h
  have hl : (n + 1) * size ≤ cap * size := Nat.mul_le_mul_right _ hn
  have hl2 : (n + 1) * size = n * size + size := by rw [Nat.add_mul, Nat.one_mul]
  refine ⟨(cur.toList.drop (n * size)).take size, by rw [List.length_take, List.length_drop, Array.length_toList, hcs]; omega, ?_, .inr ⟨g, cap, cur, rfl, hbg, hg, hn, hcm, hcs, ?_⟩⟩
  · rw [List.length_append, h.1, List.length_take, List.length_drop, Array.length_toList, hcs]; omega
  · rw [hl2, List.take_add, htake]
/-- Copy of m elements at whatever size. -/
theorem run_copy_rowK (w : World) (dT sT ty elem : TypeId) (k g o dLen dCap : Nat) (a : Addr) (sLen sCap : Nat) (cur : Array Value) (t : TypeId) (cs : List Value)
    (hu : P.underlying dT = some (.slice elem)) (hs : (P.info? elem).map (·.size) = some k)
    (hg : w.heap[g]? = some (.cells cur t (0, 0))) (hn : cs.length = Nat.min sLen dLen * k)
    (hsrc : ∀ j v, cs[j]? = some v → w.cell? (a.add j) = some v) (hfit : o + cs.length ≤ cur.size) (h1 : ∀ v ∈ cs, v.oneCell' = true) :
    (Builtin.copy_ #[dT, sT] ty #[.slice (some ⟨g, o, none⟩) dLen dCap, .slice (some a) sLen sCap]).run P w =
      .ok (goInt (Nat.min sLen dLen)) (w.setRow g (cur.toList.take o ++ cs ++ cur.toList.drop (o + cs.length)).toArray) := by
  have hl := run_loadCells_list (P := P) w a cs hsrc
  have hst := run_storeCells_at P g o t cs 0 cur w hg (by simpa using hfit) h1
  cases hq : P.info? elem with
  | none => simp [hq] at hs
  | some i =>
    have hi : i.size = k := by simpa [hq] using hs
    rw [hn] at hl
    simp [Builtin.copy_, run_underlying hu, Builtin.lenOf, Builtin.firstCells, sizeOf, typeInfo, hq, hi, hl, hst]
/-- m elements copied into a row at place i. -/
theorem run_copyIn (dT sT elem : TypeId) (hu : P.underlying dT = some (.slice elem)) (hs : (P.info? elem).map (·.size) = some size)
    (h : w.ownsRow base e size (.slice (some ⟨g, 0, none⟩) n cap) n xs) {i m : Nat} (him : i + m ≤ n) (vs : List Value) (hvs : vs.length = m * size) (a : Addr) (hsrc : ∀ j v, vs[j]? = some v → w.cell? (a.add j) = some v)
    (h1 : ∀ v ∈ vs, v.oneCell' = true) (dl dc sl sc : Nat) (hmin : Nat.min sl dl = m) :
    ∃ w', (∀ ty, (Builtin.copy_ #[dT, sT] ty #[.slice (some ⟨g, i * size, none⟩) dl dc, .slice (some a) sl sc]).run P w = .ok (goInt m) w') ∧
      w'.ownsRow base e size (.slice (some ⟨g, 0, none⟩) n cap) n (xs.take (i * size) ++ vs ++ xs.drop ((i + m) * size)) ∧ Fr (fun k => k = g) w w' := by
  obtain ⟨cur, hbg, hg, hnc, hcm, hcs, htake⟩ := ownK_open h
  have e1 : (i + m) * size ≤ n * size := Nat.mul_le_mul_right _ him
  have e2 : n * size ≤ cap * size := Nat.mul_le_mul_right _ hnc
  have e3 : (i + m) * size = i * size + m * size := Nat.add_mul _ _ _
  have hrun := fun ty => run_copy_rowK (P := P) w dT sT ty elem size g (i * size) dl dc a sl sc cur e vs hu hs hg (by rw [hmin, hvs]) hsrc (by rw [hvs, hcs]; omega) h1
  simp only [hmin] at hrun
  refine ⟨_, hrun, ⟨?_, .inr ⟨g, cap, _, rfl, hbg, setRow_heap w g cur _ e _ hg, hnc, hcm, ?_, ?_⟩⟩, ⟨rfl, rfl, rfl, by simp, fun k _ hk => setRow_other w g k _ hk⟩⟩
  · rw [List.length_append, List.length_append, List.length_take, List.length_drop, h.1, hvs]; omega
  · simp only [List.size_toArray, List.length_append, List.length_take, List.length_drop, Array.length_toList, hvs, hcs]; omega
  · rw [← htake]
    simp only []
    have hlen : (cur.toList.take (i * size) ++ vs).length = (i + m) * size := by
      rw [List.length_append, List.length_take, Array.length_toList, hcs, hvs]; omega
    have hd : i * size + vs.length = (i + m) * size := by rw [hvs]; omega
    rw [hd, List.take_append, hlen, List.take_of_length_le (by rw [hlen]; omega), List.take_take, Nat.min_eq_left (by omega), List.drop_take]
/-- append(s[:i], make([]T, k)...) where there is no room: a new row. -/
theorem run_zerosK (t tn : TypeId) (i0 : TypeInfo) (z : Value) (kq kn : IntKind) (ht : P.underlying t = some (.slice e)) (htn : P.underlying tn = some (.int kn)) (hi : P.info? e = some i0) (hz : i0.zero = some z) (hsz : i0.size = size) (hzs : z.cells.size = size) (hs0 : 0 < size)
    (h : w.ownsRow base e size (.slice (some ⟨g, 0, none⟩) n cap) n xs) {k : Nat} (h0 : 0 < k) (hg : cap < n + k) (hlim : n + k ≤ 1000000) (hby : i0.bytes ≤ 1000000) (hxs : ∀ v ∈ xs, v.oneCell' = true) (hb : base ≤ w.heap.size) :
    ∃ c' w', (∀ ty, (Builtin.append_ #[t, tn] ty #[.slice (some ⟨g, 0, none⟩) n cap, .int kq k]).run P w = .ok (.slice (some ⟨w.heap.size, 0, none⟩) (n + k) c') w') ∧
      w'.ownsRow base e size (.slice (some ⟨w.heap.size, 0, none⟩) (n + k) c') (n + k) (xs ++ (Builtin.zeroCells z.cells k).toList) ∧ Fr (fun _ => False) w w' ∧ w'.heap.size = w.heap.size + 1 := by
  obtain ⟨cur, hbg, hgg, hnc, hcm, hcs, htake⟩ := ownK_open h
  have hle : n * size ≤ cap * size := Nat.mul_le_mul_right _ hnc
  have hold : (Builtin.firstCells i0.size n (.slice (some ⟨g, 0, none⟩) n cap)).run P w.drew = .ok xs.toArray w.drew := by
    have := run_loadCells_list (P := P) w.drew ⟨g, 0, none⟩ xs (fun j v hj => by
      have hjl : j < xs.length := (List.getElem?_eq_some_iff.1 hj).1
      rw [Addr.add_lit, Nat.zero_add]
      show w.cell? _ = _
      have h2 : cur[j]? = some v := by
        rw [← htake] at hj
        rw [List.getElem?_take] at hj
        split at hj
        · simpa using hj
        · cases hj
      exact (cell_of_row w g j cur e (0, 0) hgg).trans h2)
    rw [h.1] at this
    unfold Builtin.firstCells
    rw [hsz]
    exact this
  have hby2 : (n + k) * i0.bytes ≤ 140737488355328 := by
    have : (n + k) * i0.bytes ≤ 1000000 * 1000000 := Nat.mul_le_mul hlim hby
    omega
  have hkb : k * i0.bytes ≤ (n + k) * i0.bytes := Nat.mul_le_mul_right _ (by omega)
  have hrun := fun ty => Lib.run_append_grow_zeros (P := P) w t tn ty e i0 z kq kn ht htn hi hz (some ⟨g, 0, none⟩) n cap xs hold k h0 (by rw [hsz]; exact hs0) hg (by omega) (by omega) (growslice_fits hg hby2)
  have hge := grownCap_ge w (n + k) cap e
  have hcm2 : grownCap w (n + k) cap e ≤ maxLen := grownCap_le_maxLen w (n + k) cap e (by unfold maxLen; omega)
  refine ⟨_, _, hrun, ⟨?_, .inr ⟨w.heap.size, _, _, rfl, hb, heap_alloc_new w.drew _, hge, hcm2, ?_, ?_⟩⟩, (Fr.refl _ w).drew.alloc _, by simp⟩
  · rw [List.length_append, h.1, Array.length_toList, size_zeroCells, hzs, Nat.add_mul]
  · simp only [Array.size_append, List.size_toArray, size_zeroCells, hzs, h.1, ← Nat.add_mul]
    congr 1
    omega
  · have hl : (xs ++ (Builtin.zeroCells z.cells k).toList).length = (n + k) * size := by rw [List.length_append, h.1, Array.length_toList, size_zeroCells, hzs, Nat.add_mul]
    simp only [Array.toList_append]
    rw [← hl]
    exact List.take_left
def skipK (g k cap size : Nat) : Option Addr := if cap = k then some ⟨g, 0, none⟩ else some ⟨g, k * size, none⟩
theorem skipK_some (g k cap size : Nat) : ∃ o, skipK g k cap size = some ⟨g, o, none⟩ ∧ (k < cap → o = k * size) := by
  unfold skipK
  split
  · rename_i hk; exact ⟨0, rfl, fun h => by omega⟩
  · exact ⟨_, rfl, fun _ => rfl⟩
/-- clear(s[a:n]): what stands ahead stays. -/
theorem run_clear_restK (t : TypeId) (z : Value) (ht : P.underlying t = some (.slice e)) (hv : ∀ w, (zeroValue e).run P w = .ok z w) (hz : z.cells.size = size) (hz1 : ∀ u ∈ z.cells.toList, u.oneCell' = true)
    (h : w.ownsRow base e size (.slice (some ⟨g, 0, none⟩) n cap) n xs) {m c : Nat} (hm : n + m ≤ cap) :
    ∃ w', (∀ ty, (Builtin.clear_ #[t] ty #[.slice (skipK g n cap size) m c]).run P w = .ok (.tuple #[]) w') ∧ w'.ownsRow base e size (.slice (some ⟨g, 0, none⟩) n cap) n xs ∧ Fr (fun k => k = g) w w' := by
  obtain ⟨o, ho, ho2⟩ := skipK_some g n cap size
  rw [ho]
  rcases Nat.eq_zero_or_pos m with h0 | h0
  · subst h0
    exact ⟨w, fun ty => by simp [Builtin.clear_, run_underlying ht], h, Fr.refl _ _⟩
  have ho3 := ho2 (by omega)
  subst ho3
  rcases h.2 with ⟨h', _⟩ | ⟨g', cap', cur, h', hbg, hg, hnc, hcm, hcs, htake⟩
  · cases h'
  · simp only [Value.slice.injEq, Option.some.injEq, Addr.mk.injEq, and_true, true_and] at h'
    obtain ⟨rfl, rfl⟩ := h'
    have hzl : (Builtin.zeroCells z.cells m).toList.length = m * size := by rw [Array.length_toList, size_zeroCells, hz]
    have hzo : ∀ u ∈ (Builtin.zeroCells z.cells m).toList, u.oneCell' = true := fun u hu => by
      obtain ⟨i, hi, hu⟩ := List.getElem_of_mem hu
      have hzs : 0 < z.cells.size := by
        rcases Nat.eq_zero_or_pos z.cells.size with h | h
        · rw [hzl, ← hz, h] at hi; omega
        · exact h
      refine hz1 u ?_
      rw [← hu]
      simp [Builtin.zeroCells]
      have hlt : i % z.cells.size < z.cells.size := Nat.mod_lt _ hzs
      simp [hlt]
    have hfit : n * size + (Builtin.zeroCells z.cells m).toList.length ≤ cur.size := by rw [hzl, hcs, ← Nat.add_mul]; exact Nat.mul_le_mul_right _ hm
    have hst := run_storeCells_at (P := P) g (n * size) e (Builtin.zeroCells z.cells m).toList 0 cur w hg (by simpa using hfit) hzo
    simp only [Nat.add_zero] at hst
    obtain ⟨m', rfl⟩ : ∃ m', m = m' + 1 := ⟨m - 1, by omega⟩
    refine ⟨w.setRow g (cur.toList.take (n * size) ++ (Builtin.zeroCells z.cells (m' + 1)).toList ++ cur.toList.drop (n * size + (Builtin.zeroCells z.cells (m' + 1)).toList.length)).toArray, ?_, ⟨h.1, .inr ⟨g, cap, _, rfl, hbg, setRow_heap w g cur _ e _ hg, hnc, hcm, ?_, ?_⟩⟩, ⟨rfl, rfl, rfl, by simp, fun k _ hk => setRow_other w g k _ hk⟩⟩
    · intro ty; simp [Builtin.clear_, run_underlying ht, hv, hst]
    · simp only [List.size_toArray, List.length_append, List.length_take, List.length_drop, Array.length_toList]
      simp only [Array.length_toList] at hfit
      omega
    · have hlen : (cur.toList.take (n * size)).length = n * size := by rw [htake, h.1]
      rw [List.append_assoc, List.take_append_of_le_length (by rw [hlen]; omega), List.take_of_length_le (by rw [hlen]; omega), htake]
theorem slice_fromSkipK (T : TypeId) (hu : P.underlying T = some (.slice (P.elem T))) (hs : ∀ w, (sizeOf (P.elem T)).run P w = .ok size w) (w : World) (g n c v : Nat) (h : Int) (hh : h = v) (hv : v ≤ n) :
    (Instr.slice T (.slice (some ⟨g, 0, none⟩) n c) (some (.int .i64 h)) none none).run P w = .ok (.slice (skipK g v c size) (n - v) (c - v)) w := by
  subst hh
  rw [run_slice_l w T _ n c hu .i64 (v : Int) (by omega) (by omega), hs]
  simp only [Result.andThen, sliced, Int.toNat_natCast, skipK]
  congr 2
  split <;> simp [Addr.add_lit]
theorem slice_fromK (T : TypeId) (hu : P.underlying T = some (.slice e)) (hel : P.elem T = e) (hs : ∀ w, (sizeOf e).run P w = .ok size w) (w : World) (g n c v : Nat) (h : Int) (hh : h = v) (hv : v ≤ n) (hc : v < c) :
    (Instr.slice T (.slice (some ⟨g, 0, none⟩) n c) (some (.int .i64 h)) none none).run P w = .ok (.slice (some ⟨g, v * size, none⟩) (n - v) (c - v)) w := by
  subst hh
  subst hel
  rw [run_slice_l w T _ n c hu .i64 (v : Int) (by omega) (by omega), hs]
  simp only [Result.andThen, sliced, Int.toNat_natCast]
  rw [if_neg (by omega)]
  simp [Addr.add_lit]
theorem slice_fromAny (T : TypeId) (hu : P.underlying T = some (.slice e)) (hel : P.elem T = e) (hs : ∀ w, (sizeOf e).run P w = .ok size w) (w : World) (A : Option Addr) (n c v : Nat) (hv : v ≤ n) :
    ∃ r, (Instr.slice T (.slice A n c) (some (.int .i64 (v : Int))) none none).run P w = .ok r w := by
  subst hel
  rw [run_slice_l w T _ n c hu .i64 (v : Int) (by omega) (by omega), hs]
  exact ⟨_, rfl⟩
theorem slice_toK (T : TypeId) (hu : P.underlying T = some (.slice e)) (hel : P.elem T = e) (hs : ∀ w, (sizeOf e).run P w = .ok size w) (w : World) (g n c v : Nat) (h : Int) (hh : h = v) (hv : v ≤ c) :
    (Instr.slice T (.slice (some ⟨g, 0, none⟩) n c) none (some (.int .i64 h)) none).run P w = .ok (.slice (some ⟨g, 0, none⟩) v c) w := by
  subst hh
  subst hel
  rw [run_slice_h w T _ n c hu .i64 (v : Int) (by omega) (by omega), hs]
  simp only [Result.andThen, sliced, Int.toNat_natCast, Nat.zero_mul, Nat.sub_zero]
  congr 2
  split <;> simp [Addr.add]
end
section
variable {P : Program} {w w' : World} {ops : Array Oper} {rest : List Oper} {o : Oper} {a : Act} {Q : Exit → Act → World → Prop} {K : Act → World → Prop}
/-- A builtin of two arguments whose run is known. -/
theorem wp_append2_run (s x : Operand) (t t' : TypeId) (ho : o.op = .call { callee := .builtin .append, args := #[s, x], argTypes := #[t, t'] }) (v u r : Value) (hs : a.eval s = v) (hx : a.eval x = u)
    (hrun : (Builtin.append_ #[t, t'] o.type #[v, u]).run P w = .ok r w') (h : K (a.put o.dst r) w') : o.wp P a w K Q := by
  unfold Oper.wp execOp
  simp only [ho, resolve, invoke, builtin, Sem.run_bind, Sem.run_pure, Result.andThen_ok, List.map_toArray, List.map_cons, List.map_nil, hs, hx, hrun]
  exact h
theorem wpList_append2_run (hgd : o.guard = none) (s x : Operand) (t t' : TypeId) (ho : o.op = .call { callee := .builtin .append, args := #[s, x], argTypes := #[t, t'] }) (v u r : Value) (hs : a.eval s = v) (hx : a.eval x = u)
    (hrun : (Builtin.append_ #[t, t'] o.type #[v, u]).run P w = .ok r w') (h : wpList P ops Q rest (a.put o.dst r) w') : wpList P ops Q (o :: rest) a w :=
  wpList_plain hgd fun _ hK => wp_append2_run s x t t' ho v u r hs hx hrun (hK _ _ h)
theorem wp_copy2_run (d s : Operand) (t t' : TypeId) (ho : o.op = .call { callee := .builtin .copy, args := #[d, s], argTypes := #[t, t'] }) (v u r : Value) (hd : a.eval d = v) (hs : a.eval s = u)
    (hrun : (Builtin.copy_ #[t, t'] o.type #[v, u]).run P w = .ok r w') (h : K (a.put o.dst r) w') : o.wp P a w K Q := by
  unfold Oper.wp execOp
  simp only [ho, resolve, invoke, builtin, Sem.run_bind, Sem.run_pure, Result.andThen_ok, List.map_toArray, List.map_cons, List.map_nil, hd, hs, hrun]
  exact h
theorem wpList_copy2_run (hgd : o.guard = none) (d s : Operand) (t t' : TypeId) (ho : o.op = .call { callee := .builtin .copy, args := #[d, s], argTypes := #[t, t'] }) (v u r : Value) (hd : a.eval d = v) (hs : a.eval s = u)
    (hrun : (Builtin.copy_ #[t, t'] o.type #[v, u]).run P w = .ok r w') (h : wpList P ops Q rest (a.put o.dst r) w') : wpList P ops Q (o :: rest) a w :=
  wpList_plain hgd fun _ hK => wp_copy2_run d s t t' ho v u r hd hs hrun (hK _ _ h)
end
/-- A row with one put in at place i. -/
def putIn (size i : Nat) (vs xs : List Value) : List Value := xs.take (i * size) ++ vs ++ xs.drop (i * size)
theorem putIn_shift {size i n : Nat} {vs xs ex : List Value} (hl : xs.length = n * size) (hi : i < n) (hex : ex.length = size) :
    (((xs ++ ex).take ((i + 1) * size) ++ xs.drop (i * size) ++ (xs ++ ex).drop ((i + 1 + (n - i)) * size)).take (i * size) ++ vs ++ ((xs ++ ex).take ((i + 1) * size) ++ xs.drop (i * size) ++ (xs ++ ex).drop ((i + 1 + (n - i)) * size)).drop ((i + 1) * size)) = putIn size i vs xs := by
  have e1 : (i + 1) * size = i * size + size := by rw [Nat.add_mul, Nat.one_mul]
  have e2 : (i + 1) * size ≤ n * size := Nat.mul_le_mul_right _ hi
  have e3 : (i + 1 + (n - i)) * size = n * size + size := by rw [show i + 1 + (n - i) = n + 1 by omega, Nat.add_mul, Nat.one_mul]
  have h1 : (xs ++ ex).take ((i + 1) * size) = xs.take ((i + 1) * size) := by rw [List.take_append_of_le_length (by omega)]
  have h2 : (xs ++ ex).drop ((i + 1 + (n - i)) * size) = [] := List.drop_eq_nil_of_le (by rw [List.length_append, hl, hex, e3]; omega)
  have hlen : (xs.take ((i + 1) * size)).length = (i + 1) * size := by rw [List.length_take, hl]; omega
  rw [h1, h2, List.append_nil, List.take_append_of_le_length (by rw [hlen]; omega), List.take_take, Nat.min_eq_left (by omega), List.drop_append_of_le_length (by rw [hlen]; omega), List.drop_of_length_le (by rw [hlen]; omega)]
  rfl
theorem putIn_grow {size i n : Nat} {vs xs zs : List Value} (hl : xs.length = n * size) (hi : i ≤ n) (hz : zs.length = (n + 1 - i) * size) (hv : vs.length = size) :
    ((((xs.take (i * size) ++ zs).take (i * size) ++ vs ++ (xs.take (i * size) ++ zs).drop ((i + 1) * size)).take ((i + 1) * size)) ++ xs.drop (i * size) ++ ((xs.take (i * size) ++ zs).take (i * size) ++ vs ++ (xs.take (i * size) ++ zs).drop ((i + 1) * size)).drop ((i + 1 + (n - i)) * size)) = putIn size i vs xs := by
  have e1 : (i + 1) * size = i * size + size := by rw [Nat.add_mul, Nat.one_mul]
  have e2 : i * size ≤ n * size := Nat.mul_le_mul_right _ hi
  have e3 : (i + 1 + (n - i)) * size = n * size + size := by rw [show i + 1 + (n - i) = n + 1 by omega, Nat.add_mul, Nat.one_mul]
  have e4 : (n + 1 - i) * size = n * size + size - i * size := by rw [Nat.sub_mul, Nat.add_mul, Nat.one_mul]
  have hlen : (xs.take (i * size)).length = i * size := by rw [List.length_take, hl]; omega
  have h1 : (xs.take (i * size) ++ zs).take (i * size) = xs.take (i * size) := by rw [List.take_append_of_le_length (by omega), List.take_of_length_le (by omega)]
  rw [h1]
  have hlen2 : (xs.take (i * size) ++ vs).length = (i + 1) * size := by rw [List.length_append, hlen, hv]; omega
  have h2 : ((xs.take (i * size) ++ vs ++ (xs.take (i * size) ++ zs).drop ((i + 1) * size)).take ((i + 1) * size)) = xs.take (i * size) ++ vs := by
    rw [List.take_append_of_le_length (by omega), List.take_of_length_le (by omega)]
  have h3 : (xs.take (i * size) ++ vs ++ (xs.take (i * size) ++ zs).drop ((i + 1) * size)).drop ((i + 1 + (n - i)) * size) = [] := by
    refine List.drop_eq_nil_of_le ?_
    rw [List.length_append, hlen2, List.length_drop, List.length_append, hlen, hz]
    omega
  rw [h2, h3, List.append_nil]
  rfl
end Go.Proofs.YtmgpdkecpobcaaaDoor
