/- Rows of elements of whatever size: a beginning of one; what stands in the middle taken out; the rest cleared. -/
import Derived.Test.YtnahkpfamocnfaaDoorClone
import Derived.Lib.SliceRun
namespace Go.Proofs.YtnahkpfamocnfaaDoor
open Go.RowKit
theorem add_zero_addr' (a : Addr) : a.add 0 = a := by unfold Addr.add; rw [if_pos rfl]
section
variable {P : Program} {w : World} {base e size g n cap : Nat} {xs : List Value}
/-- A beginning of a row. -/
theorem own_prefix (h : w.ownsRow base e size (.slice (some ⟨g, 0, none⟩) n cap) n xs) {i : Nat} (hi : i ≤ n) : w.ownsRow base e size (.slice (some ⟨g, 0, none⟩) i cap) i (xs.take (i * size)) := by
  have hm : i * size ≤ n * size := Nat.mul_le_mul_right _ hi
  refine ⟨by rw [List.length_take, h.1]; omega, ?_⟩
  rcases h.2 with ⟨h, _⟩ | ⟨g', cap', cur, h, hbg, hg, hnc, hcm, hcs, htake⟩
  · cases h
  · simp only [Value.slice.injEq, Option.some.injEq, Addr.mk.injEq, and_true, true_and] at h
    obtain ⟨rfl, rfl⟩ := h
    refine .inr ⟨g, cap, cur, rfl, hbg, hg, by omega, hcm, hcs, ?_⟩
    rw [← htake, List.take_take, Nat.min_eq_left hm]
theorem own_cap (h : w.ownsRow base e size (.slice (some ⟨g, 0, none⟩) n cap) n xs) : n ≤ cap ∧ cap ≤ maxLen := by
  rcases h.2 with ⟨h, _⟩ | ⟨g', cap', cur, h, hbg, hg, hnc, hcm, hcs, htake⟩
  · cases h
  · simp only [Value.slice.injEq, Option.some.injEq, Addr.mk.injEq, and_true, true_and] at h
    obtain ⟨rfl, rfl⟩ := h
    exact ⟨hnc, hcm⟩
/-- Where a slice that leaves k elements out begins. -/
def skipA (g k cap size : Nat) : Option Addr := if cap = k then some ⟨g, 0, none⟩ else some ⟨g, k * size, none⟩
theorem skipA_some (g k cap size : Nat) : ∃ o, skipA g k cap size = some ⟨g, o, none⟩ ∧ (k < cap → o = k * size) := by
  unfold skipA
  split
  · rename_i hk; exact ⟨0, rfl, fun h => by omega⟩
  · exact ⟨_, rfl, fun _ => rfl⟩
/-- append(s[:i], s[j:]...), i at most j. -/
theorem run_cutOut (t ty : TypeId) (i : TypeInfo) (ht : P.underlying t = some (.slice e)) (hi : P.info? e = some i) (hsize : i.size = size)
    (h : w.ownsRow base e size (.slice (some ⟨g, 0, none⟩) n cap) n xs) (h1 : ∀ u ∈ xs, u.oneCell' = true) {a b : Nat} (hab : a ≤ b) (hb : b ≤ n) :
    ∃ w', (Builtin.append_ #[t, t] ty #[.slice (some ⟨g, 0, none⟩) a cap, .slice (skipA g b cap size) (n - b) (cap - b)]).run P w = .ok (.slice (some ⟨g, 0, none⟩) (a + (n - b)) cap) w' ∧
      w'.ownsRow base e size (.slice (some ⟨g, 0, none⟩) (a + (n - b)) cap) (a + (n - b)) (xs.take (a * size) ++ xs.drop (b * size)) ∧ Fr (fun k => k = g) w w' := by
  obtain ⟨o, ho, ho2⟩ := skipA_some g b cap size
  have hc := (own_cap h).1
  have hl : (xs.drop (b * size)).length = (n - b) * size := by rw [List.length_drop, h.1, Nat.sub_mul]
  obtain ⟨w', h2, h3, h4⟩ := run_append_fits (P := P) w base t ty e i size ht hi hsize g a cap _ (own_prefix h (by omega : a ≤ n)) ⟨g, o, none⟩ (n - b) (cap - b) (xs.drop (b * size)) hl (fun j u hu => by
    have hj : j < (n - b) * size := by rw [← hl]; exact (List.getElem?_eq_some_iff.1 hu).1
    have hlt : b < n := by
      rcases Nat.lt_or_ge b n with h | h
      · exact h
      · rw [Nat.sub_eq_zero_of_le h, Nat.zero_mul] at hj; omega
    rw [Addr.add_lit, ho2 (by omega), h.cellAt]
    · rw [← hu, List.getElem?_drop]
    · rw [Nat.sub_mul] at hj; omega) (fun u hu => h1 u (List.mem_of_mem_drop hu)) (by omega)
  rw [ho]
  exact ⟨w', h2, h3, Fr.of_grown h4 (fun k e => (Option.some.inj e).symm)⟩
/-- clear(s[a:n]): what stands ahead stays. -/
theorem run_clear_rest (t : TypeId) (z : Value) (ht : P.underlying t = some (.slice e)) (hv : ∀ w, (zeroValue e).run P w = .ok z w) (hz : z.cells.size = size) (hz1 : ∀ u ∈ z.cells.toList, u.oneCell' = true)
    (h : w.ownsRow base e size (.slice (some ⟨g, 0, none⟩) n cap) n xs) {m c : Nat} (hm : n + m ≤ cap) :
    ∃ w', (∀ ty, (Builtin.clear_ #[t] ty #[.slice (skipA g n cap size) m c]).run P w = .ok (.tuple #[]) w') ∧ w'.ownsRow base e size (.slice (some ⟨g, 0, none⟩) n cap) n xs ∧ Fr (fun k => k = g) w w' := by
  obtain ⟨o, ho, ho2⟩ := skipA_some g n cap size
  rw [ho]
  rcases Nat.eq_zero_or_pos m with h0 | h0
  · subst h0
    exact ⟨w, fun ty => by simp [Builtin.clear_, run_underlying ht], h, Fr.refl _ _⟩
  have ho3 := ho2 (by omega)
  subst ho3
  rcases h.2 with ⟨h', _⟩ | ⟨g', cap', cur, h', hbg, hg, hnc, hcm, hcs, htake⟩
  · cases h'
  · simp only [Value.slice.injEq, Option.some.injEq, Addr.mk.injEq, and_true, true_and] at h'
    obtain ⟨rfl, rfl⟩ := h'
    have hzl : (Builtin.zeroCells z.cells m).toList.length = m * size := by rw [Array.length_toList, size_zeroCells, hz]
    have hzo : ∀ u ∈ (Builtin.zeroCells z.cells m).toList, u.oneCell' = true := fun u hu => by
      obtain ⟨i, hi, hu⟩ := List.getElem_of_mem hu
      have hzs : 0 < z.cells.size := by
        rcases Nat.eq_zero_or_pos z.cells.size with h | h
        · rw [hzl, ← hz, h] at hi; omega
        · exact h
      refine hz1 u ?_
      rw [← hu]
      simp [Builtin.zeroCells]
      have hlt : i % z.cells.size < z.cells.size := Nat.mod_lt _ hzs
      simp [hlt]
    have hfit : n * size + (Builtin.zeroCells z.cells m).toList.length ≤ cur.size := by rw [hzl, hcs, ← Nat.add_mul]; exact Nat.mul_le_mul_right _ hm
    have hst := run_storeCells_at (P := P) g (n * size) e (Builtin.zeroCells z.cells m).toList 0 cur w hg (by simpa using hfit) hzo
    simp only [Nat.add_zero] at hst
    obtain ⟨m', rfl⟩ : ∃ m', m = m' + 1 := ⟨m - 1, by omega⟩
    refine ⟨w.setRow g (cur.toList.take (n * size) ++ (Builtin.zeroCells z.cells (m' + 1)).toList ++ cur.toList.drop (n * size + (Builtin.zeroCells z.cells (m' + 1)).toList.length)).toArray, ?_, ⟨h.1, .inr ⟨g, cap, _, rfl, hbg, setRow_heap w g cur _ e _ hg, hnc, hcm, ?_, ?_⟩⟩, ⟨rfl, rfl, rfl, by simp, fun k _ hk => setRow_other w g k _ hk⟩⟩
    · intro ty; simp [Builtin.clear_, run_underlying ht, hv, hst]
    · simp only [List.size_toArray, List.length_append, List.length_take, List.length_drop, Array.length_toList]
      simp only [Array.length_toList] at hfit
      omega
    · have hlen : (cur.toList.take (n * size)).length = n * size := by rw [htake, h.1]
      rw [List.append_assoc, List.take_append_of_le_length (by rw [hlen]; omega), List.take_of_length_le (by rw [hlen]; omega), htake]
theorem slice_fromG (T : TypeId) (hu : P.underlying T = some (.slice (P.elem T))) (hs : ∀ w, (sizeOf (P.elem T)).run P w = .ok size w) (w : World) (g n c v : Nat) (h : Int) (hh : h = v) (hv : v ≤ n) :
    (Instr.slice T (.slice (some ⟨g, 0, none⟩) n c) (some (.int .i64 h)) none none).run P w = .ok (.slice (skipA g v c size) (n - v) (c - v)) w := by
  subst hh
  rw [run_slice_l w T _ n c hu .i64 (v : Int) (by omega) (by omega), hs]
  simp only [Result.andThen, sliced, Int.toNat_natCast, skipA]
  congr 2
  split <;> simp [Addr.add_lit]
theorem slice_toG (T : TypeId) (hu : P.underlying T = some (.slice (P.elem T))) (hs : ∀ w, (sizeOf (P.elem T)).run P w = .ok size w) (w : World) (g n c v : Nat) (h : Int) (hh : h = v) (hv : v ≤ c) :
    (Instr.slice T (.slice (some ⟨g, 0, none⟩) n c) none (some (.int .i64 h)) none).run P w = .ok (.slice (some ⟨g, 0, none⟩) v c) w := by
  subst hh
  rw [run_slice_h w T _ n c hu .i64 (v : Int) (by omega) (by omega), hs]
  simp only [Result.andThen, sliced, Int.toNat_natCast, Nat.zero_mul, Nat.sub_zero]
  congr 2
  split <;> simp [add_zero_addr']
theorem slice_midG (T : TypeId) (hu : P.underlying T = some (.slice (P.elem T))) (hs : ∀ w, (sizeOf (P.elem T)).run P w = .ok size w) (w : World) (g n c u v : Nat) (l h : Int) (hl : l = u) (hh : h = v) (huv : u ≤ v) (hv : v ≤ c) :
    (Instr.slice T (.slice (some ⟨g, 0, none⟩) n c) (some (.int .i64 l)) (some (.int .i64 h)) none).run P w = .ok (.slice (skipA g u c size) (v - u) (c - u)) w := by
  subst hl hh
  rw [run_slice_lh w T _ n c hu .i64 .i64 (u : Int) (v : Int) (by omega) (by omega) (by omega), hs]
  simp only [Result.andThen, sliced, Int.toNat_natCast, skipA]
  congr 2
  split <;> simp [Addr.add_lit]
end
/-- An append whose run is known. -/
theorem wp_append_run {P : Program} {w w' : World} {o : Oper} {a : Act} {K : Act → World → Prop} {Q : Exit → Act → World → Prop} (s x : Operand) (t : TypeId)
    (ho : o.op = .call { callee := .builtin .append, args := #[s, x], argTypes := #[t, t] }) (v u r : Value) (hs : a.eval s = v) (hx : a.eval x = u)
    (hrun : (Builtin.append_ #[t, t] o.type #[v, u]).run P w = .ok r w') (h : K (a.put o.dst r) w') : o.wp P a w K Q := by
  unfold Oper.wp execOp
  simp only [ho, resolve, invoke, builtin, Sem.run_bind, Sem.run_pure, Result.andThen_ok, List.map_toArray, List.map_cons, List.map_nil, hs, hx, hrun]
  exact h
theorem wp_clear_run {P : Program} {w w' : World} {o : Oper} {a : Act} {K : Act → World → Prop} {Q : Exit → Act → World → Prop} (s : Operand) (t : TypeId)
    (ho : o.op = .call { callee := .builtin .clear, args := #[s], argTypes := #[t] }) (v : Value) (hs : a.eval s = v)
    (hrun : (Builtin.clear_ #[t] o.type #[v]).run P w = .ok (.tuple #[]) w') (h : K (a.put o.dst (.tuple #[])) w') : o.wp P a w K Q := by
  unfold Oper.wp execOp
  simp only [ho, resolve, invoke, builtin, Sem.run_bind, Sem.run_pure, Result.andThen_ok, List.map_toArray, List.map_cons, List.map_nil, hs, hrun]
  exact h
end Go.Proofs.YtnahkpfamocnfaaDoor
