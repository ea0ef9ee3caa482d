/- slices.Insert into what Trim has cut; into whatever versions a key has. -/
import Derived.Test.YtmgpdkecpobcaaaDoorMv2
namespace Go.Proofs.YtmgpdkecpobcaaaDoor
open Go.RowKit
section
variable {P : Program} {w : World} {base size n cap g o : Nat} {e : TypeId} {xs : List Value}
/-- append(s[:i], make([]T, k)...) of whatever slice that has no room: a new row. -/
theorem run_zerosO (t tn : TypeId) (i0 : TypeInfo) (z : Value) (kq kn : IntKind) (ht : P.underlying t = some (.slice e)) (htn : P.underlying tn = some (.int kn)) (hi : P.info? e = some i0) (hz : i0.zero = some z) (hsz : i0.size = size) (hzs : z.cells.size = size) (hs0 : 0 < size)
    (hxl : xs.length = n * size) (hxs : ∀ j u, xs[j]? = some u → w.cell? ⟨g, o + j, none⟩ = some u) {k : Nat} (h0 : 0 < k) (hg : cap < n + k) (hlim : n + k ≤ 1000000) (hby : i0.bytes ≤ 1000000) (hb : base ≤ w.heap.size) :
    ∃ c' w', (∀ ty, (Builtin.append_ #[t, tn] ty #[.slice (some ⟨g, o, none⟩) n cap, .int kq k]).run P w = .ok (.slice (some ⟨w.heap.size, 0, none⟩) (n + k) c') w') ∧
      w'.ownsRow base e size (.slice (some ⟨w.heap.size, 0, none⟩) (n + k) c') (n + k) (xs ++ (Builtin.zeroCells z.cells k).toList) ∧ Fr (fun _ => False) w w' ∧ w'.heap.size = w.heap.size + 1 := by
  have hold : (Builtin.firstCells i0.size n (.slice (some ⟨g, o, none⟩) n cap)).run P w.drew = .ok xs.toArray w.drew := by
    have := run_loadCells_list (P := P) w.drew ⟨g, o, none⟩ xs (fun j v hj => by
      rw [Addr.add_lit]
      show w.cell? _ = _
      exact hxs j v hj)
    rw [hxl] at this
    unfold Builtin.firstCells
    rw [hsz]
    exact this
  have hby2 : (n + k) * i0.bytes ≤ 140737488355328 := by
    have : (n + k) * i0.bytes ≤ 1000000 * 1000000 := Nat.mul_le_mul hlim hby
    omega
  have hkb : k * i0.bytes ≤ (n + k) * i0.bytes := Nat.mul_le_mul_right _ (by omega)
  have hrun := fun ty => Lib.run_append_grow_zeros (P := P) w t tn ty e i0 z kq kn ht htn hi hz (some ⟨g, o, none⟩) n cap xs hold k h0 (by rw [hsz]; exact hs0) hg (by omega) (by omega) (growslice_fits hg hby2)
  have hge := grownCap_ge w (n + k) cap e
  have hcm2 : grownCap w (n + k) cap e ≤ maxLen := grownCap_le_maxLen w (n + k) cap e (by unfold maxLen; omega)
  refine ⟨_, _, hrun, ⟨?_, .inr ⟨w.heap.size, _, _, rfl, hb, heap_alloc_new w.drew _, hge, hcm2, ?_, ?_⟩⟩, (Fr.refl _ w).drew.alloc _, by simp⟩
  · rw [List.length_append, hxl, Array.length_toList, size_zeroCells, hzs, Nat.add_mul]
  · simp only [Array.size_append, List.size_toArray, size_zeroCells, hzs, hxl, ← Nat.add_mul]
    congr 1
    omega
  · have hl : (xs ++ (Builtin.zeroCells z.cells k).toList).length = (n + k) * size := by rw [List.length_append, hxl, Array.length_toList, size_zeroCells, hzs, Nat.add_mul]
    simp only [Array.toList_append]
    rw [← hl]
    exact List.take_left
/-- append(s, v) of whatever slice that has no room: a new row. -/
theorem run_growO (t : TypeId) (i0 : TypeInfo) (z : Value) (ht : P.underlying t = some (.slice e)) (hi : P.info? e = some i0) (hz : i0.zero = some z) (hsz : i0.size = size) (hzs : z.cells.size = size)
    (hxl : xs.length = n * size) (hxs : ∀ j u, xs[j]? = some u → w.cell? ⟨g, o + j, none⟩ = some u) (vs : List Value) (hvs : vs.length = size) (vb vc : Nat) (hvb : ∀ j u, vs[j]? = some u → w.cell? ⟨vb, j, none⟩ = some u) (hg : cap < n + 1) (hlim : n + 1 ≤ 1000000) (hby : i0.bytes ≤ 1000000) (hb : base ≤ w.heap.size) :
    ∃ c' w', (∀ ty, (Builtin.append_ #[t, t] ty #[.slice (some ⟨g, o, none⟩) n cap, .slice (some ⟨vb, 0, none⟩) 1 vc]).run P w = .ok (.slice (some ⟨w.heap.size, 0, none⟩) (n + 1) c') w') ∧
      w'.ownsRow base e size (.slice (some ⟨w.heap.size, 0, none⟩) (n + 1) c') (n + 1) (xs ++ vs) ∧ Fr (fun _ => False) w w' := by
  have hby2 : (n + 1) * i0.bytes ≤ 140737488355328 := by
    have : (n + 1) * i0.bytes ≤ 1000000 * 1000000 := Nat.mul_le_mul hlim hby
    omega
  have hrun := fun ty => run_append_grow (P := P) (w := w) t ty e i0 z ht hi hz ⟨g, o, none⟩ n cap xs (by rw [hsz]; exact hxl) (fun j v hj => by rw [Addr.add_lit]; exact hxs j v hj) ⟨vb, 0, none⟩ 1 vc vs (by rw [hsz, hvs]; omega) (fun j v hj => by rw [Addr.add_lit, Nat.zero_add]; exact hvb j v hj) hg (by omega) (growslice_fits hg hby2)
  have hge := grownCap_ge w (n + 1) cap e
  have hcm2 : grownCap w (n + 1) cap e ≤ maxLen := grownCap_le_maxLen w (n + 1) cap e (by unfold maxLen; omega)
  refine ⟨_, _, hrun, ⟨?_, .inr ⟨w.heap.size, _, _, rfl, hb, heap_alloc_new w.drew _, hge, hcm2, ?_, ?_⟩⟩, (Fr.refl _ w).drew.alloc _⟩
  · rw [List.length_append, hxl, hvs, Nat.add_mul]; omega
  · simp only [Array.size_append, List.size_toArray, size_zeroCells, hzs, hxl, hvs]
    have : n * size + size = (n + 1) * size := by rw [Nat.add_mul]; omega
    rw [this, ← Nat.add_mul]
    congr 1
    omega
  · have hl : (xs ++ vs).length = (n + 1) * size := by rw [List.length_append, hxl, hvs, Nat.add_mul]; omega
    simp only [Array.toList_append]
    rw [← hl]
    exact List.take_left
end
set_option maxRecDepth 100000 in
set_option maxHeartbeats 4000000 in
/-- Into a piece of a block that has no room: a new row. -/
theorem vins_cut (base g o n i vb vc : Nat) (cs : Array Value) (xs vs : List Value) (w : World) (hcs : Blk w g 67 cs) (hxl : xs.length = n * 3) (hrd : ∀ j u, xs[j]? = some u → cs[o + j]? = some u) (hi : i < n) (hn : n ≤ 100000) (hxs : ∀ u ∈ xs, u.oneCell' = true) (hvs : vs.length = 3) (hv1 : ∀ u ∈ vs, u.oneCell' = true)
    (hvb : Blk w vb 67 vs.toArray) (hb : base ≤ w.heap.size) :
    Calls Tryd.prog 21 #[.slice (some ⟨g, o, none⟩) n n, .int .i64 i, .slice (some ⟨vb, 0, none⟩) 1 vc] w (VInsPost base n i (.slice (some ⟨g, o, none⟩) n n) vs xs w) := by
  obtain ⟨r12, hs12⟩ := slice_fromAny 63 v_und v_elem v_size w (some ⟨g, o, none⟩) n n i (by omega)
  obtain ⟨i0, hi0, hz0, hsz0, hby0⟩ := info_parts v_info
  have hgl : g < w.heap.size := hcs.lt
  have hce : ∀ (w' : World), Blk w' g 67 cs → ∀ j u, xs[j]? = some u → w'.cell? ⟨g, o + j, none⟩ = some u := fun w' hk j u hu => (hk.cell (o + j)).trans (hrd j u hu)
  obtain ⟨c', w1, hrun1, hown1, hf1, hz1⟩ := run_zerosO (base := base) (w := w) (g := g) (o := o) (n := i) (cap := n) (xs := xs.take (i * 3)) 63 3 i0 _ .i64 .i64 v_und Tryd.underlying3 hi0 hz0 hsz0 rfl (by decide) (by rw [List.length_take, hxl]; omega) (fun j u hu => by
    rw [List.getElem?_take] at hu
    split at hu
    · exact hce w hcs j u hu
    · cases hu) (k := n + 1 - i) (by omega) (by omega) (by omega) (by rw [hby0]; decide) hb
  rw [show i + (n + 1 - i) = n + 1 by omega] at hrun1 hown1
  have hc' := (ownK_cap hown1).1
  have hvb1 : Blk w1 vb 67 vs.toArray := hf1.blk hvb (fun h => h)
  have hcs1 := hf1.blk hcs (fun h => h)
  have hvlt := hvb.lt
  obtain ⟨w2, hrun2, hown2, hf2⟩ := run_copyIn (w := w1) 63 63 67 v_und v_info1 hown1 (i := i) (m := 1) (by omega) vs (by rw [hvs]) ⟨vb, 0, none⟩ (fun j v hj => by
      rw [Addr.add_lit, Nat.zero_add]
      exact (hvb1.cell j).trans (by simpa using hj)) hv1 (n + 1 - i) (c' - i) 1 vc (by show min _ _ = _; omega)
  have hcs2 := hf2.blk hcs1 (fun e : g = w.heap.size => by omega)
  obtain ⟨w3, hrun3, hown3, hf3⟩ := run_copyIn (w := w2.drew) 63 63 67 v_und v_info1 (show w2.drew.ownsRow base 67 3 (.slice (some ⟨w.heap.size, 0, none⟩) (n + 1) c') (n + 1) _ from hown2) (i := i + 1) (m := n - i) (by omega) (xs.drop (i * 3))
    (by rw [List.length_drop, hxl, Nat.sub_mul]) ⟨g, o + i * 3, none⟩ (fun j v hj => by
      rw [Addr.add_lit]
      rw [List.getElem?_drop] at hj
      show w2.cell? _ = _
      rw [Nat.add_assoc]
      exact hce w2 hcs2 _ _ hj) (fun u hu => hxs u (List.mem_of_mem_drop hu)) (n - i) (c' - (i + 1)) (n - i) (n - i) (by show min _ _ = _; omega)
  rw [putIn_grow hxl (by omega) (by rw [Array.length_toList, size_zeroCells]; rfl) hvs] at hown3
  have hfw : Fr (fun k => some k = Value.ownBlock (.slice (some ⟨g, o, none⟩) n n)) w w3 := (((hf1.trans' hf2 (fun k hk (e : k = w.heap.size) => by omega)).drew).trans' hf3 (fun k hk (e : k = w.heap.size) => by omega)).mono (fun k _ h => h.elim)
  have hfin : VInsPost base n i (.slice (some ⟨g, o, none⟩) n n) vs xs w (.returned (.slice (some ⟨w.heap.size, 0, none⟩) (n + 1) c')) w3 :=
    ⟨_, rfl, hown3, hfw, .inr ⟨_, rfl, Nat.le_refl _⟩⟩
  have hk1 : (n : Int) + 1 - i = ((n + 1 - i : Nat) : Int) := by omega
  have s1 := slice_toO 63 v_und v_elem v_size w g o n n i (i : Int) rfl (by omega)
  have s2 := fun W => slice_fromK 63 v_und v_elem v_size W w.heap.size (n + 1) c' i (i : Int) rfl (by omega) (by omega)
  have s3 := fun W => slice_fromK 63 v_und v_elem v_size W w.heap.size (n + 1) c' (i + 1) ((i : Int) + 1) (by omega) (by omega) (by omega)
  rw [show n + 1 - (i + 1) = n - i by omega] at s3
  have s4 := fun W => slice_fromO 63 v_und v_elem v_size W g o n n i (i : Int) rfl (by omega)
  rw [if_neg (by omega)] at s4
  have HF := Lib.hid hfin; clear hfin hown1 hown2 hown3 hf1 hf2 hf3 hcs hcs1 hcs2 hce hrd hvb hvb1 hi0 hz0 hsz0 hby0 hfw hz1
  have hwi : IntKind.i64.wrap ((i : Int) + 1) = (i : Int) + 1 := IntWalk.i64_in _ (by omega)
  have hwn : IntKind.i64.wrap ((n : Int) + 1) = (n : Int) + 1 := IntWalk.i64_in _ (by omega)
  rw [← hk1] at hrun1
  have HR1 := Lib.hid hrun1; clear hrun1 hk1
  have HR2 := Lib.hid hrun2; clear hrun2
  have HR3 := Lib.hid hrun3; clear hrun3
  have HX1 := Lib.hid hxs; clear hxs
  clear hv1 hvs hxl
  have d1 : ((i : Int) == (n : Int)) = false := by rw [beq_eq_false_iff_ne]; omega
  have d2 : decide ((n : Int) < (n : Int) + 1) = true := by rw [decide_eq_true_eq]; omega
  go_enter Tryd.func21, Tryd.ntmps21
  go_wp2_with (first | (refine wpList_append2_run rfl (.tmp 34) (.tmp 39) 63 3 rfl (.slice (some ⟨g, o, none⟩) i n) (.int .i64 ((n : Int) + 1 - i)) _ rfl rfl (HR1.out _) ?_) | (refine wpList_copy2_run rfl (.tmp 43) (.tmp 44) 63 63 rfl (.slice (some ⟨w.heap.size, i * 3, none⟩) (n + 1 - i) (c' - i)) (.slice (some ⟨vb, 0, none⟩) 1 vc) _ rfl rfl (HR2.out _) ?_))
  refine wp_region_any (by kernel_rfl) ?_
  change wpAny _ _ _ _ _ _ _ (World.drew _)
  refine nplain (fun _ => True) 9 ?_
  have HCC : True := trivial
  refine ntake 0 rfl (by kernel_rfl) (by kernel_rfl) (by kernel_rfl) (by kernel_rfl) (fun _ _ _ h => h) (by kernel_rfl) HCC (fun w' hw' => by go_simp; rfl) ?_
  refine ntake 1 rfl (by kernel_rfl) (by kernel_rfl) (by kernel_rfl) (by kernel_rfl) (fun _ _ _ h => h) (by kernel_rfl) HCC (fun w' hw' => by go_simp; rfl) ?_
  refine ntake 2 rfl (by kernel_rfl) (by kernel_rfl) (by kernel_rfl) (by kernel_rfl) (fun _ _ _ h => h) (by kernel_rfl) HCC (fun w' hw' => by go_simp; rfl) ?_
  refine ntake 3 rfl (by kernel_rfl) (by kernel_rfl) (by kernel_rfl) (by kernel_rfl) (fun _ _ _ h => h) (by kernel_rfl) HCC (fun w' hw' => by go_simp; rfl) ?_
  refine ntake 4 rfl (by kernel_rfl) (by kernel_rfl) (by kernel_rfl) (by kernel_rfl) (fun _ _ _ h => h) (by kernel_rfl) HCC (fun w' hw' => by go_simp; rfl) ?_
  refine ntake 5 rfl (by kernel_rfl) (by kernel_rfl) (by kernel_rfl) (by kernel_rfl) (fun _ _ _ h => h) (by kernel_rfl) HCC (fun w' hw' => by go_simp; rfl) ?_
  refine ntake 6 rfl (by kernel_rfl) (by kernel_rfl) (by kernel_rfl) (by kernel_rfl) (fun _ _ _ h => h) (by kernel_rfl) HCC (fun w' hw' => by go_simp; rfl) ?_
  refine ntake 7 rfl (by kernel_rfl) (by kernel_rfl) (by kernel_rfl) (by kernel_rfl) (fun _ _ _ h => h) (by kernel_rfl) HCC (fun w' hw' => by go_simp; rfl) ?_
  refine nonly 8 (by kernel_rfl) rfl (by kernel_rfl) (fun K hK => ?_)
  refine wp_copy2_run (.tmp 50) (.tmp 53) 63 63 rfl (.slice (some ⟨w.heap.size, (i + 1) * 3, none⟩) (n - i) (c' - (i + 1))) (.slice (some ⟨g, o + i * 3, none⟩) (n - i) (n - i)) _ (by simp [Act.eval, Act.put]) (by simp [Act.eval, Act.put]) (HR3.out _) ?_
  go_simp
  refine hK _ _ (fun _ => HCC) ?_
  clear hK K
  refine ndone (by kernel_rfl) ?_ _
  clear HCC
  go_wp2_with fail
  go_ret
  exact HF.out
set_option maxRecDepth 100000 in
set_option maxHeartbeats 4000000 in
/-- At the end of a piece of a block that has no room: a new row. -/
theorem vins_cutEnd (base g o n vb vc : Nat) (cs : Array Value) (xs vs : List Value) (w : World) (hcs : Blk w g 67 cs) (hxl : xs.length = n * 3) (hrd : ∀ j u, xs[j]? = some u → cs[o + j]? = some u) (hn : n ≤ 100000) (hvs : vs.length = 3)
    (hvb : Blk w vb 67 vs.toArray) (hb : base ≤ w.heap.size) :
    Calls Tryd.prog 21 #[.slice (some ⟨g, o, none⟩) n n, .int .i64 n, .slice (some ⟨vb, 0, none⟩) 1 vc] w (VInsPost base n n (.slice (some ⟨g, o, none⟩) n n) vs xs w) := by
  obtain ⟨r12, hs12⟩ := slice_fromAny 63 v_und v_elem v_size w (some ⟨g, o, none⟩) n n n (Nat.le_refl _)
  obtain ⟨i0, hi0, hz0, hsz0, hby0⟩ := info_parts v_info
  obtain ⟨c', w1, hrun1, hown1, hf1⟩ := run_growO (base := base) (w := w) (g := g) (o := o) (n := n) (cap := n) (xs := xs) 63 i0 _ v_und hi0 hz0 hsz0 rfl hxl (fun j u hu => (hcs.cell (o + j)).trans (hrd j u hu)) vs hvs vb vc (fun j u hu => (hvb.cell j).trans (by simpa using hu)) (by omega) (by omega) (by rw [hby0]; decide) hb
  have hput : putIn 3 n vs xs = xs ++ vs := by
    unfold putIn
    rw [List.take_of_length_le (by rw [hxl]; omega), List.drop_of_length_le (by rw [hxl]; omega), List.append_nil]
  have hfin : VInsPost base n n (.slice (some ⟨g, o, none⟩) n n) vs xs w (.returned (.slice (some ⟨w.heap.size, 0, none⟩) (n + 1) c')) w1 :=
    ⟨_, rfl, by rw [hput]; exact hown1, hf1.mono (fun k _ h => h.elim), .inr ⟨_, rfl, Nat.le_refl _⟩⟩
  have HF := Lib.hid hfin; clear hfin hown1 hf1 hcs hrd hvb hput hi0 hz0 hsz0 hby0
  have HR1 := Lib.hid hrun1; clear hrun1
  clear hxl hvs
  go_enter Tryd.func21, Tryd.ntmps21
  go_wp2_with (refine wpList_append2_run rfl _ _ 63 63 rfl (.slice (some ⟨g, o, none⟩) n n) (.slice (some ⟨vb, 0, none⟩) 1 vc) _ rfl rfl (HR1.out _) ?_)
  go_ret
  exact HF.out
theorem lessV_take (l : List Vx) (t : Int) : lessV l t = l.take (lessV l t).length := by
  unfold lessV
  exact List.prefix_iff_eq_take.1 (List.takeWhile_prefix _)
theorem putIn_ins (l : List Vx) (v : Vx) : putIn 3 (lessV l v.t).length (vxCells v) (l.flatMap vxCells) = (insV l v).flatMap vxCells := by
  unfold putIn insV
  rw [flatV_take, flatV_drop, List.flatMap_append, List.flatMap_cons, ← List.append_assoc, ← lessV_take]
/-- slices.Insert of a version, into whatever a key has. -/
theorem vrow_ins (base vb vc : Nat) (V : Value) (l : List Vx) (v : Vx) (w : World) (hV : VRow w base V l) (hn : l.length ≤ 100000) (hvb : Blk w vb 67 (vxCells v).toArray) (hne : V.ownBlock ≠ some vb) (hb : base ≤ w.heap.size) :
    Calls Tryd.prog 21 #[V, .int .i64 ((lessV l v.t).length : Nat), .slice (some ⟨vb, 0, none⟩) 1 vc] w fun e w' =>
      ∃ V', e = .returned V' ∧ w'.ownsRow base 67 3 V' (insV l v).length ((insV l v).flatMap vxCells) ∧ Moved w w' V.ownBlock V'.ownBlock := by
  have hll : (lessV l v.t).length ≤ l.length := (List.takeWhile_prefix _).length_le
  have hv1 : ∀ u ∈ vxCells v, u.oneCell' = true := fun u hu => flatV_one [v] u (by simpa using hu)
  have hpost : ∀ e w', VInsPost base l.length (lessV l v.t).length V (vxCells v) (l.flatMap vxCells) w e w' → ∃ V', e = .returned V' ∧ w'.ownsRow base 67 3 V' (insV l v).length ((insV l v).flatMap vxCells) ∧ Moved w w' V.ownBlock V'.ownBlock := by
    rintro e w' ⟨V', rfl, h1, h2⟩
    exact ⟨V', rfl, by rw [insV_len, ← putIn_ins]; exact h1, h2⟩
  rcases hV with h | ⟨g, o, cs, rfl, h0, hbg, hm, hk, hc⟩
  · exact (vins_any base l.length (lessV l v.t).length vb vc V (l.flatMap vxCells) (vxCells v) w h hll hn (flatV_one l) rfl hv1 hvb hne hb).mono hpost
  · by_cases e : (lessV l v.t).length = l.length
    · refine Calls.mono ?_ hpost
      rw [e]
      exact vins_cutEnd base g o l.length vb vc cs (l.flatMap vxCells) (vxCells v) w hk (flatV_len l) hc hn rfl hvb hb
    · exact (vins_cut base g o l.length (lessV l v.t).length vb vc cs (l.flatMap vxCells) (vxCells v) w hk (flatV_len l) hc (by omega) hn (flatV_one l) rfl hv1 hvb hb).mono hpost
end Go.Proofs.YtmgpdkecpobcaaaDoor
