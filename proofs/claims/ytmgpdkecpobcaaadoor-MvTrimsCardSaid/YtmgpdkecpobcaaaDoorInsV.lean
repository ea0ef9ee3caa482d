/- slices.Insert of one element: of versions. -/
import Derived.Test.YtmgpdkecpobcaaaDoorRowK
import Derived.Test.YtmgpdkecpobcaaaDoorHeldN
import Derived.Test.YtmgpdkecpobcaaaDoorRows
import Derived.Deep.CutBlock
import Derived.Lib.Hide
namespace Go.Proofs.YtmgpdkecpobcaaaDoor
open Go.RowKit
theorem v_und : Tryd.prog.underlying 63 = some (.slice 67) := Tryd.underlying63
theorem v_elem : Tryd.prog.elem 63 = 67 := by kernel_rfl
theorem v_size (w : World) : (sizeOf 67).run Tryd.prog w = .ok 3 w := by kernel_rfl
theorem v_info : (Tryd.prog.info? 67).map (fun i => (i.zero, i.size, i.bytes)) = some (some (.agg #[.int .i64 0, .string ⟨#[]⟩, .bool false]), 3, 32) := by kernel_rfl
theorem v_info1 : (Tryd.prog.info? 67).map (·.size) = some 3 := by kernel_rfl
def VInsPost (base n i : Nat) (V : Value) (vs xs : List Value) (w : World) (e : Ending) (w' : World) : Prop :=
  ∃ V', e = .returned V' ∧ w'.ownsRow base 67 3 V' (n + 1) (putIn 3 i vs xs) ∧ Moved w w' V.ownBlock V'.ownBlock
theorem v_shape {w : World} {g : Nat} {cs : Array Value} {t : TypeId} (h : w.heap[g]? = some (.cells cs t (0, 0))) : w.shape? g = some (t, cs.size) := by
  unfold World.shape?; rw [h]
theorem v_frozen {w : World} {g o : Nat} {cs : Array Value} {t : TypeId} (h : w.heap[g]? = some (.cells cs t (0, 0))) : w.frozen? ⟨g, o, none⟩ = false := Blk.frozen (show Blk w g t cs from h) o
set_option maxRecDepth 100000 in
set_option maxHeartbeats 4000000 in
/-- At the end. -/
theorem vins_end (base n vb vc : Nat) (V : Value) (xs vs : List Value) (w : World) (hrow : w.ownsRow base 67 3 V n xs) (hn : n ≤ 100000) (hvs : vs.length = 3) (hv1 : ∀ u ∈ vs, u.oneCell' = true)
    (hvb : Blk w vb 67 vs.toArray) (hb : base ≤ w.heap.size) :
    Calls Tryd.prog 21 #[V, .int .i64 n, .slice (some ⟨vb, 0, none⟩) 1 vc] w (VInsPost base n n V vs xs w) := by
  obtain ⟨A, c, rfl, hnc, _⟩ := own_slice hrow
  obtain ⟨r12, hs12⟩ := slice_fromAny 63 v_und v_elem v_size w A n c n (Nat.le_refl _)
  have hrd : Reads w w.heap.size 3 (some ⟨vb, 0, none⟩) 1 vs := ⟨by rw [hvs], fun _ => ⟨_, rfl, hvb.lt, fun j u hu => by
    rw [Addr.add_lit, Nat.zero_add]
    exact (hvb.cell j).trans (by simpa using hu)⟩⟩
  have hput : putIn 3 n vs xs = xs ++ vs := by
    unfold putIn
    rw [List.take_of_length_le (by rw [hrow.1]; omega), List.drop_of_length_le (by rw [hrow.1]; omega), List.append_nil]
  have HROW := Lib.hid hrow; clear hrow
  have HRD := Lib.hid hrd; clear hrd
  have HPUT := Lib.hid hput; clear hput
  have HV1 := Lib.hid hv1; clear hv1
  clear hvb hvs
  go_enter Tryd.func21, Tryd.ntmps21
  go_wp2_with (at_builtin; refine wpList_appendR w rfl _ _ 63 rfl base 67 _ 3 32 v_und v_info rfl (by decide) _ n xs rfl HROW.out _ _ 1 vc vs rfl HRD.out HV1.out (by unfold maxLen; omega) (by omega) hb ?_; intro V2 w2 ho2 hm2)
  have hfin : VInsPost base n n (.slice A n c) vs xs w (.returned V2) w2 := ⟨V2, rfl, by rw [HPUT.out]; exact ho2, hm2⟩
  have HF := Lib.hid hfin; clear hfin ho2 hm2
  go_wp2_with fail
  go_ret
  exact HF.out
set_option maxRecDepth 100000 in
set_option maxHeartbeats 4000000 in
/-- Ahead of one that is there; there is room. -/
theorem vins_shift (base g n c i vb vc : Nat) (xs vs : List Value) (w : World) (hrow : w.ownsRow base 67 3 (.slice (some ⟨g, 0, none⟩) n c) n xs) (hi : i < n) (hroom : n + 1 ≤ c) (hn : n ≤ 100000) (hxs : ∀ u ∈ xs, u.oneCell' = true) (hvs : vs.length = 3) (hv1 : ∀ u ∈ vs, u.oneCell' = true)
    (hvb : Blk w vb 67 vs.toArray) (hne : vb ≠ g) (hb : base ≤ w.heap.size) :
    Calls Tryd.prog 21 #[.slice (some ⟨g, 0, none⟩) n c, .int .i64 i, .slice (some ⟨vb, 0, none⟩) 1 vc] w (VInsPost base n i (.slice (some ⟨g, 0, none⟩) n c) vs xs w) := by
  obtain ⟨r12, hs12⟩ := slice_fromAny 63 v_und v_elem v_size w (some ⟨g, 0, none⟩) n c i (by omega)
  obtain ⟨ex, hex, hown1⟩ := ownK_more hrow hroom
  obtain ⟨cur, q1, hg, q2, q3, hcs, q4⟩ := ownK_open hrow
  clear q1 q2 q3 q4
  have hcur : cur.size ≠ 0 := by rw [hcs]; have : 0 < c * 3 := Nat.mul_pos (by omega) (by decide); omega
  have hov : ∀ lb cb, (callFunc 29 #[.slice (some ⟨vb, 0, none⟩) 1 vc, .slice (some ⟨g, (i + 1) * 3, none⟩) lb cb]).run Tryd.prog w = .ok (.value (.bool false)) w := fun lb cb => by
    rw [run_callFunc_extern Tryd.func29 (by kernel_rfl) (by kernel_rfl) (by kernel_rfl) (e := Extern.SlicesOverlaps.overlaps #[63, 63] #[4]) (by kernel_rfl),
      Lib.run_overlaps_apart w 63 4 67 v_und 3 v_size ⟨vb, 0, none⟩ ⟨g, (i + 1) * 3, none⟩ 1 vc lb cb hne _ _ _ _ (v_shape hvb) (v_shape hg) hcur (v_frozen hvb) (v_frozen hvb)]
    rfl
  have hxl := hrow.1
  obtain ⟨w2, hrun2, hown2, hf2⟩ := run_copyIn (w := w.drew) 63 63 67 v_und v_info1 (show w.drew.ownsRow base 67 3 (.slice (some ⟨g, 0, none⟩) (n + 1) c) (n + 1) (xs ++ ex) from hown1) (i := i + 1) (m := n - i) (by omega) (xs.drop (i * 3))
    (by rw [List.length_drop, hxl, Nat.sub_mul]) ⟨g, i * 3, none⟩ (fun j v hj => by
      rw [Addr.add_lit]
      rw [List.getElem?_drop] at hj
      have hjl : i * 3 + j < n * 3 := by rw [← hxl]; exact (List.getElem?_eq_some_iff.1 hj).1
      show w.cell? _ = _
      exact (hrow.cellAt _ hjl).trans hj) (fun u hu => hxs u (List.mem_of_mem_drop hu)) (n - i) (c - (i + 1)) (n + 1 - i) (c - i) (by show min _ _ = _; omega)
  have hf2w : Fr (fun k => k = g) w w2 := (Fr.refl _ w).drew.trans hf2
  have hvb2 : Blk w2 vb 67 vs.toArray := hf2w.blk hvb hne
  obtain ⟨w3, hrun3, hown3, hf3⟩ := run_copyIn (w := w2) 63 63 67 v_und v_info1 hown2 (i := i) (m := 1) (by omega) vs (by rw [hvs]) ⟨vb, 0, none⟩ (fun j v hj => by
      rw [Addr.add_lit, Nat.zero_add]
      exact (hvb2.cell j).trans (by simpa using hj)) hv1 (n + 1 - i) (c - i) 1 vc (by show min _ _ = _; omega)
  have hcap := (ownK_cap hrow).2
  rw [putIn_shift hxl hi hex] at hown3
  have hfin : VInsPost base n i (.slice (some ⟨g, 0, none⟩) n c) vs xs w (.returned (.slice (some ⟨g, 0, none⟩) (n + 1) c)) w3 :=
    ⟨_, rfl, hown3, (hf2w.trans hf3).mono (fun k _ h => by rw [h]; rfl), .inl rfl⟩
  have s1 := slice_toK 63 v_und v_elem v_size w g n c (n + 1) ((n : Int) + 1) (by omega) hroom
  have s2 := fun W => slice_fromK 63 v_und v_elem v_size W g (n + 1) c (i + 1) ((i : Int) + 1) (by omega) (by omega) (by omega)
  rw [show n + 1 - (i + 1) = n - i by omega] at s2
  have s3 := fun W => slice_fromK 63 v_und v_elem v_size W g (n + 1) c i (i : Int) rfl (by omega) (by omega)
  have HF := Lib.hid hfin; clear hfin hown1 hown2 hown3 hf2 hf3 hf2w hrow hvb hvb2 hg hcs hcur hex
  have hwi : IntKind.i64.wrap ((i : Int) + 1) = (i : Int) + 1 := IntWalk.i64_in _ (by omega)
  have hwn : IntKind.i64.wrap ((n : Int) + 1) = (n : Int) + 1 := IntWalk.i64_in _ (by omega)
  have HR2 := Lib.hid hrun2; clear hrun2
  have HR3 := Lib.hid hrun3; clear hrun3
  have HX1 := Lib.hid hxs; clear hxs
  clear hv1 hvs hxl
  have d1 : ((i : Int) == (n : Int)) = false := by rw [beq_eq_false_iff_ne]; omega
  have d2 : decide ((c : Int) < (n : Int) + 1) = false := by rw [decide_eq_false_iff_not]; omega
  go_enter Tryd.func21, Tryd.ntmps21
  go_wp2_with (simp only [hov])
  refine wp_region_any (by kernel_rfl) ?_
  change wpAny _ _ _ _ _ _ _ (World.drew _)
  refine nplain (fun _ => True) 9 ?_
  have HCC : True := trivial
  refine ntake 0 rfl (by kernel_rfl) (by kernel_rfl) (by kernel_rfl) (by kernel_rfl) (fun _ _ _ h => h) (by kernel_rfl) HCC (fun w' hw' => by go_simp; rfl) ?_
  refine ntake 1 rfl (by kernel_rfl) (by kernel_rfl) (by kernel_rfl) (by kernel_rfl) (fun _ _ _ h => h) (by kernel_rfl) HCC (fun w' hw' => by go_simp; rfl) ?_
  refine ntake 2 rfl (by kernel_rfl) (by kernel_rfl) (by kernel_rfl) (by kernel_rfl) (fun _ _ _ h => h) (by kernel_rfl) HCC (fun w' hw' => by go_simp; rfl) ?_
  refine ntake 3 rfl (by kernel_rfl) (by kernel_rfl) (by kernel_rfl) (by kernel_rfl) (fun _ _ _ h => h) (by kernel_rfl) HCC (fun w' hw' => by go_simp; rfl) ?_
  refine ntake 4 rfl (by kernel_rfl) (by kernel_rfl) (by kernel_rfl) (by kernel_rfl) (fun _ _ _ h => h) (by kernel_rfl) HCC (fun w' hw' => by go_simp; rfl) ?_
  refine ntake 5 rfl (by kernel_rfl) (by kernel_rfl) (by kernel_rfl) (by kernel_rfl) (fun _ _ _ h => h) (by kernel_rfl) HCC (fun w' hw' => by go_simp; rfl) ?_
  refine ntake 6 rfl (by kernel_rfl) (by kernel_rfl) (by kernel_rfl) (by kernel_rfl) (fun _ _ _ h => h) (by kernel_rfl) HCC (fun w' hw' => by go_simp; rfl) ?_
  refine ntake 7 rfl (by kernel_rfl) (by kernel_rfl) (by kernel_rfl) (by kernel_rfl) (fun _ _ _ h => h) (by kernel_rfl) HCC (fun w' hw' => by go_simp; rfl) ?_
  refine nonly 8 (by kernel_rfl) rfl (by kernel_rfl) (fun K hK => ?_)
  refine wp_copy2_run (.tmp 73) (.tmp 76) 63 63 rfl (.slice (some ⟨g, (i + 1) * 3, none⟩) (n - i) (c - (i + 1))) (.slice (some ⟨g, i * 3, none⟩) (n + 1 - i) (c - i)) _ (by simp [Act.eval, Act.put]) (by simp [Act.eval, Act.put]) (HR2.out _) ?_
  go_simp
  refine hK _ _ (fun _ => HCC) ?_
  clear hK K
  refine ndone (by kernel_rfl) ?_ _
  clear HCC
  go_wp2_with (refine wpList_copy2_run rfl (.tmp 80) (.tmp 81) 63 63 rfl (.slice (some ⟨g, i * 3, none⟩) (n + 1 - i) (c - i)) (.slice (some ⟨vb, 0, none⟩) 1 vc) _ rfl rfl (HR3.out _) ?_)
  go_ret
  exact HF.out
set_option maxRecDepth 100000 in
set_option maxHeartbeats 4000000 in
/-- Ahead of one that is there; there is no room. -/
theorem vins_grow (base g n c i vb vc : Nat) (xs vs : List Value) (w : World) (hrow : w.ownsRow base 67 3 (.slice (some ⟨g, 0, none⟩) n c) n xs) (hi : i < n) (hroom : c < n + 1) (hn : n ≤ 100000) (hxs : ∀ u ∈ xs, u.oneCell' = true) (hvs : vs.length = 3) (hv1 : ∀ u ∈ vs, u.oneCell' = true)
    (hvb : Blk w vb 67 vs.toArray) (hb : base ≤ w.heap.size) :
    Calls Tryd.prog 21 #[.slice (some ⟨g, 0, none⟩) n c, .int .i64 i, .slice (some ⟨vb, 0, none⟩) 1 vc] w (VInsPost base n i (.slice (some ⟨g, 0, none⟩) n c) vs xs w) := by
  obtain ⟨r12, hs12⟩ := slice_fromAny 63 v_und v_elem v_size w (some ⟨g, 0, none⟩) n c i (by omega)
  have hc := ownK_cap hrow
  have hxl := hrow.1
  obtain ⟨i0, hi0, hz0, hsz0, hby0⟩ := info_parts v_info
  have hgl : g < w.heap.size := (hrow.lt g rfl).2
  obtain ⟨c', w1, hrun1, hown1, hf1, hz1⟩ := run_zerosK (w := w) 63 3 i0 _ .i64 .i64 v_und Tryd.underlying3 hi0 hz0 hsz0 rfl (by decide) (ownK_prefix hrow (i := i) (by omega)) (k := n + 1 - i) (by omega) (by omega) (by omega) (by rw [hby0]; decide) (fun u hu => hxs u (List.mem_of_mem_take hu)) hb
  rw [show i + (n + 1 - i) = n + 1 by omega] at hrun1 hown1
  have hc' := (ownK_cap hown1).1
  have hvb1 : Blk w1 vb 67 vs.toArray := hf1.blk hvb (fun h => h)
  have hrow1 := hf1.own hrow (fun _ _ h => h)
  have hvlt := hvb.lt
  obtain ⟨w2, hrun2, hown2, hf2⟩ := run_copyIn (w := w1) 63 63 67 v_und v_info1 hown1 (i := i) (m := 1) (by omega) vs (by rw [hvs]) ⟨vb, 0, none⟩ (fun j v hj => by
      rw [Addr.add_lit, Nat.zero_add]
      exact (hvb1.cell j).trans (by simpa using hj)) hv1 (n + 1 - i) (c' - i) 1 vc (by show min _ _ = _; omega)
  have hrow2 := hf2.own hrow1 (fun k hk e => by have : g = k := by simpa [Value.ownBlock] using hk
                                                omega)
  obtain ⟨w3, hrun3, hown3, hf3⟩ := run_copyIn (w := w2.drew) 63 63 67 v_und v_info1 (show w2.drew.ownsRow base 67 3 (.slice (some ⟨w.heap.size, 0, none⟩) (n + 1) c') (n + 1) _ from hown2) (i := i + 1) (m := n - i) (by omega) (xs.drop (i * 3))
    (by rw [List.length_drop, hxl, Nat.sub_mul]) ⟨g, i * 3, none⟩ (fun j v hj => by
      rw [Addr.add_lit]
      rw [List.getElem?_drop] at hj
      have hjl : i * 3 + j < n * 3 := by rw [← hxl]; exact (List.getElem?_eq_some_iff.1 hj).1
      show w2.cell? _ = _
      exact (hrow2.cellAt _ hjl).trans hj) (fun u hu => hxs u (List.mem_of_mem_drop hu)) (n - i) (c' - (i + 1)) (n - i) (c - i) (by show min _ _ = _; omega)
  rw [putIn_grow hxl (by omega) (by rw [Array.length_toList, size_zeroCells]; rfl) hvs] at hown3
  have hfw : Fr (fun k => some k = Value.ownBlock (.slice (some ⟨g, 0, none⟩) n c)) w w3 := (((hf1.trans' hf2 (fun k hk (e : k = w.heap.size) => by omega)).drew).trans' hf3 (fun k hk (e : k = w.heap.size) => by omega)).mono (fun k _ h => h.elim)
  have hfin : VInsPost base n i (.slice (some ⟨g, 0, none⟩) n c) vs xs w (.returned (.slice (some ⟨w.heap.size, 0, none⟩) (n + 1) c')) w3 :=
    ⟨_, rfl, hown3, hfw, .inr ⟨_, rfl, Nat.le_refl _⟩⟩
  have hk1 : (n : Int) + 1 - i = ((n + 1 - i : Nat) : Int) := by omega
  have s1 := slice_toK 63 v_und v_elem v_size w g n c i (i : Int) rfl (by omega)
  have s2 := fun W => slice_fromK 63 v_und v_elem v_size W w.heap.size (n + 1) c' i (i : Int) rfl (by omega) (by omega)
  have s3 := fun W => slice_fromK 63 v_und v_elem v_size W w.heap.size (n + 1) c' (i + 1) ((i : Int) + 1) (by omega) (by omega) (by omega)
  rw [show n + 1 - (i + 1) = n - i by omega] at s3
  have s4 := fun W => slice_fromK 63 v_und v_elem v_size W g n c i (i : Int) rfl (by omega) (by omega)
  have HF := Lib.hid hfin; clear hfin hown1 hown2 hown3 hf1 hf2 hf3 hrow hrow1 hrow2 hvb hvb1 hi0 hz0 hsz0 hby0 hfw hz1
  have hwi : IntKind.i64.wrap ((i : Int) + 1) = (i : Int) + 1 := IntWalk.i64_in _ (by omega)
  have hwn : IntKind.i64.wrap ((n : Int) + 1) = (n : Int) + 1 := IntWalk.i64_in _ (by omega)
  rw [← hk1] at hrun1
  have HR1 := Lib.hid hrun1; clear hrun1 hk1
  have HR2 := Lib.hid hrun2; clear hrun2
  have HR3 := Lib.hid hrun3; clear hrun3
  have HX1 := Lib.hid hxs; clear hxs
  clear hv1 hvs hxl
  have d1 : ((i : Int) == (n : Int)) = false := by rw [beq_eq_false_iff_ne]; omega
  have d2 : decide ((c : Int) < (n : Int) + 1) = true := by rw [decide_eq_true_eq]; omega
  go_enter Tryd.func21, Tryd.ntmps21
  go_wp2_with (first | (refine wpList_append2_run rfl (.tmp 34) (.tmp 39) 63 3 rfl (.slice (some ⟨g, 0, none⟩) i c) (.int .i64 ((n : Int) + 1 - i)) _ rfl rfl (HR1.out _) ?_) | (refine wpList_copy2_run rfl (.tmp 43) (.tmp 44) 63 63 rfl (.slice (some ⟨w.heap.size, i * 3, none⟩) (n + 1 - i) (c' - i)) (.slice (some ⟨vb, 0, none⟩) 1 vc) _ rfl rfl (HR2.out _) ?_))
  refine wp_region_any (by kernel_rfl) ?_
  change wpAny _ _ _ _ _ _ _ (World.drew _)
  refine nplain (fun _ => True) 9 ?_
  have HCC : True := trivial
  refine ntake 0 rfl (by kernel_rfl) (by kernel_rfl) (by kernel_rfl) (by kernel_rfl) (fun _ _ _ h => h) (by kernel_rfl) HCC (fun w' hw' => by go_simp; rfl) ?_
  refine ntake 1 rfl (by kernel_rfl) (by kernel_rfl) (by kernel_rfl) (by kernel_rfl) (fun _ _ _ h => h) (by kernel_rfl) HCC (fun w' hw' => by go_simp; rfl) ?_
  refine ntake 2 rfl (by kernel_rfl) (by kernel_rfl) (by kernel_rfl) (by kernel_rfl) (fun _ _ _ h => h) (by kernel_rfl) HCC (fun w' hw' => by go_simp; rfl) ?_
  refine ntake 3 rfl (by kernel_rfl) (by kernel_rfl) (by kernel_rfl) (by kernel_rfl) (fun _ _ _ h => h) (by kernel_rfl) HCC (fun w' hw' => by go_simp; rfl) ?_
  refine ntake 4 rfl (by kernel_rfl) (by kernel_rfl) (by kernel_rfl) (by kernel_rfl) (fun _ _ _ h => h) (by kernel_rfl) HCC (fun w' hw' => by go_simp; rfl) ?_
  refine ntake 5 rfl (by kernel_rfl) (by kernel_rfl) (by kernel_rfl) (by kernel_rfl) (fun _ _ _ h => h) (by kernel_rfl) HCC (fun w' hw' => by go_simp; rfl) ?_
  refine ntake 6 rfl (by kernel_rfl) (by kernel_rfl) (by kernel_rfl) (by kernel_rfl) (fun _ _ _ h => h) (by kernel_rfl) HCC (fun w' hw' => by go_simp; rfl) ?_
  refine ntake 7 rfl (by kernel_rfl) (by kernel_rfl) (by kernel_rfl) (by kernel_rfl) (fun _ _ _ h => h) (by kernel_rfl) HCC (fun w' hw' => by go_simp; rfl) ?_
  refine nonly 8 (by kernel_rfl) rfl (by kernel_rfl) (fun K hK => ?_)
  refine wp_copy2_run (.tmp 50) (.tmp 53) 63 63 rfl (.slice (some ⟨w.heap.size, (i + 1) * 3, none⟩) (n - i) (c' - (i + 1))) (.slice (some ⟨g, i * 3, none⟩) (n - i) (c - i)) _ (by simp [Act.eval, Act.put]) (by simp [Act.eval, Act.put]) (HR3.out _) ?_
  go_simp
  refine hK _ _ (fun _ => HCC) ?_
  clear hK K
  refine ndone (by kernel_rfl) ?_ _
  clear HCC
  go_wp2_with fail
  go_ret
  exact HF.out
/-- slices.Insert of one. -/
theorem vins_any (base n i vb vc : Nat) (V : Value) (xs vs : List Value) (w : World) (hrow : w.ownsRow base 67 3 V n xs) (hi : i ≤ n) (hn : n ≤ 100000) (hxs : ∀ u ∈ xs, u.oneCell' = true) (hvs : vs.length = 3) (hv1 : ∀ u ∈ vs, u.oneCell' = true)
    (hvb : Blk w vb 67 vs.toArray) (hne : V.ownBlock ≠ some vb) (hb : base ≤ w.heap.size) :
    Calls Tryd.prog 21 #[V, .int .i64 i, .slice (some ⟨vb, 0, none⟩) 1 vc] w (VInsPost base n i V vs xs w) := by
  by_cases e : i = n
  · subst e
    exact vins_end base i vb vc V xs vs w hrow hn hvs hv1 hvb hb
  · rcases hrow.2 with ⟨rfl, h0⟩ | ⟨g, c, cur, rfl, _, _, hnc, _⟩
    · omega
    · by_cases h : n + 1 ≤ c
      · exact vins_shift base g n c i vb vc xs vs w hrow (by omega) h hn hxs hvs hv1 hvb (fun e => hne (by rw [e]; rfl)) hb
      · exact vins_grow base g n c i vb vc xs vs w hrow (by omega) (by omega) hn hxs hvs hv1 hvb hb
end Go.Proofs.YtmgpdkecpobcaaaDoor
