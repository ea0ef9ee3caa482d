/- The document's net: Take. -/
import Derived.Test.YtnahkpfamocnfaaDoorRefNet1
import Derived.IntWalk
namespace Go.Proofs.YtnahkpfamocnfaaDoor
open Go.RowKit
/-- What is behind the first k. -/
theorem rd_skip {w : World} {base e size g n cap k : Nat} {xs : List Value} (h : w.ownsRow base e size (.slice (some ⟨g, 0, none⟩) n cap) n xs) (hk : k ≤ n) : Rd w w.heap.size size (skipA g k cap size) (n - k) (xs.drop (k * size)) := by
  obtain ⟨o, ho, ho2⟩ := skipA_some g k cap size
  have hc := (own_cap h).1
  refine ⟨by rw [List.length_drop, h.1, Nat.sub_mul], fun h0 => ⟨g, o, ho, (h.lt g rfl).2, fun j u hu => ?_⟩⟩
  have hj : j < (xs.drop (k * size)).length := (List.getElem?_eq_some_iff.1 hu).1
  rw [List.length_drop, h.1] at hj
  rw [ho2 (by omega), h.cellAt]
  · rw [← hu, List.getElem?_drop]
  · omega
def RTakeNo (w : World) (e : Ending) (w' : World) : Prop := e = .returned (.tuple #[mrV zmr, .bool false]) ∧ Below w.heap.size w w'
def RTakeYes (base h : Nat) (VL VD : Value) (L : List MsR) (dl : List Int) (lost : Int) (k : Nat) (w : World) (e : Ending) (w' : World) : Prop :=
  ∃ VL' x b, L[k]? = some x ∧ e = .returned (.tuple #[mrV x, .bool true]) ∧ RefI w' base h VL' VD (L.eraseIdx k) dl lost ∧ Fr (RefB h VL VD) w w' ∧ VL'.ownBlock = some b ∧ w.heap.size ≤ b
set_option maxRecDepth 100000 in
set_option maxHeartbeats 1000000 in
theorem rtake_no (base h : Nat) (VL VD : Value) (L : List MsR) (dl : List Int) (lost k : Int) (w : World) (hI : RefI w base h VL VD L dl lost) (hk : k < 0 ∨ (L.length : Int) ≤ k) :
    Calls Tryd.prog 26 #[.pointer (some ⟨h, 0, none⟩), .int .i64 k] w (RTakeNo w) := by
  obtain ⟨A', c', hV', hc', hA'⟩ := own_slice hI.rowL
  have hfr : Fr (fun _ => False) w (w.alloc (.cells (msgCells zmr.m none 0 0) 26)) := (Fr.refl _ _).alloc _
  have hb := hfr.blk hI.blk (fun h => h)
  have c0 := hb.cell 0
  simp only [List.getElem?_toArray, List.getElem?_cons_zero] at c0
  rw [hV'] at c0
  have hB : Blk (w.alloc (.cells (msgCells zmr.m none 0 0) 26)) w.heap.size 26 (msgCells zmr.m none 0 0) := Blk.new w _ _
  have HB := Lib.hid hB; clear hB
  have hbl : Below w.heap.size w (w.alloc (.cells (msgCells zmr.m none 0 0) 26)) := (Below.refl _ _).alloc (Nat.le_refl _) _
  have HBL := Lib.hid hbl; clear hbl hb hfr hI
  unfold msgCells zmr at *
  by_cases h0 : k < 0
  · clear hk
    go_enter Tryd.func26, Tryd.ntmps26
    go_wp2_with fail
    refine bodyPost_ret (ret_mr rfl _ _ w.heap.size zmr rfl ?_) rfl ?_
    · exact HB.out
    · exact ⟨rfl, HBL.out⟩
  · have h1 : (L.length : Int) ≤ k := by omega
    clear hk
    go_enter Tryd.func26, Tryd.ntmps26
    go_wp2_with fail
    refine bodyPost_ret (ret_mr rfl _ _ w.heap.size zmr rfl ?_) rfl ?_
    · exact HB.out
    · exact ⟨rfl, HBL.out⟩
set_option maxRecDepth 100000 in
set_option maxHeartbeats 4000000 in
theorem rtake_yes (base h : Nat) (VL VD : Value) (L : List MsR) (dl : List Int) (lost : Int) (k : Nat) (w : World) (hI : RefI w base h VL VD L dl lost) (hne : ∀ b, VD.ownBlock = some b → VL.ownBlock ≠ some b) (hk : k < L.length) :
    Calls Tryd.prog 26 #[.pointer (some ⟨h, 0, none⟩), .int .i64 k] w (RTakeYes base h VL VD L dl lost k w) := by
  obtain ⟨gv, cap, hV, hbv, hlv⟩ := own_at hI.rowL (by omega)
  have hrow0 : w.ownsRow base 26 9 (.slice (some ⟨gv, 0, none⟩) L.length cap) L.length (L.flatMap mrCells) := by rw [← hV]; exact hI.rowL
  obtain ⟨g', o', x, hA, _, hx, h0, h1, h2, h3, h4, h5, h6, h7, h8⟩ := (Rd.of_own hrow0).cells9 rfl hk
  simp only [Option.some.injEq, Addr.mk.injEq, and_true] at hA
  obtain ⟨rfl, rfl⟩ := hA
  rw [Nat.zero_add] at h0 h1 h2 h3 h4 h5 h6 h7 h8
  have c0 := hI.blk.cell 0
  simp only [List.getElem?_toArray, List.getElem?_cons_zero] at c0
  rw [hV] at c0
  have hlen := hI.len
  have hhl := hI.blk.lt
  have hw2 : Fr (fun _ => False) w ((w.alloc (.cells (msgCells zmr.m none 0 0) 26)).alloc (.cells (msgCells x.m x.A x.n x.k) 26)) := ((Fr.refl _ _).alloc _).alloc _
  have hba : Blk ((w.alloc (.cells (msgCells zmr.m none 0 0) 26)).alloc (.cells (msgCells x.m x.A x.n x.k) 26)) w.heap.size 26 (msgCells zmr.m none 0 0) := (Blk.new w _ _).alloc _
  have hbb : Blk ((w.alloc (.cells (msgCells zmr.m none 0 0) 26)).alloc (.cells (msgCells x.m x.A x.n x.k) 26)) (w.heap.size + 1) 26 (msgCells x.m x.A x.n x.k) := by
    have := Blk.new (w.alloc (.cells (msgCells zmr.m none 0 0) 26)) 26 (msgCells x.m x.A x.n x.k)
    simpa using this
  have hI2 := hI.fr hw2 (fun h => h) (fun _ _ h => h) (fun _ _ h => h) (fun _ _ h => h)
  have HNE := Lib.hid hne; clear hne
  have HX := Lib.hid hx; clear hx
  have HV := Lib.hid hV; clear hV hrow0 hI
  unfold msgCells zmr at hw2 hba hbb hI2
  generalize hw2e : ((w.alloc (.cells #[.int .i64 0, .int .i64 0, .int .i64 0, .int .i64 0, .int .i64 0, .int .i64 0, .int .i64 0, .int .i64 0, .slice none 0 0] 26)).alloc (.cells #[.int .i64 x.m.kind, .int .i64 x.m.from_, .int .i64 x.m.to_, .int .i64 x.m.epoch, .int .i64 x.m.n, .int .i64 x.m.cmd.kind, .int .i64 x.m.cmd.tx, .int .i64 x.m.cmd.time, .slice x.A x.n x.k] 26)) = w2 at *
  have d0 := hI2.blk.cell 0
  simp only [List.getElem?_toArray, List.getElem?_cons_zero] at d0
  rw [HV.out] at d0
  have hz2 := hw2.size
  have hhl2 := hI2.blk.lt
  have HI2 := Lib.hid hI2; clear hI2
  have HA := Lib.hid hba; clear hba
  have HB := Lib.hid hbb; clear hbb
  have HW2 := Lib.hid hw2; clear hw2
  have hkl : (k : Int) < L.length := by omega
  have hk0 : ¬ (k : Int) < 0 := by omega
  have hkge : ¬ (k : Int) ≥ L.length := by omega
  go_enter Tryd.func26, Tryd.ntmps26
  go_wp2_with fail
  clear hw2e h0 h1 h2 h3 h4 h5 h6 h7 h8 c0
  have s1 := fun w => slice_toG (size := 9) 68 und_msgs size_msg w gv L.length cap k (k : Int) rfl (by have := (own_cap (by rw [← HV.out]; exact HI2.out.rowL : w2.ownsRow base 26 9 (.slice (some ⟨gv, 0, none⟩) L.length cap) L.length (L.flatMap mrCells))).1; omega)
  have s2 := fun w => slice_fromG (size := 9) 68 und_msgs size_msg w gv L.length cap (k + 1) ((k : Int) + 1) (by omega) (by omega)
  have hwr : IntKind.i64.wrap ((k : Int) + 1) = (k : Int) + 1 := IntWalk.i64_in _ ⟨by omega, by omega⟩
  refine wp_region_any (by kernel_rfl) ?_
  change wpAny _ _ _ _ _ _ _ (World.drew _)
  refine nplain (fun w' => w'.cell? ⟨h, 0, none⟩ = some (.slice (some ⟨gv, 0, none⟩) L.length cap)) 17 ?_
  have HCC := d0
  refine ntake 0 rfl (by kernel_rfl) (by kernel_rfl) (by kernel_rfl) (by kernel_rfl) (fun _ _ _ h => h) (by kernel_rfl) HCC (fun w' hw' => by go_simp; rfl) ?_
  refine ntake 2 rfl (by kernel_rfl) (by kernel_rfl) (by kernel_rfl) (by kernel_rfl) (fun _ _ _ h => h) (by kernel_rfl) HCC (fun w' hw' => by go_simp; rfl) ?_
  refine ntake 3 rfl (by kernel_rfl) (by kernel_rfl) (by kernel_rfl) (by kernel_rfl) (fun _ _ _ h => h) (by kernel_rfl) HCC (fun w' hw' => by go_simp; rfl) ?_
  refine ntake 4 rfl (by kernel_rfl) (by kernel_rfl) (by kernel_rfl) (by kernel_rfl) (fun _ _ _ h => h) (by kernel_rfl) HCC (fun w' hw' => by go_simp; rfl) ?_
  refine ntake 5 rfl (by kernel_rfl) (by kernel_rfl) (by kernel_rfl) (by kernel_rfl) (fun _ _ _ h => h) (by kernel_rfl) HCC (fun w' hw' => by go_simp; rfl) ?_
  refine ntake 6 rfl (by kernel_rfl) (by kernel_rfl) (by kernel_rfl) (by kernel_rfl) (fun _ _ _ h => h) (by kernel_rfl) HCC (fun w' hw' => by go_simp; rfl) ?_
  refine ntake 7 rfl (by kernel_rfl) (by kernel_rfl) (by kernel_rfl) (by kernel_rfl) (fun _ _ _ h => h) (by kernel_rfl) HCC (fun w' hw' => by have := s1 w'; go_simp; rfl) ?_
  refine ntake 9 rfl (by kernel_rfl) (by kernel_rfl) (by kernel_rfl) (by kernel_rfl) (fun _ _ _ h => h) (by kernel_rfl) HCC (fun w' hw' => by go_simp; rfl) ?_
  refine ntake 10 rfl (by kernel_rfl) (by kernel_rfl) (by kernel_rfl) (by kernel_rfl) (fun _ _ _ h => h) (by kernel_rfl) HCC (fun w' hw' => by go_simp; rfl) ?_
  refine ntake 11 rfl (by kernel_rfl) (by kernel_rfl) (by kernel_rfl) (by kernel_rfl) (fun _ _ _ h => h) (by kernel_rfl) HCC (fun w' hw' => by go_simp; rfl) ?_
  refine ntake 12 rfl (by kernel_rfl) (by kernel_rfl) (by kernel_rfl) (by kernel_rfl) (fun _ _ _ h => h) (by kernel_rfl) HCC (fun w' hw' => by go_simp; rfl) ?_
  refine ntake 13 rfl (by kernel_rfl) (by kernel_rfl) (by kernel_rfl) (by kernel_rfl) (fun _ _ _ h => h) (by kernel_rfl) HCC (fun w' hw' => by go_simp; rfl) ?_
  refine ntake 14 rfl (by kernel_rfl) (by kernel_rfl) (by kernel_rfl) (by kernel_rfl) (fun _ _ _ h => h) (by kernel_rfl) HCC (fun w' hw' => by go_simp; rfl) ?_
  refine ntake 15 rfl (by kernel_rfl) (by kernel_rfl) (by kernel_rfl) (by kernel_rfl) (fun _ _ _ h => h) (by kernel_rfl) HCC (fun w' hw' => by have := s2 w'; go_simp; rfl) ?_
  clear s1 s2 hwr
  have hC2 : ∀ o, (w2.alloc o).cell? ⟨h, 0, none⟩ = some (.slice (some ⟨gv, 0, none⟩) L.length cap) := fun o => (World.cell?_alloc_lt w2 o ⟨h, 0, none⟩ hhl2).trans d0
  refine nonly 1 (by kernel_rfl) rfl (by kernel_rfl) (fun K hK => ?_)
  go_simp
  refine hK _ _ (fun _ => hC2 _) ?_
  clear hK K HCC
  have hI3 : RefI (w2.alloc (.cells #[] 26)) base h VL VD L dl lost := HI2.out.fr ((Fr.refl (fun _ => False) _).alloc _) (fun h => h) (fun _ _ h => h) (fun _ _ h => h) (fun _ _ h => h)
  have hrow3 : (w2.alloc (.cells #[] 26)).ownsRow base 26 9 (.slice (some ⟨gv, 0, none⟩) L.length cap) L.length (L.flatMap mrCells) := by rw [← HV.out]; exact hI3.rowL
  have HI3 := Lib.hid hI3; clear hI3
  have HR3 := Lib.hid hrow3; clear hrow3
  refine nonly 8 (by kernel_rfl) rfl (by kernel_rfl) (fun K hK => ?_)
  refine wp_appendR (w2.alloc (.cells #[] 26)).drew (.tmp 27) (.tmp 33) 68 rfl base 26 _ 9 88 Tryd.underlying68 msg_info rfl (by decide) (.slice (some ⟨w2.heap.size, 0, none⟩) 0 0) 0 [] rfl (own_empty w2 base _ _ HI2.out.bg) (w2.alloc (.cells #[] 26)).heap.size (some ⟨gv, 0, none⟩) k cap ((L.flatMap mrCells).take (k * 9)) rfl ((Rd.of_own (own_prefix HR3.out (by omega))).reads) (fun u hu => mrs_one L u (List.mem_of_mem_take hu)) (by unfold maxLen; omega) (by omega) HI3.out.bg ?_
  intro v1 w3 hrow4 hm4
  rw [Nat.zero_add, List.nil_append] at hrow4
  obtain ⟨A1, c1, rfl, _, _⟩ := own_slice hrow4
  have hm4 : Moved (w2.alloc (.cells #[] 26)) w3 (some w2.heap.size) (Value.ownBlock (.slice A1 k c1)) := ⟨⟨hm4.1.os, hm4.1.tape, hm4.1.output, hm4.1.size, hm4.1.block⟩, hm4.2⟩
  have hI4 : RefI w3 base h VL VD L dl lost := HI3.out.fr hm4.1 (fun e => by injection e with e; omega) (fun b hb e => by injection e with e; have := (HI2.out.llt hb).2; omega) (fun b hb e => by injection e with e; have := (HI2.out.dlt hb).2; omega) (fun b hb e => by injection e with e; have := HI2.out.bg; omega)
  have hrow5 : w3.ownsRow base 26 9 (.slice (some ⟨gv, 0, none⟩) L.length cap) L.length (L.flatMap mrCells) := by rw [← HV.out]; exact hI4.rowL
  have d3 := hI4.blk.cell 0
  simp only [List.getElem?_toArray, List.getElem?_cons_zero] at d3
  rw [HV.out] at d3
  have HI4 := Lib.hid hI4; clear hI4
  have HR5 := Lib.hid hrow5; clear hrow5
  have HR4 := Lib.hid hrow4; clear hrow4
  have HM4 := Lib.hid hm4; clear hm4
  go_simp
  refine hK _ _ (fun _ => d3) ?_
  clear hK K
  refine nonly 16 (by kernel_rfl) rfl (by kernel_rfl) (fun K hK => ?_)
  obtain ⟨o, ho, _⟩ := skipA_some gv (k + 1) cap 9
  have hbs : base ≤ w3.heap.size := HI4.out.bg
  refine wp_appendR w3 (.tmp 34) (.tmp 41) 68 rfl base 26 _ 9 88 Tryd.underlying68 msg_info rfl (by decide) (.slice A1 k c1) k _ rfl HR4.out w3.heap.size (skipA gv (k + 1) cap 9) (L.length - (k + 1)) (cap - (k + 1)) ((L.flatMap mrCells).drop ((k + 1) * 9)) rfl ((rd_skip HR5.out (by omega)).reads) (fun u hu => mrs_one L u (List.mem_of_mem_drop hu)) (by unfold maxLen; omega) (by omega) hbs ?_
  intro v2 w4 hrow6 hm6
  rw [flat9_erase] at hrow6
  have hel : (L.eraseIdx k).length = k + (L.length - (k + 1)) := by rw [List.length_eraseIdx_of_lt hk]; omega
  rw [← hel] at hrow6
  obtain ⟨A2, c2, rfl, _, _⟩ := own_slice hrow6
  have hA1 : ∀ b, Value.ownBlock (.slice A1 k c1) = some b → w2.heap.size ≤ b := fun b hb => by
    rcases HM4.out.2 with e | ⟨b', e, hb'⟩
    · rw [e] at hb; injection hb with hb; omega
    · rw [e] at hb; injection hb with hb; simp at hb'; omega
  have hf6 : Fr (fun k => w2.heap.size ≤ k) w2 w4 := (((Fr.refl _ _).alloc _).trans (HM4.out.1.mono (T := fun k => w2.heap.size ≤ k) (fun i _ (e : some i = some w2.heap.size) => by injection e with e; omega))).trans (hm6.1.mono (T := fun k => w2.heap.size ≤ k) (fun i _ e => hA1 i e.symm))
  have hnew : ∃ b, Value.ownBlock (.slice A2 (L.eraseIdx k).length c2) = some b ∧ w2.heap.size ≤ b := by
    rcases hm6.2 with e | ⟨b', e, hb'⟩
    · rcases HM4.out.2 with e2 | ⟨b2, e2, hb2⟩
      · exact ⟨w2.heap.size, e.trans e2, Nat.le_refl _⟩
      · exact ⟨b2, e.trans e2, by simp at hb2; omega⟩
    · exact ⟨b', e, by have := HM4.out.size; simp at this; omega⟩
  have hI6 : RefI w4 base h VL VD L dl lost := HI2.out.fr hf6 (fun e : w2.heap.size ≤ h => by omega) (fun b hb (e : w2.heap.size ≤ b) => by have := (HI2.out.llt hb).2; omega) (fun b hb (e : w2.heap.size ≤ b) => by have := (HI2.out.dlt hb).2; omega) (fun b hb (e : w2.heap.size ≤ b) => by have := HI2.out.bg; omega)
  have hN := ref_row hI6 (Fr.refl _ _) HNE.out hrow6 (by rw [hel]; omega) (fun y hy => hI6.rd y (List.mem_of_mem_eraseIdx hy))
  have hset := Fr.set1 h w4 0 (.slice A2 (L.eraseIdx k).length c2)
  have hlt2 : w.heap.size + 1 < w2.heap.size := HB.out.lt
  have ha7 := hset.blk (hf6.blk HA.out (fun e : w2.heap.size ≤ w.heap.size => by omega)) (fun e : w.heap.size = h => by omega)
  have hb7 := hset.blk (hf6.blk HB.out (fun e : w2.heap.size ≤ w.heap.size + 1 => by omega)) (fun e : w.heap.size + 1 = h => by omega)
  have y0 := hI6.blk.cell 0
  have y1 := hI6.blk.frozen 0
  simp only [List.getElem?_toArray, List.getElem?_cons_zero] at y0
  rw [HV.out] at y0
  have hF7 : Fr (RefB h VL VD) w (w4.setCell ⟨h, 0, none⟩ (.slice A2 (L.eraseIdx k).length c2)) := ((HW2.out.mono (T := RefB h VL VD) (fun i _ h => h.elim)).trans' hf6 (fun i hi (e : w2.heap.size ≤ i) => absurd hi (by omega))).setCell (p := ⟨h, 0, none⟩) (.inl (.inl rfl)) _
  have HEL := Lib.hid hel; clear hel
  have HN := Lib.hid hN; clear hN
  have HF7 := Lib.hid hF7; clear hF7
  have HNEW := Lib.hid hnew; clear hnew
  have HL4 := Lib.hid hI6; clear hI6 hrow6 hm6 hf6 hset
  go_simp
  refine hK _ _ (fun _ => y0) ?_
  clear hK K
  refine nonly 17 (by kernel_rfl) rfl (by kernel_rfl) (fun K hK => ?_)
  go_simp
  refine hK _ _ (fun h => absurd h (by decide)) ?_
  clear hK K
  refine nonly 18 (by kernel_rfl) rfl (by kernel_rfl) (fun K hK => ?_)
  go_simp
  refine hK _ _ (fun h => absurd h (by decide)) ?_
  clear hK K
  refine nonly 19 (by kernel_rfl) rfl (by kernel_rfl) (fun K hK => ?_)
  go_simp
  refine hK _ _ (fun h => absurd h (by decide)) ?_
  clear hK K
  refine ndone (by kernel_rfl) ?_ _
  generalize w4.setCell ⟨h, 0, none⟩ (.slice A2 (L.eraseIdx k).length c2) = w7 at *
  have a0 := ha7.cell 0
  have f0 := ha7.frozen 0
  have b0 := hb7.cell 0
  have a1 := ha7.cell 1
  have f1 := ha7.frozen 1
  have b1 := hb7.cell 1
  have a2 := ha7.cell 2
  have f2 := ha7.frozen 2
  have b2 := hb7.cell 2
  have a3 := ha7.cell 3
  have f3 := ha7.frozen 3
  have b3 := hb7.cell 3
  have a4 := ha7.cell 4
  have f4 := ha7.frozen 4
  have b4 := hb7.cell 4
  have a5 := ha7.cell 5
  have f5 := ha7.frozen 5
  have b5 := hb7.cell 5
  have a6 := ha7.cell 6
  have f6 := ha7.frozen 6
  have b6 := hb7.cell 6
  have a7 := ha7.cell 7
  have f7 := ha7.frozen 7
  have b7 := hb7.cell 7
  have a8 := ha7.cell 8
  have f8 := ha7.frozen 8
  have b8 := hb7.cell 8
  simp only [List.getElem?_toArray, List.getElem?_cons_succ, List.getElem?_cons_zero] at a0 a1 a2 a3 a4 a5 a6 a7 a8 b0 b1 b2 b3 b4 b5 b6 b7 b8
  have hl7 := ha7.lt
  have hl8 := hb7.lt
  have HA7 := Lib.hid ha7; clear ha7 hb7
  go_wp2_with fail
  have hfill := fill9_fr w7 w.heap.size x
  obtain ⟨b, hb1, hb2⟩ := HNEW.out
  refine bodyPost_ret (ret_mr rfl _ _ w.heap.size x rfl (fill9_blk (x0 := zmr) HA7.out x)) rfl ⟨_, x, b, HX.out, rfl, HN.out.fr hfill (fun e : h = w.heap.size => by omega) (fun b hb (e : b = w.heap.size) => ?_) (fun b hb (e : b = w.heap.size) => ?_) (fun b hb (e : b = w.heap.size) => by have := HI2.out.bh; omega), HF7.out.trans' hfill (fun i hi (e : i = w.heap.size) => absurd hi (by omega)), hb1, by omega⟩
  · rw [hb1] at hb
    injection hb with hb
    omega
  · have := (HI2.out.dlt hb).2
    subst e
    exact own_blk_ne HN.out.rowD HA7.out (by decide) hb
end Go.Proofs.YtnahkpfamocnfaaDoor
