/- The document's net: how it lies in memory; dead, Send. -/
import Derived.Test.YtnahkpfamocnfaaDoorNet4
namespace Go.Proofs.YtnahkpfamocnfaaDoor
open Go.RowKit
def intsV (l : List Int) : List Value := l.map (Value.int .i64)
theorem ints_one (l : List Int) : ∀ u ∈ intsV l, u.oneCell' = true := fun u hu => by
  obtain ⟨x, _, rfl⟩ := List.mem_map.1 hu; rfl
def memI (dl : List Int) (id : Int) : Bool := dl.contains id
theorem memI_iff (dl : List Int) (id : Int) : memI dl id = true ↔ id ∈ dl := by unfold memI; exact List.contains_iff_mem
structure RefI (w : World) (base h : Nat) (VL VD : Value) (L : List MsR) (dl : List Int) (lost : Int) : Prop where
  blk : Blk w h 74 #[VL, VD, .int .i64 lost]
  rowL : w.ownsRow base 26 9 VL L.length (L.flatMap mrCells)
  rowD : w.ownsRow base 3 1 VD dl.length (intsV dl)
  rd : ∀ x ∈ L, ReadsP w base x.A x.n x.m.cmd.writes
  len : L.length ≤ 200
  lo : 0 ≤ lost
  hi : lost ≤ 1099511627776
  bg : base ≤ w.heap.size
  bh : base ≤ h
  dlen : dl.length ≤ 100000
def RefB (h : Nat) (VL VD : Value) (k : Nat) : Prop := k = h ∨ some k = VL.ownBlock ∨ some k = VD.ownBlock
section
variable {w w' : World} {base h : Nat} {VL VD : Value} {L : List MsR} {dl : List Int} {lost : Int}
theorem RefI.fr {S : Nat → Prop} (r : RefI w base h VL VD L dl lost) (hf : Fr S w w') (hh : ¬ S h) (hL : ∀ b, VL.ownBlock = some b → ¬ S b) (hD : ∀ b, VD.ownBlock = some b → ¬ S b) (hb : ∀ b, b < base → ¬ S b) : RefI w' base h VL VD L dl lost :=
  ⟨hf.blk r.blk hh, hf.own r.rowL hL, hf.own r.rowD hD, fun x hx => (r.rd x hx).fr hf r.bg (fun g off e h0 => by
    obtain ⟨g', off', e', hg, _⟩ := (r.rd x hx).2.2 h0
    rw [e] at e'; injection e' with e'; injection e' with e' _
    exact hb g (by omega)), r.len, r.lo, r.hi, Nat.le_trans r.bg hf.size, r.bh, r.dlen⟩
theorem RefI.llt (r : RefI w base h VL VD L dl lost) {b : Nat} (hb : VL.ownBlock = some b) : base ≤ b ∧ b < w.heap.size := r.rowL.lt b hb
theorem RefI.dlt (r : RefI w base h VL VD L dl lost) {b : Nat} (hb : VD.ownBlock = some b) : base ≤ b ∧ b < w.heap.size := r.rowD.lt b hb
end
def DdRel (dl : List Int) (id : Int) (n : Nat) (w : World) (v : Value) (wr : World) : Prop := ∃ j : Nat, v = .int .i64 j ∧ j ≤ n ∧ (∀ x ∈ dl.take j, x ≠ id) ∧ wr = w
set_option maxRecDepth 100000 in
set_option maxHeartbeats 1000000 in
theorem dead_any (base h : Nat) (VL VD : Value) (L : List MsR) (dl : List Int) (lost id : Int) (w : World) (hI : RefI w base h VL VD L dl lost) :
    Calls Tryd.prog 52 #[.pointer (some ⟨h, 0, none⟩), .int .i64 id] w fun e w' => e = .returned (.bool (memI dl id)) ∧ w = w' := by
  obtain ⟨A', c', hV', hc', hA'⟩ := own_slice hI.rowD
  have c1 := hI.blk.cell 1
  simp only [List.getElem?_toArray, List.getElem?_cons_succ, List.getElem?_cons_zero] at c1
  rw [hV'] at c1
  have hrd := Rd.of_own (by rw [← hV']; exact hI.rowD : w.ownsRow base 3 1 (.slice A' dl.length c') dl.length (intsV dl))
  have hdl := hI.dlen
  have HRD := Lib.hid hrd; clear hrd hI hV'
  go_enter Tryd.func52, Tryd.ntmps52
  go_wp2_with fail
  go_loopw [12] (DdRel dl id dl.length w) (fun v _ => dl.length - (intOf v).toNat)
  case atStart => exact ⟨0, rfl, Nat.zero_le _, (fun x hx => by simp at hx), rfl⟩
  case round =>
    obtain ⟨j, rfl, hj, hno, rfl⟩ := hrel
    by_cases hlt : (j : Int) < dl.length
    · obtain ⟨g, off, u, rfl, hg, hx, hc⟩ := HRD.out.at1 (k := j) (by omega)
      have hjl : j < dl.length := by omega
      obtain ⟨x, hx1, rfl⟩ : ∃ x, dl[j]? = some x ∧ u = .int .i64 x := by
        unfold intsV at hx
        rw [List.getElem?_map, List.getElem?_eq_getElem hjl] at hx
        simp at hx
        exact ⟨_, List.getElem?_eq_getElem hjl, hx.symm⟩
      have HNO := Lib.hid hno; clear hno
      have HX := Lib.hid hx1; clear hx1 hx
      by_cases he : x = id
      · have hd : (x == id) = true := by simpa using he
        have hct : memI dl id = true := by rw [memI_iff]; rw [← he]; exact List.mem_of_getElem? HX.out
        have HCT := Lib.hid hct; clear hct he
        go_wp2_with fail
        go_ret
        exact ⟨by rw [HCT.out]; rfl, rfl⟩
      · have hd : (x == id) = false := by simpa using he
        have hstep : ∀ y ∈ dl.take (j + 1), y ≠ id := fun y hy => by
          rw [List.take_add_one, HX.out] at hy
          rcases List.mem_append.1 hy with hy | hy
          · exact HNO.out y hy
          · simp at hy; rw [hy]; exact he
        have HST := Lib.hid hstep; clear hstep he
        go_wp2_with fail
        go_roundw
        case rel => exact ⟨j + 1, rfl, by omega, HST.out, rfl⟩
        case measure => simp [intOf]; omega
    · have hct : memI dl id = false := by
        rw [← Bool.not_eq_true, memI_iff]
        intro hm
        exact hno id (by rw [List.take_of_length_le (by omega)]; exact hm) rfl
      have HCT := Lib.hid hct; clear hct hno
      go_wp2_with fail
      go_ret
      exact ⟨by rw [HCT.out]; rfl, rfl⟩
def RSendPost (base h : Nat) (VL VD : Value) (L : List MsR) (dl : List Int) (lost : Int) (x : MsR) (w : World) (e : Ending) (w' : World) : Prop :=
  ∃ VL' L' lost' b, e = .returned (.bool b) ∧ RefI w' base h VL' VD L' dl lost' ∧ sendS ⟨msOf L, fun i => memI dl i, lost⟩ x.m = ⟨msOf L', fun i => memI dl i, lost'⟩ ∧ lost' = lost + (if b then 0 else 1) ∧ (∀ y ∈ L', y ∈ L ∨ y = x) ∧ Fr (RefB h VL VD) w w' ∧ (VL'.ownBlock = VL.ownBlock ∨ ∃ k, VL'.ownBlock = some k ∧ w.heap.size ≤ k)
/-- The count raised. -/
theorem ref_lost {w : World} {base h : Nat} {VL VD : Value} {L : List MsR} {dl : List Int} {lost : Int} (r : RefI w base h VL VD L dl lost) (n : Int) (h0 : 0 ≤ n) (h1 : n ≤ 1099511627776) : RefI (w.setCell ⟨h, 2, none⟩ (.int .i64 n)) base h VL VD L dl n := by
  have hset := Fr.set1 h w 2 (.int .i64 n)
  have hbk := r.blk.set_ 2 (.int .i64 n)
  refine ⟨by simpa using hbk, hset.own r.rowL (fun b hb e => by subst e; exact own_blk_ne r.rowL r.blk (by decide) hb), hset.own r.rowD (fun b hb e => by subst e; exact own_blk_ne r.rowD r.blk (by decide) hb), fun x hx => (r.rd x hx).fr hset r.bg (fun g off e h0 e2 => by
    obtain ⟨g', off', e', hg, _⟩ := (r.rd x hx).2.2 h0
    rw [e] at e'; injection e' with e'; injection e' with e' _
    have := r.bh
    have e3 : g = h := e2
    omega), r.len, h0, h1, Nat.le_trans r.bg hset.size, r.bh, r.dlen⟩
/-- The row of messages grown or new, and laid in. -/
theorem ref_row {w w4 : World} {base h : Nat} {VL VD VL' : Value} {L l : List MsR} {dl : List Int} {lost : Int} (r : RefI w base h VL VD L dl lost) (hm : Fr (fun k => some k = VL.ownBlock) w w4) (hne : ∀ b, VD.ownBlock = some b → VL.ownBlock ≠ some b)
    (hrow : w4.ownsRow base 26 9 VL' l.length (l.flatMap mrCells)) (hl : l.length ≤ 200) (hrd : ∀ x ∈ l, ReadsP w base x.A x.n x.m.cmd.writes) : RefI (w4.setCell ⟨h, 0, none⟩ VL') base h VL' VD l dl lost := by
  have hhL : ¬ some h = VL.ownBlock := fun e => own_blk_ne r.rowL r.blk (by decide) e.symm
  have hb4 : Blk w4 h _ _ := hm.blk r.blk hhL
  have hset := Fr.set1 h w4 0 VL'
  have hbk := hb4.set_ 0 VL'
  have hD4 := hm.own r.rowD (fun b hb e => hne b hb e.symm)
  have hlow : ∀ b, b < base → ¬ some b = VL.ownBlock := fun b hb e => by have := (r.llt e.symm).1; omega
  refine ⟨by simpa using hbk, hset.own hrow (fun b hb e => by subst e; exact own_blk_ne hrow hb4 (by decide) hb), hset.own hD4 (fun b hb e => by subst e; exact own_blk_ne hD4 hb4 (by decide) hb), fun x hx => ?_, hl, r.lo, r.hi, Nat.le_trans r.bg (Nat.le_trans hm.size hset.size), r.bh, r.dlen⟩
  have hlt : ∀ g off, x.A = some ⟨g, off, none⟩ → 0 < x.n → g < base := fun g off e h0 => by
    obtain ⟨g', off', e', hg, _⟩ := (hrd x hx).2.2 h0
    rw [e] at e'; injection e' with e'; injection e' with e' _
    omega
  exact ((hrd x hx).fr hm r.bg (fun g off e h0 => hlow g (hlt g off e h0))).fr hset (Nat.le_trans r.bg hm.size) (fun g off e h0 (e2 : g = h) => by have := r.bh; have := hlt g off e h0; omega)
set_option maxRecDepth 100000 in
set_option maxHeartbeats 4000000 in
theorem rsend_any (base h : Nat) (VL VD : Value) (L : List MsR) (dl : List Int) (lost : Int) (x : MsR) (w : World) (hI : RefI w base h VL VD L dl lost) (hx : ReadsP w base x.A x.n x.m.cmd.writes) (hne : ∀ b, VD.ownBlock = some b → VL.ownBlock ≠ some b) (hl : lost + 1 ≤ 1099511627776) :
    Calls Tryd.prog 25 #[.pointer (some ⟨h, 0, none⟩), mrV x] w (RSendPost base h VL VD L dl lost x w) := by
  have hw1 : Fr (fun _ => False) w (w.alloc (.cells (msgCells x.m x.A x.n x.k) 26)) := (Fr.refl _ _).alloc _
  have hI1 := hI.fr hw1 (fun h => h) (fun _ _ h => h) (fun _ _ h => h) (fun _ _ h => h)
  have hB1 : Blk (w.alloc (.cells (msgCells x.m x.A x.n x.k) 26)) w.heap.size 26 (msgCells x.m x.A x.n x.k) := Blk.new w _ _
  have hhl := hI.blk.lt
  have hlo := hI.lo
  have hF := dead_any base h VL VD L dl lost x.m.from_ _ hI1
  have hT := dead_any base h VL VD L dl lost x.m.to_ _ hI1
  obtain ⟨A', c', hV', hc', _⟩ := own_slice hI.rowL
  have hstop : stopB ⟨msOf L, fun i => memI dl i, lost⟩ x.m = (memI dl x.m.from_ || memI dl x.m.to_ || decide (L.length = 200)) := by unfold stopB; simp [msOf]
  have HI := Lib.hid hI; clear hI
  have HX := Lib.hid hx; clear hx
  have HNE := Lib.hid hne; clear hne
  have HVV := Lib.hid hV'; clear hV'
  have HST := Lib.hid hstop; clear hstop
  unfold mrV msgV
  unfold msgCells at hw1 hI1 hB1 hF hT
  generalize hw1e : w.alloc (.cells #[.int .i64 x.m.kind, .int .i64 x.m.from_, .int .i64 x.m.to_, .int .i64 x.m.epoch, .int .i64 x.m.n, .int .i64 x.m.cmd.kind, .int .i64 x.m.cmd.tx, .int .i64 x.m.cmd.time, .slice x.A x.n x.k] 26) = w1 at *
  have hlost1 : stopB ⟨msOf L, fun i => memI dl i, lost⟩ x.m = true → RSendPost base h VL VD L dl lost x w (.returned (.bool false)) (w1.setCell ⟨h, 2, none⟩ (.int .i64 (lost + 1))) := fun hs =>
    ⟨VL, L, lost + 1, false, rfl, ref_lost hI1 _ (by omega) hl, by unfold sendS; rw [hs, if_pos rfl], rfl, fun y hy => .inl hy, (hw1.mono (T := RefB h VL VD) (fun i _ h => h.elim)).setCell (p := ⟨h, 2, none⟩) (.inl (.inl rfl)) _, .inl rfl⟩
  have HLOST := Lib.hid hlost1; clear hlost1
  have b0 := hB1.cell 0
  have b1 := hB1.cell 1
  have b2 := hB1.cell 2
  have b3 := hB1.cell 3
  have b4 := hB1.cell 4
  have b5 := hB1.cell 5
  have b6 := hB1.cell 6
  have b7 := hB1.cell 7
  have b8 := hB1.cell 8
  have n0 := hI1.blk.cell 0
  have n2 := hI1.blk.cell 2
  have f2 := hI1.blk.frozen 2
  simp only [List.getElem?_toArray, List.getElem?_cons_succ, List.getElem?_cons_zero] at b0 b1 b2 b3 b4 b5 b6 b7 b8 n0 n2
  rw [HVV.out] at n0
  have hhl1 := hI1.blk.lt
  have hbl1 := hB1.lt
  have HI1 := Lib.hid hI1; clear hI1
  have HB1 := Lib.hid hB1; clear hB1
  have HW1 := Lib.hid hw1; clear hw1
  have HFF := Lib.hid hF; clear hF
  have HTT := Lib.hid hT; clear hT
  have hL2 := HI1.out.len
  rcases hd1 : memI dl x.m.from_ with _ | _
  · rcases hd2 : memI dl x.m.to_ with _ | _
    · by_cases hfull : L.length = 200
      · have hz : (L.length : Int) ≥ 200 := by omega
        have hs : stopB ⟨msOf L, fun i => memI dl i, lost⟩ x.m = true := by rw [HST.out, hd1, hd2]; simp [hfull]
        have HP := Lib.hid (HLOST.out hs); clear hs HLOST
        rw [hd1] at HFF
        rw [hd2] at HTT
        have HF1 := Lib.hid hd1; clear hd1
        have HF2 := Lib.hid hd2; clear hd2 hfull
        go_enter Tryd.func25, Tryd.ntmps25
        go_wp2_with fail
        refine HFF.out.mono ?_
        rintro e w2 ⟨rfl, rfl⟩
        clear hw1e
        go_wp2_with fail
        refine HTT.out.mono ?_
        rintro e w2 ⟨rfl, rfl⟩
        go_wp2_with fail
        go_ret
        exact HP.out
      · have hz : ¬ (L.length : Int) ≥ 200 := by omega
        have hs : stopB ⟨msOf L, fun i => memI dl i, lost⟩ x.m = false := by rw [HST.out, hd1, hd2]; simp [hfull]
        have HSS := Lib.hid hs; clear hs HLOST
        rw [hd1] at HFF
        rw [hd2] at HTT
        have HLT := Lib.hid (show L.length + 1 ≤ 200 by omega)
        have HF1 := Lib.hid hd1; clear hd1
        have HF2 := Lib.hid hd2; clear hd2 hfull
        go_enter Tryd.func25, Tryd.ntmps25
        go_wp2_with fail
        refine HFF.out.mono ?_
        rintro e w2 ⟨rfl, rfl⟩
        clear hw1e
        go_wp2_with fail
        refine HTT.out.mono ?_
        rintro e w2 ⟨rfl, rfl⟩
        go_wp2_with fail
        refine wp_region_any (by kernel_rfl) ?_
        change wpAny _ _ _ _ _ _ _ (World.drew _)
        refine nplain (fun w' => w'.cell? ⟨h, 0, none⟩ = some (.slice A' L.length c') ∧ w'.cell? ⟨w.heap.size, 0, none⟩ = some (.int .i64 x.m.kind) ∧ w'.cell? ⟨w.heap.size, 1, none⟩ = some (.int .i64 x.m.from_) ∧ w'.cell? ⟨w.heap.size, 2, none⟩ = some (.int .i64 x.m.to_) ∧ w'.cell? ⟨w.heap.size, 3, none⟩ = some (.int .i64 x.m.epoch) ∧ w'.cell? ⟨w.heap.size, 4, none⟩ = some (.int .i64 x.m.n) ∧ w'.cell? ⟨w.heap.size, 5, none⟩ = some (.int .i64 x.m.cmd.kind) ∧ w'.cell? ⟨w.heap.size, 6, none⟩ = some (.int .i64 x.m.cmd.tx) ∧ w'.cell? ⟨w.heap.size, 7, none⟩ = some (.int .i64 x.m.cmd.time) ∧ w'.cell? ⟨w.heap.size, 8, none⟩ = some (.slice x.A x.n x.k)) 8 ?_
        have HCC := And.intro n0 (And.intro b0 (And.intro b1 (And.intro b2 (And.intro b3 (And.intro b4 (And.intro b5 (And.intro b6 (And.intro b7 b8))))))))
        refine ntake 0 rfl (by kernel_rfl) (by kernel_rfl) (by kernel_rfl) (by kernel_rfl) (fun _ _ _ h => h) (by kernel_rfl) HCC (fun w' hw' => by go_simp; rfl) ?_
        refine ntake 1 rfl (by kernel_rfl) (by kernel_rfl) (by kernel_rfl) (by kernel_rfl) (fun _ _ _ h => h) (by kernel_rfl) HCC (fun w' hw' => by go_simp; rfl) ?_
        refine ntake 2 rfl (by kernel_rfl) (by kernel_rfl) (by kernel_rfl) (by kernel_rfl) (fun _ _ _ h => h) (by kernel_rfl) HCC (fun w' hw' => by go_simp; rfl) ?_
        refine ntake 3 rfl (by kernel_rfl) (by kernel_rfl) (by kernel_rfl) (by kernel_rfl) (fun _ _ _ h => h) (by kernel_rfl) HCC (fun w' hw' => by go_simp; rfl) ?_
        refine ntake 4 rfl (by kernel_rfl) (by kernel_rfl) (by kernel_rfl) (by kernel_rfl) (fun _ _ _ h => h) (by kernel_rfl) HCC (fun w' hw' => by obtain ⟨q0, q1, q2, q3, q4, q5, q6, q7, q8, q9⟩ := hw'; go_simp; rfl) ?_
        refine ntake 5 rfl (by kernel_rfl) (by kernel_rfl) (by kernel_rfl) (by kernel_rfl) (fun _ _ _ h => h) (by kernel_rfl) HCC (fun w' hw' => by obtain ⟨q0, q1, q2, q3, q4, q5, q6, q7, q8, q9⟩ := hw'; go_simp; rfl) ?_
        have hkeep : ∀ o q p, q < w1.heap.size → (w1.alloc o).cell? ⟨q, p, none⟩ = w1.cell? ⟨q, p, none⟩ := fun o q p hq => World.cell?_alloc_lt w1 o ⟨q, p, none⟩ hq
        refine nonly 6 (by kernel_rfl) rfl (by kernel_rfl) (fun K hK => ?_)
        go_simp
        refine hK _ _ (fun _ => ⟨(hkeep _ _ _ hhl1).trans n0, (hkeep _ _ _ hbl1).trans b0, (hkeep _ _ _ hbl1).trans b1, (hkeep _ _ _ hbl1).trans b2, (hkeep _ _ _ hbl1).trans b3, (hkeep _ _ _ hbl1).trans b4, (hkeep _ _ _ hbl1).trans b5, (hkeep _ _ _ hbl1).trans b6, (hkeep _ _ _ hbl1).trans b7, (hkeep _ _ _ hbl1).trans b8⟩) ?_
        clear hK K HCC hkeep
        refine nonly 7 (by kernel_rfl) rfl (by kernel_rfl) (fun K hK => ?_)
        have hlt2 := HLT.out
        have hrow1 : w1.ownsRow base 26 9 (.slice A' L.length c') L.length (L.flatMap mrCells) := by rw [← HVV.out]; exact HI1.out.rowL
        have HROW := Lib.hid hrow1; clear hrow1
        refine wp_append1 w1.drew w1.heap.size rfl _ (.tmp 34) (.tmp 36) 68 rfl base 26 _ 9 88 Tryd.underlying68 msg_info rfl (by decide) _ _ _ #[.int .i64 x.m.kind, .int .i64 x.m.from_, .int .i64 x.m.to_, .int .i64 x.m.epoch, .int .i64 x.m.n, .int .i64 x.m.cmd.kind, .int .i64 x.m.cmd.tx, .int .i64 x.m.cmd.time, .slice x.A x.n x.k] rfl HROW.out 1 rfl _ rfl rfl (by simp [Value.oneCell']) (by unfold maxLen; omega) (by omega) HI1.out.bg ?_
        clear hlt2
        intro V2 w4 hrow4 hm4
        obtain ⟨A4, c4, rfl, _, _⟩ := own_slice hrow4
        have hm4' : Moved w1 w4 VL.ownBlock (Value.ownBlock (.slice A4 (L.length + 1) c4)) := by rw [HVV.out]; exact ⟨⟨hm4.1.os, hm4.1.tape, hm4.1.output, hm4.1.size, hm4.1.block⟩, hm4.2⟩
        have hhV : ¬ some h = VL.ownBlock := fun e => own_blk_ne HI1.out.rowL HI1.out.blk (by decide) e.symm
        have hxV : ¬ some w.heap.size = VL.ownBlock := fun e => by have := (HI.out.llt e.symm).2; omega
        have hb4 := hm4'.1.blk HI1.out.blk hhV
        have hbx4 := hm4'.1.blk HB1.out hxV
        have y0 := hb4.cell 0
        have y1 := hb4.frozen 0
        simp only [List.getElem?_toArray, List.getElem?_cons_succ, List.getElem?_cons_zero] at y0
        rw [HVV.out] at y0
        have hC4 := And.intro y0 (And.intro (hbx4.cell 0) (And.intro (hbx4.cell 1) (And.intro (hbx4.cell 2) (And.intro (hbx4.cell 3) (And.intro (hbx4.cell 4) (And.intro (hbx4.cell 5) (And.intro (hbx4.cell 6) (And.intro (hbx4.cell 7) (hbx4.cell 8)))))))))
        have HC4 := Lib.hid hC4; clear hC4
        have hll : (L ++ [x]).length = L.length + 1 := by simp
        have hrow : w4.ownsRow base 26 9 (.slice A4 (L.length + 1) c4) (L ++ [x]).length ((L ++ [x]).flatMap mrCells) := by
          rw [hll, List.flatMap_append, List.flatMap_singleton]; exact hrow4
        have hN := ref_row HI1.out hm4'.1 HNE.out hrow (by rw [hll]; exact HLT.out) (fun y hy => by
          rcases List.mem_append.1 hy with hy | hy
          · exact HI1.out.rd y hy
          · rw [List.mem_singleton.1 hy]
            exact HX.out.fr HW1.out HI.out.bg (fun _ _ _ _ h => h))
        have hfin : RSendPost base h VL VD L dl lost x w (.returned (.bool true)) (w4.setCell ⟨h, 0, none⟩ (.slice A4 (L.length + 1) c4)) :=
          ⟨_, L ++ [x], lost, true, rfl, hN, by unfold sendS; rw [HSS.out, if_neg (by simp)]; simp [msOf], by simp, fun y hy => by simpa using hy, ((HW1.out.mono (T := RefB h VL VD) (fun i _ h => h.elim)).trans' hm4'.1 (fun i _ h => .inr (.inl h))).setCell (p := ⟨h, 0, none⟩) (.inl (.inl rfl)) _, by
            rcases hm4'.2 with e | ⟨b, e, hb⟩
            · exact .inl e
            · exact .inr ⟨b, e, Nat.le_trans HW1.out.size hb⟩⟩
        have HFIN := Lib.hid hfin; clear hfin hN hrow hll hrow4 hm4 hm4' hb4 hbx4 hhV hxV
        go_simp
        refine hK _ _ (fun _ => HC4.out) ?_
        clear hK K
        refine nonly 8 (by kernel_rfl) rfl (by kernel_rfl) (fun K hK => ?_)
        go_simp
        refine hK _ _ (fun h => absurd h (by decide)) ?_
        clear hK K
        refine nonly 9 (by kernel_rfl) rfl (by kernel_rfl) (fun K hK => ?_)
        go_simp
        refine hK _ _ (fun h => absurd h (by decide)) ?_
        clear hK K
        refine nonly 10 (by kernel_rfl) rfl (by kernel_rfl) (fun K hK => ?_)
        go_simp
        refine hK _ _ (fun h => absurd h (by decide)) ?_
        clear hK K
        refine ndone (by kernel_rfl) ?_ _
        go_wp2_with fail
        go_ret
        exact HFIN.out
    · have hs : stopB ⟨msOf L, fun i => memI dl i, lost⟩ x.m = true := by rw [HST.out, hd1, hd2]; simp
      have HP := Lib.hid (HLOST.out hs); clear hs HLOST
      rw [hd1] at HFF
      rw [hd2] at HTT
      have HF1 := Lib.hid hd1; clear hd1
      have HF2 := Lib.hid hd2; clear hd2
      go_enter Tryd.func25, Tryd.ntmps25
      go_wp2_with fail
      refine HFF.out.mono ?_
      rintro e w2 ⟨rfl, rfl⟩
      clear hw1e
      go_wp2_with fail
      refine HTT.out.mono ?_
      rintro e w2 ⟨rfl, rfl⟩
      go_wp2_with fail
      go_ret
      exact HP.out
  · have hs : stopB ⟨msOf L, fun i => memI dl i, lost⟩ x.m = true := by rw [HST.out, hd1]; simp
    have HP := Lib.hid (HLOST.out hs); clear hs HLOST
    rw [hd1] at HFF
    have HF1 := Lib.hid hd1; clear hd1 HTT
    go_enter Tryd.func25, Tryd.ntmps25
    go_wp2_with fail
    refine HFF.out.mono ?_
    rintro e w2 ⟨rfl, rfl⟩
    clear hw1e
    go_wp2_with fail
    go_ret
    exact HP.out
end Go.Proofs.YtnahkpfamocnfaaDoor
