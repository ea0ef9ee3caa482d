/- The document's net: Down. -/
import Derived.Test.YtnahkpfamocnfaaDoorRefNet2
import Derived.Test.YtnahkpfamocnfaaDoorNet8
namespace Go.Proofs.YtnahkpfamocnfaaDoor
open Go.RowKit
theorem int_info : (Tryd.prog.info? 3).map (fun i => (i.zero, i.size, i.bytes)) = some (some (.int .i64 0), 1, 8) := by kernel_rfl
def RDownPost (base h : Nat) (VL VD : Value) (L : List MsR) (dl : List Int) (lost id : Int) (w : World) (e : Ending) (w' : World) : Prop :=
  ∃ VL' VD' d, e = .returned (.int .i64 d) ∧ d = (L.length : Int) - (kept id L).length ∧ RefI w' base h VL' VD' (kept id L) (dl ++ [id]) (lost + d) ∧ Fr (RefB h VL VD) w w' ∧ (∀ b, VL'.ownBlock = some b → w.heap.size ≤ b) ∧ (VD'.ownBlock = VD.ownBlock ∨ ∃ b, VD'.ownBlock = some b ∧ w.heap.size ≤ b) ∧ (∀ b, VD'.ownBlock = some b → VL'.ownBlock ≠ some b)
def RdRel (base h : Nat) (VL VD : Value) (L : List MsR) (dl : List Int) (lost id : Int) (w : World) (i u : Value) (wr : World) : Prop :=
  ∃ (j : Nat) (l : List MsR), i = .int .i64 j ∧ j ≤ L.length ∧ l = kept id (L.take j) ∧ wr.ownsRow base 26 9 u l.length (l.flatMap mrCells) ∧ RefI wr base h VL VD L dl lost ∧ Fr (fun k => w.heap.size ≤ k) w wr ∧ (∀ b, u.ownBlock = some b → w.heap.size ≤ b)
/-- The numbers' row grown, and laid in. -/
theorem ref_dead {w w4 : World} {base h : Nat} {VL VD VD' : Value} {L : List MsR} {dl dl' : List Int} {lost : Int} (r : RefI w base h VL VD L dl lost) (hm : Fr (fun k => some k = VD.ownBlock) w w4)
    (hrow : w4.ownsRow base 3 1 VD' dl'.length (intsV dl')) (hl : dl'.length ≤ 100000) : RefI (w4.setCell ⟨h, 1, none⟩ VD') base h VL VD' L dl' lost := by
  have hhL : ¬ some h = VD.ownBlock := fun e => own_blk_ne r.rowD r.blk (by decide) e.symm
  have hb4 : Blk w4 h _ _ := hm.blk r.blk hhL
  have hset := Fr.set1 h w4 1 VD'
  have hbk := hb4.set_ 1 VD'
  have hL4 := hm.own r.rowL (fun b hb e => own_apart r.rowL r.rowD (by decide) hb e.symm)
  refine ⟨by simpa using hbk, hset.own hL4 (fun b hb e => by subst e; exact own_blk_ne hL4 hb4 (by decide) hb), hset.own hrow (fun b hb e => by subst e; exact own_blk_ne hrow hb4 (by decide) hb), fun x hx => ?_, r.len, r.lo, r.hi, Nat.le_trans r.bg (Nat.le_trans hm.size hset.size), r.bh, hl⟩
  have hlt : ∀ g off, x.A = some ⟨g, off, none⟩ → 0 < x.n → g < base := fun g off e h0 => by
    obtain ⟨g', off', e', hg, _⟩ := (r.rd x hx).2.2 h0
    rw [e] at e'; injection e' with e'; injection e' with e' _
    omega
  exact ((r.rd x hx).fr hm r.bg (fun g off e h0 e2 => by have := (r.dlt e2.symm).1; have := hlt g off e h0; omega)).fr hset (Nat.le_trans r.bg hm.size) (fun g off e h0 (e2 : g = h) => by have := r.bh; have := hlt g off e h0; omega)
set_option maxRecDepth 100000 in
set_option maxHeartbeats 4000000 in
theorem rdown_any (base h : Nat) (VL VD : Value) (L : List MsR) (dl : List Int) (lost id : Int) (w : World) (hI : RefI w base h VL VD L dl lost) (hdl : dl.length < 90000) (hl : lost + 200 ≤ 1099511627776) :
    Calls Tryd.prog 31 #[.pointer (some ⟨h, 0, none⟩), .int .i64 id] w (RDownPost base h VL VD L dl lost id w) := by
  obtain ⟨AD, cD, hVD, _, _⟩ := own_slice hI.rowD
  have c1 := hI.blk.cell 1
  have f1 := hI.blk.frozen 1
  simp only [List.getElem?_toArray, List.getElem?_cons_succ, List.getElem?_cons_zero] at c1
  rw [hVD] at c1
  have hhl := hI.blk.lt
  have hrowD : w.ownsRow base 3 1 (.slice AD dl.length cD) dl.length (intsV dl) := by rw [← hVD]; exact hI.rowD
  have HI := Lib.hid hI; clear hI
  have HVD := Lib.hid hVD; clear hVD
  have HRD := Lib.hid hrowD; clear hrowD
  go_enter Tryd.func31, Tryd.ntmps31
  go_wp2_with (at_builtin; refine stop ?_)
  refine back ?_
  refine wpList_append1 w _ rfl (.tmp 13) (.tmp 15) 47 rfl base 3 _ 1 8 Tryd.underlying47 int_info rfl (by decide) _ dl.length (intsV dl) #[.int .i64 id] rfl HRD.out 1 rfl _ rfl rfl (by simp [Value.oneCell']) (by unfold maxLen; omega) (by omega) HI.out.bg ?_
  intro VD' w1 hrow1 hm1
  have hm1' : Moved w w1 VD.ownBlock VD'.ownBlock := by rw [HVD.out]; exact hm1
  have hlen1 : (dl ++ [id]).length = dl.length + 1 := by simp
  have hrow1' : w1.ownsRow base 3 1 VD' (dl ++ [id]).length (intsV (dl ++ [id])) := by rw [hlen1]; simpa [intsV] using hrow1
  have hI2 := ref_dead HI.out hm1'.1 hrow1' (by rw [hlen1]; omega)
  have hb1 := hm1'.1.blk HI.out.blk (fun e => own_blk_ne HI.out.rowD HI.out.blk (by decide) e.symm)
  have y0 := hb1.cell 1
  have y1 := hb1.frozen 1
  simp only [List.getElem?_toArray, List.getElem?_cons_succ, List.getElem?_cons_zero] at y0
  rw [HVD.out] at y0
  have hb1l := hb1.lt
  obtain ⟨A1, c1', hVe, _, _⟩ := own_slice hrow1
  have HVE := Lib.hid hVe
  subst hVe
  have hf2 : Fr (RefB h VL VD) w (w1.setCell ⟨h, 1, none⟩ (.slice A1 (dl.length + 1) c1')) := ((Fr.refl _ _).trans' hm1'.1 (fun i _ e => .inr (.inr e))).setCell (p := ⟨h, 1, none⟩) (.inl (.inl rfl)) _
  have hDn : Value.ownBlock (.slice A1 (dl.length + 1) c1') = VD.ownBlock ∨ ∃ b, Value.ownBlock (.slice A1 (dl.length + 1) c1') = some b ∧ w.heap.size ≤ b := hm1'.2
  have HI2 := Lib.hid hI2; clear hI2
  have HF2 := Lib.hid hf2; clear hf2
  have HDN := Lib.hid hDn; clear hDn
  have HLN := Lib.hid hlen1; clear hlen1
  clear hrow1 hrow1' hm1 hm1' hb1 c1 f1
  go_upto_region 2 with (fail)
  generalize w1.setCell ⟨h, 1, none⟩ (.slice A1 (dl.length + 1) c1') = w2 at *
  obtain ⟨AL, cL, hVL, _, _⟩ := own_slice HI2.out.rowL
  have n0 := HI2.out.blk.cell 0
  simp only [List.getElem?_toArray, List.getElem?_cons_zero] at n0
  rw [hVL] at n0
  have HVL := Lib.hid hVL; clear hVL y0 y1 hb1l
  have hhl2 := HI2.out.blk.lt
  have hLen := HI2.out.len
  go_wp2_with fail
  go_loopw [24, 5] (RdRel base h VL (.slice A1 (dl.length + 1) c1') L (dl ++ [id]) lost id w2) (fun i _ _ => L.length - (intOf i).toNat)
  case atStart => exact ⟨0, [], rfl, Nat.zero_le _, (by simp [kept]), World.ownsRow_nil _ _ _ _, HI2.out, Fr.refl _ _, fun b hb => by simp [Value.ownBlock] at hb⟩
  case round =>
    obtain ⟨j, l, rfl, hj, hlk, hrow, hIr, hfr, hub⟩ := hrel
    obtain ⟨Al, cl, hu5, _, _⟩ := own_slice hrow
    subst hu5
    by_cases hlt : (j : Int) < L.length
    · have hrowL : wr.ownsRow base 26 9 (.slice AL L.length cL) L.length (L.flatMap mrCells) := by rw [← HVL.out]; exact hIr.rowL
      obtain ⟨g', o', x, hA, hga, hx, h0, h1, h2, h3, h4, h5, h6, h7, h8⟩ := (Rd.of_own hrowL).cells9 rfl (j := j) (by omega)
      rw [hA]
      have hkl : l.length ≤ L.length := by rw [hlk]; unfold kept; exact Nat.le_trans (List.length_filter_le _ _) (List.length_take_le' _ _)
      have hks := kept_snoc (id := id) hx
      have hwz := hfr.size
      have HX := Lib.hid hx; clear hx hrowL hA
      have HLK := Lib.hid hlk; clear hlk
      have HROW := Lib.hid hrow; clear hrow
      have HIR := Lib.hid hIr; clear hIr
      have HFR := Lib.hid hfr; clear hfr
      have HUB := Lib.hid hub; clear hub
      have hw1 : ∀ o, Fr (fun _ => False) wr (wr.alloc o) := fun o => (Fr.refl _ _).alloc o
      have hskip : gone id x.m = true → ∀ o, RdRel base h VL (.slice A1 (dl.length + 1) c1') L (dl ++ [id]) lost id w2 (.int .i64 ((j : Int) + 1)) (.slice Al l.length cl) (wr.alloc o) := fun hg o =>
        ⟨j + 1, l, rfl, by omega, by rw [hks, hg, if_pos rfl]; exact HLK.out, (hw1 o).own HROW.out (fun _ _ h => h), HIR.out.fr (hw1 o) (fun h => h) (fun _ _ h => h) (fun _ _ h => h) (fun _ _ h => h), HFR.out.alloc o, HUB.out⟩
      have HSKIP := Lib.hid hskip; clear hskip
      by_cases e1 : x.m.from_ = id
      · have d1 : (x.m.from_ == id) = true := by simpa using e1
        have d2 : (x.m.from_ != id) = false := by simpa using e1
        have HG := Lib.hid (HSKIP.out (show gone id x.m = true by unfold gone; rw [decide_eq_true e1]; rfl)); clear HSKIP hks e1
        go_wp2_with fail
        go_roundw
        case rel => exact HG.out _
        case measure => simp [intOf]; omega
      · by_cases e2 : x.m.to_ = id
        · have d1 : (x.m.from_ == id) = false := by simpa using e1
          have d2 : (x.m.from_ != id) = true := by simpa using e1
          have d3 : (x.m.to_ == id) = true := by simpa using e2
          have d4 : (x.m.to_ != id) = false := by simpa using e2
          have HG := Lib.hid (HSKIP.out (show gone id x.m = true by unfold gone; rw [decide_eq_true e2, Bool.or_true])); clear HSKIP hks e1 e2
          go_wp2_with fail
          go_roundw
          case rel => exact HG.out _
          case measure => simp [intOf]; omega
        · have d1 : (x.m.from_ == id) = false := by simpa using e1
          have d2 : (x.m.from_ != id) = true := by simpa using e1
          have d3 : (x.m.to_ == id) = false := by simpa using e2
          have d4 : (x.m.to_ != id) = true := by simpa using e2
          have hg : gone id x.m = false := by unfold gone; rw [decide_eq_false e1, decide_eq_false e2]; rfl
          rw [hg, if_neg (by simp)] at hks
          have HKS := Lib.hid hks; clear hks
          clear HSKIP e1 e2 hg
          go_wp2_with (at_builtin; refine stop ?_)
          refine back ?_
          have hbz : base ≤ (wr.alloc (.cells #[.int .i64 x.m.kind, .int .i64 x.m.from_, .int .i64 x.m.to_, .int .i64 x.m.epoch, .int .i64 x.m.n, .int .i64 x.m.cmd.kind, .int .i64 x.m.cmd.tx, .int .i64 x.m.cmd.time, .slice x.A x.n x.k] 26)).heap.size := by have := HIR.out.bg; simp; omega
          refine wpList_plain rfl (fun K hK => ?_)
          refine wp_append1 (wr.alloc (.cells #[.int .i64 x.m.kind, .int .i64 x.m.from_, .int .i64 x.m.to_, .int .i64 x.m.epoch, .int .i64 x.m.n, .int .i64 x.m.cmd.kind, .int .i64 x.m.cmd.tx, .int .i64 x.m.cmd.time, .slice x.A x.n x.k] 26)) (wr.heap.size + 1) (by simp) _ (.tmp 38) (.tmp 40) 68 rfl base 26 _ 9 88 Tryd.underlying68 msg_info rfl (by decide) _ l.length _ #[.int .i64 x.m.kind, .int .i64 x.m.from_, .int .i64 x.m.to_, .int .i64 x.m.epoch, .int .i64 x.m.n, .int .i64 x.m.cmd.kind, .int .i64 x.m.cmd.tx, .int .i64 x.m.cmd.time, .slice x.A x.n x.k] rfl ((hw1 _).own HROW.out (fun _ _ h => h)) 1 rfl _ rfl rfl (by simp [Value.oneCell']) (by unfold maxLen; omega) (by omega) hbz ?_
          intro V3 w3 hrow3 hm3
          refine hK _ _ ?_
          clear hK K
          have hlx : (l ++ [x]).length = l.length + 1 := by simp
          have hrow3' : w3.ownsRow base 26 9 V3 (l ++ [x]).length ((l ++ [x]).flatMap mrCells) := by rw [hlx, List.flatMap_append, List.flatMap_singleton]; exact hrow3
          have hf3 : Fr (fun k => w2.heap.size ≤ k) wr w3 := ((hw1 _).mono (T := fun k => w2.heap.size ≤ k) (fun i _ h => h.elim)).trans (hm3.1.mono (T := fun k => w2.heap.size ≤ k) (fun i _ e => HUB.out i e.symm))
          have hub3 : ∀ b, V3.ownBlock = some b → w2.heap.size ≤ b := fun b hb => by
            rcases hm3.2 with e | ⟨b', e, hb'⟩
            · exact HUB.out b (e ▸ hb)
            · rw [e] at hb; injection hb with hb; simp at hb'; omega
          have hrel2 : RdRel base h VL (.slice A1 (dl.length + 1) c1') L (dl ++ [id]) lost id w2 (.int .i64 ((j : Int) + 1)) V3 w3 :=
            ⟨j + 1, l ++ [x], rfl, by omega, by rw [HKS.out, HLK.out], hrow3', HI2.out.fr (HFR.out.trans hf3) (fun e : w2.heap.size ≤ h => by omega) (fun b hb (e : w2.heap.size ≤ b) => by have := (HI2.out.llt hb).2; omega) (fun b hb (e : w2.heap.size ≤ b) => by have := (HI2.out.dlt hb).2; omega) (fun b hb (e : w2.heap.size ≤ b) => by have := HI2.out.bg; omega), HFR.out.trans hf3, hub3⟩
          have HREL := Lib.hid hrel2; clear hrel2 hrow3 hrow3' hf3 hub3 hm3 hlx
          go_wp2_with fail
          go_roundw
          case rel => exact HREL.out
          case measure => simp [intOf]; omega
    · obtain rfl : j = L.length := by omega
      rw [List.take_of_length_le (Nat.le_refl _)] at hlk
      subst hlk
      have hkl : (kept id L).length ≤ L.length := List.length_filter_le _ _
      have c0 := hIr.blk.cell 0
      have f0 := hIr.blk.frozen 0
      have c2 := hIr.blk.cell 2
      have f2 := hIr.blk.frozen 2
      have hlo := hIr.lo
      have hhr := hIr.blk.lt
      simp only [List.getElem?_toArray, List.getElem?_cons_succ, List.getElem?_cons_zero] at c0 c2
      rw [HVL.out] at c0
      have hLd : ∀ b, Value.ownBlock (.slice A1 (dl.length + 1) c1') = some b → VL.ownBlock ≠ some b := fun b hb e => own_apart hIr.rowL hIr.rowD (by decide) e hb
      have hN := ref_row hIr (Fr.refl _ _) hLd hrow (Nat.le_trans hkl hLen) (fun y hy => hIr.rd y (List.mem_filter.1 hy).1)
      have hN2 := ref_lost hN (lost + ((L.length : Int) - (kept id L).length)) (by omega) (by omega)
      have hfin : RDownPost base h VL VD L dl lost id w (.returned (.int .i64 ((L.length : Int) - (kept id L).length))) ((wr.setCell ⟨h, 0, none⟩ (.slice Al (kept id L).length cl)).setCell ⟨h, 2, none⟩ (.int .i64 (lost + ((L.length : Int) - (kept id L).length)))) :=
        ⟨_, _, _, rfl, rfl, hN2, (((HF2.out.trans' hfr (fun i hi (e : w2.heap.size ≤ i) => absurd hi (by have := HF2.out.size; omega))).setCell (p := ⟨h, 0, none⟩) (.inl (.inl rfl)) _).setCell (p := ⟨h, 2, none⟩) (.inl (.inl rfl)) _), fun b hb => Nat.le_trans HF2.out.size (hub b hb), HDN.out, fun b hb e => own_apart hN2.rowL hN2.rowD (by decide) e hb⟩
      have HFIN := Lib.hid hfin; clear hfin hN hN2 hLd hrow hIr hfr hub
      go_wp2_with fail
      go_ret
      exact HFIN.out
end Go.Proofs.YtnahkpfamocnfaaDoor
