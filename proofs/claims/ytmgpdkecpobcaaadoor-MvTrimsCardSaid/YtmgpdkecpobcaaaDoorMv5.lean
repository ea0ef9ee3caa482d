/- mv: Put, the way that puts. -/
import Derived.Test.YtmgpdkecpobcaaaDoorMv4
import Derived.Deep.QuietTactic
import Derived.BigQuiet
import Derived.Deep.DeepCutAuto
namespace Go.Proofs.YtmgpdkecpobcaaaDoor
open Go.RowKit
theorem mk_sx (s : ByteArray) : (⟨(sx s).toArray⟩ : ByteArray) = s := sx_inj (sx_mk (sx s))
section
variable (base n g : Nat) (mb : Option Nat) (loc : Sx → Value) (K : Kp) (low : Int) (key val : ByteArray) (gone : Bool) (t : Int) (w : World) (hI : StI w base n g mb loc K low)
include hI
set_option maxRecDepth 100000 in
set_option maxHeartbeats 16000000 in
theorem put_rest (h : ¬ (t < 0 ∨ 1099511627776 < t)) (hl : ¬ (20 < (sx key).length ∨ 40 < (sx val).length)) (hlo : ¬ t < low) (hn : n + 1 ≤ 100000) : Calls Tryd.prog 6 #[.pointer (some ⟨g, 0, none⟩), .int .i64 t, .agg #[.string key, .string val, .bool gone]] w (PutPost base n g mb loc K low ⟨sx key, sx val, gone, t⟩ w) := by
  have hps : putS K low ⟨sx key, sx val, gone, t⟩ = if hasV (K (sx key)) t then (9, K) else (0, putK K (sx key) (insV (K (sx key)) (ofR ⟨sx key, sx val, gone, t⟩))) := by
    unfold putS; rw [if_neg h, if_neg hl, if_neg hlo]
  have HPS := Lib.hid hps; clear hps
  have hb0 : Below w.heap.size w (w.alloc (.cells #[.string key, .string val, .bool gone] 29)) := (Below.refl _ _).alloc (Nat.le_refl _) _
  have hp0 : Blk (w.alloc (.cells #[.string key, .string val, .bool gone] 29)) w.heap.size 29 #[.string key, .string val, .bool gone] := Blk.new _ _ _
  have hI0 := hI.tall hb0
  have c1 := hI.blk.cell 1
  have hgl := hI.blk.lt
  simp only [List.getElem?_toArray, List.getElem?_cons_zero, List.getElem?_cons_succ] at c1
  have d1 : decide (t < 0) = false := decide_eq_false (fun e => h (.inl e))
  have d2 : decide (t > 1099511627776) = false := decide_eq_false (fun e => h (.inr e))
  have d5 : decide (t < low) = false := decide_eq_false hlo
  have hks : (sx key).length ≤ 20 := by omega
  have hkm : key.size ≤ maxLen := by rw [size_sx]; unfold maxLen; omega
  rw [← size_sx, ← size_sx] at hl
  have d3 : decide ((key.size : Int) > 20) = false := decide_eq_false (by omega)
  have d4 : decide ((val.size : Int) > 40) = false := decide_eq_false (by omega)
  have ht0 : 0 ≤ t := by omega
  have htm : t ≤ 1099511627776 := by omega
  have HII := Lib.hid hI; clear hI
  have HI0 := Lib.hid hI0; clear hI0
  have HP0 := Lib.hid hp0; clear hp0
  have HB0 := Lib.hid hb0; clear hb0
  clear h hl
  go_enter Tryd.func6, Tryd.ntmps6
  go_upto_region 7 with (fail)
  clear d1 d2 d3 d4 d5 c1
  generalize hw0 : w.alloc (.cells #[.string key, .string val, .bool gone] 29) = w0 at *
  have hz0 : w0.heap.size = w.heap.size + 1 := by rw [← hw0]; simp
  have HZ0 := Lib.hid hz0; clear hz0 hw0
  go_cut [7] (fun s7 wx => s7 = stV loc K (sx key) ∧ Below w0.heap.size w0 wx)
  case first =>
    have c0 := HI0.out.blk.cell 0
    have p0 := HP0.out.cell 0
    have hgl0 := HI0.out.blk.lt
    have hpl0 := HP0.out.lt
    simp only [List.getElem?_toArray, List.getElem?_cons_zero] at c0 p0
    have hlk : ∀ q, (Instr.lookup 23 (.map mb) (.string key) false).run Tryd.prog (w0.drewN q) = .ok (stV loc K (sx key)) (w0.drewN q) := fun q => (HI0.out.tall (w' := w0.drewN q) ⟨rfl, rfl, rfl, Nat.le_refl _, fun _ _ => rfl⟩).look hkm
    go_quiet (fail)
    go_wp2_with fail
    go_meet
    exact ⟨rfl, ⟨rfl, rfl, rfl, Nat.le_refl _, fun _ _ => rfl⟩⟩
  case rest =>
    obtain ⟨hu7, hbx⟩ := hcut
    rename World => w1
    have hI1 := HI0.out.tall hbx
    have hp1 := HP0.out.below hbx HP0.out.lt
    have hb1 : Below w.heap.size w w1 := HB0.out.trans (hbx.mono HB0.out.size)
    have hrow := hI1.row (sx key)
    have hlen := Nat.le_trans (hI1.len (sx key)) (show n ≤ 100000 by omega)
    obtain ⟨A, c, hV, hc⟩ := hrow.form
    rw [hV] at hu7
    subst hu7
    have hse := search_any 20 base (.slice A (K (sx key)).length c) (K (sx key)) t w1 (enters_v Tryd.func20 (by kernel_rfl) rfl) (fun W x => cmpPut_any t x W) (hV ▸ hrow) (hI1.sorted _) hlen (hI1.times _) ht0 (by omega)
    have HSE := Lib.hid hse; clear hse
    have HV := Lib.hid hV; clear hV hrow
    have HI1 := Lib.hid hI1; clear hI1
    have HP1 := Lib.hid hp1; clear hp1
    have HB1 := Lib.hid hb1; clear hb1 hbx
    go_wp2_with fail
    refine HSE.out.mono ?_
    rintro e w2 ⟨rfl, hb2⟩
    have hI2 := HI1.out.tall hb2
    have hp2 := HP1.out.below hb2 HP1.out.lt
    have hbw2 := HB1.out.trans (hb2.mono HB1.out.size)
    have HI2 := Lib.hid hI2; clear hI2
    have HP2 := Lib.hid hp2; clear hp2
    have HB2 := Lib.hid hbw2; clear hbw2 hb2 HSE
    rcases hh : hasV (K (sx key)) t with _ | _
    · --{new
      have HPE := Lib.hid (HPS.out.trans (if_neg (by rw [hh]; decide)))
      have HHV := Lib.hid hh; clear hh
      have c0 := HI2.out.blk.cell 0
      have f0 := HI2.out.blk.frozen 0
      have hgl2 := HI2.out.blk.lt
      simp only [List.getElem?_toArray, List.getElem?_cons_zero] at c0
      have hn0 := fun W => eql_map_nilV W 23 _ _ mb Tryd.underlying23
      have hfinf : ∀ (w3 : World) (b : Nat) (w8 : World), Fr (SFr g mb loc K) w w3 → (∀ q, SFr g (some b) loc K q → SFr g mb loc K q ∨ w.heap.size ≤ q) → StP base (n + 1) g (some b) loc K (putK K (sx key) (insV (K (sx key)) (ofR ⟨sx key, sx val, gone, t⟩))) low w3 w8 → PutPost base n g mb loc K low ⟨sx key, sx val, gone, t⟩ w (.returned .nilIface) w8 := fun w3 b w8 h1 h2 h3 => by
        unfold PutPost
        rw [HPE.out]
        exact ⟨rfl, StP.trans h1 h2 h3⟩
      have HFINF := Lib.hid hfinf; clear hfinf
      rcases mb with _ | b
      case' none =>
        have hmm := @run_makeMap Tryd.prog
        have hmd := HI2.out.made
        have hpast : (w2.alloc (.map #[] 0)).setCell ⟨g, 0, none⟩ (.map (some w2.heap.size)) = (w2.setCell ⟨g, 0, none⟩ (.map (some w2.heap.size))).alloc (.map #[] 0) := by
          rw [World.setCell_alloc_past _ _ _ _ (by omega)]
        have hfr : Fr (SFr g none loc K) w ((w2.alloc (.map #[] 0)).setCell ⟨g, 0, none⟩ (.map (some w2.heap.size))) := ((show Fr (SFr g none loc K) w w2 from ⟨HB2.out.os, HB2.out.tape, HB2.out.output, HB2.out.size, fun k hk _ => HB2.out.block k hk⟩).alloc _).setCell (p := ⟨g, 0, none⟩) (.inl (.inl rfl)) _
        have hp3 : Blk ((w2.alloc (.map #[] 0)).setCell ⟨g, 0, none⟩ (.map (some w2.heap.size))) w.heap.size 29 #[.string key, .string val, .bool gone] := (Fr.set1 g _ 0 _).blk (HP2.out.alloc _) (fun e : w.heap.size = g => by have := HII.out.blk.lt; omega)
        rw [hpast] at hmd hfr hp3
        clear hpast
        have HFT := Lib.hid (show ∀ q, SFr g (some w2.heap.size) loc K q → SFr g none loc K q ∨ w.heap.size ≤ q from fun q hq => by
          rcases hq with hq | hq | hq
          · exact .inl (.inl hq)
          · injection hq with hq; have := HB2.out.size; exact .inr (by omega)
          · exact .inl (.inr (.inr hq)))
        have HMD := Lib.hid hmd; clear hmd
        have HFR := Lib.hid hfr; clear hfr
        have HP3 := Lib.hid hp3; clear hp3
        go_upto_region 13 with (fail)
        clear hmm c0 f0
        generalize hb : w2.heap.size = b at *
        generalize (w2.setCell ⟨g, 0, none⟩ (.map (some b))).alloc (.map #[] 0) = w3 at *
      case' some =>
        have HMD : Hid (StI w2 base n g (some b) loc K low) := HI2
        have HFR := Lib.hid (show Fr (SFr g (some b) loc K) w w2 from ⟨HB2.out.os, HB2.out.tape, HB2.out.output, HB2.out.size, fun k hk _ => HB2.out.block k hk⟩)
        have HFT := Lib.hid (show ∀ q, SFr g (some b) loc K q → SFr g (some b) loc K q ∨ w.heap.size ≤ q from fun q hq => .inl hq)
        have HP3 := HP2
        go_upto_region 13 with (fail)
        clear c0 f0
        obtain ⟨w3, rfl⟩ : ∃ w3 : World, w3 = w2 := ⟨w2, rfl⟩
      all_goals
        clear hn0 HI2 HP2 HB2 HI1 HP1 HB1 HI0 HP0 hgl2
        have p1 := HP3.out.cell 1
        have p2 := HP3.out.cell 2
        have pl := HP3.out.lt
        simp only [List.getElem?_toArray, List.getElem?_cons_zero, List.getElem?_cons_succ] at p1 p2
        have hv4 : Blk (w3.alloc (.cells #[.int .i64 t, .string val, .bool gone] 67)) w3.heap.size 67 #[.int .i64 t, .string val, .bool gone] := Blk.new _ _ _
        have hb4 : Below w3.heap.size w3 (w3.alloc (.cells #[.int .i64 t, .string val, .bool gone] 67)) := (Below.refl _ _).alloc (Nat.le_refl _) _
        have HP4 := Lib.hid (HP3.out.below hb4 pl)
        have HV4 := Lib.hid hv4; clear hv4
        have HB4 := Lib.hid hb4; clear hb4
        go_upto_region 14 with (fail)
        clear p1 p2 pl
        generalize w3.alloc (.cells #[.int .i64 t, .string val, .bool gone] 67) = w4 at *
        have p2 := HP4.out.cell 2
        have pl := HP4.out.lt
        simp only [List.getElem?_toArray, List.getElem?_cons_zero, List.getElem?_cons_succ] at p2
        go_upto_if 70 with (fail)
        clear p2 pl
        go_cut [] (fun wx => Blk wx w3.heap.size 67 (vxCells (ofR ⟨sx key, sx val, gone, t⟩)).toArray ∧ Fr (fun k => k = w3.heap.size) w4 wx)
        case first =>
          have v1 := HV4.out.cell 1
          have vf := HV4.out.frozen 1
          have vl := HV4.out.lt
          simp only [List.getElem?_toArray, List.getElem?_cons_zero, List.getElem?_cons_succ] at v1
          rcases gone with _ | _
          · go_wp2_with fail
            go_meet
            exact ⟨by unfold vxCells ofR; simp only [Bool.false_eq_true, if_false, mk_sx]; exact HV4.out, Fr.refl _ _⟩
          · have hfin : Blk (w4.setCell ⟨w3.heap.size, 1, none⟩ (.string ⟨#[]⟩)) w3.heap.size 67 (vxCells (ofR ⟨sx key, sx val, true, t⟩)).toArray ∧ Fr (fun k => k = w3.heap.size) w4 (w4.setCell ⟨w3.heap.size, 1, none⟩ (.string ⟨#[]⟩)) := ⟨by unfold vxCells ofR; simp only [if_true]; exact HV4.out.set_ 1 _, Fr.set1 _ _ _ _⟩
            have HF := Lib.hid hfin; clear hfin
            go_wp2_with fail
            go_meet
            exact HF.out
        case rest =>
          obtain ⟨hv5, hf5⟩ := hcut
          rename World => w5
          obtain ⟨vv, hvv⟩ : ∃ vv : ByteArray, vv = ⟨(if gone then [] else sx val).toArray⟩ := ⟨_, rfl⟩
          have hvc : (vxCells (ofR ⟨sx key, sx val, gone, t⟩)).toArray = #[.int .i64 t, .string vv, .bool gone] := by rw [hvv]; rfl
          rw [hvc] at hv5
          have HVC := Lib.hid hvc; clear hvc hvv
          have hb35 : Below w3.heap.size w3 w5 := HB4.out.trans (hf5.below (fun i e => by omega) HB4.out.size)
          have hI5 := HMD.out.tall hb35
          have hp5 := HP3.out.below hb35 HP3.out.lt
          have hcar : ∀ W, Below w5.heap.size w5 W → W.cell? ⟨g, 0, none⟩ = some (.map (some b)) ∧ W.cell? ⟨w.heap.size, 0, none⟩ = some (.string key) ∧ W.cell? ⟨w3.heap.size, 0, none⟩ = some (.int .i64 t) ∧ W.cell? ⟨w3.heap.size, 1, none⟩ = some (.string vv) ∧ W.cell? ⟨w3.heap.size, 2, none⟩ = some (.bool gone) := fun W hW => by
            have k0 := (hI5.blk.below hW hI5.blk.lt).cell 0
            have k1 := (hp5.below hW hp5.lt).cell 0
            have hk := hv5.below hW hv5.lt
            have v0 := hk.cell 0
            have v1 := hk.cell 1
            have v2 := hk.cell 2
            simp only [List.getElem?_toArray, List.getElem?_cons_zero, List.getElem?_cons_succ] at k0 k1 v0 v1 v2
            exact ⟨k0, k1, v0, v1, v2⟩
          have HCAR := Lib.hid hcar; clear hcar hv5
          have HI5 := Lib.hid hI5; clear hI5
          have HB35 := Lib.hid hb35; clear hb35 hf5 HV4 HP4 HB4 hp5
          go_wp2_with fail
          refine wp_region_any (by kernel_rfl) ?_
          change wpAny _ _ _ _ _ _ _ (World.drew _)
          refine nplainQ (fun W => W.cell? ⟨g, 0, none⟩ = some (.map (some b)) ∧ W.cell? ⟨w.heap.size, 0, none⟩ = some (.string key) ∧ W.cell? ⟨w3.heap.size, 0, none⟩ = some (.int .i64 t) ∧ W.cell? ⟨w3.heap.size, 1, none⟩ = some (.string vv) ∧ W.cell? ⟨w3.heap.size, 2, none⟩ = some (.bool gone)) 11 (fun _ _ _ _ _ h => h) (fun HQP => ?_)
          have HCC := HCAR.out w5.drew (Below.refl _ _).drew
          refine ntakeW 0 rfl rfl (by kernel_rfl) (by kernel_rfl) (by kernel_rfl) (by kernel_rfl) (fun _ _ _ h => HQP _ _ _ _ _ h) (by kernel_rfl) HCC (fun w' hw' => by go_simp; rfl) ?_
          refine ntakeW 1 rfl rfl (by kernel_rfl) (by kernel_rfl) (by kernel_rfl) (by kernel_rfl) (fun _ _ _ h => HQP _ _ _ _ _ h) (by kernel_rfl) HCC (fun w' hw' => by go_simp; rfl) ?_
          refine ntakeW 2 rfl rfl (by kernel_rfl) (by kernel_rfl) (by kernel_rfl) (by kernel_rfl) (fun _ _ _ h => HQP _ _ _ _ _ h) (by kernel_rfl) HCC (fun w' hw' => by go_simp; rfl) ?_
          refine ntakeW 3 rfl rfl (by kernel_rfl) (by kernel_rfl) (by kernel_rfl) (by kernel_rfl) (fun _ _ _ h => HQP _ _ _ _ _ h) (by kernel_rfl) HCC (fun w' hw' => by obtain ⟨q0, q1, q2, q3, q4⟩ := hw'; go_simp; rfl) ?_
          refine ntakeW 4 rfl rfl (by kernel_rfl) (by kernel_rfl) (by kernel_rfl) (by kernel_rfl) (fun _ _ _ h => HQP _ _ _ _ _ h) (by kernel_rfl) HCC (fun w' hw' => by go_simp; rfl) ?_
          refine ntakeW 5 rfl rfl (by kernel_rfl) (by kernel_rfl) (by kernel_rfl) (by kernel_rfl) (fun _ _ _ h => HQP _ _ _ _ _ h) (by kernel_rfl) HCC (fun w' hw' => by obtain ⟨q0, q1, q2, q3, q4⟩ := hw'; go_simp; rfl) ?_
          refine ntakeW 6 rfl rfl (by kernel_rfl) (by kernel_rfl) (by kernel_rfl) (by kernel_rfl) (fun _ _ _ h => HQP _ _ _ _ _ h) (by kernel_rfl) HCC (fun w' hw' => by go_simp; rfl) ?_
          refine ntakeW 7 rfl rfl (by kernel_rfl) (by kernel_rfl) (by kernel_rfl) (by kernel_rfl) (fun _ _ _ h => HQP _ _ _ _ _ h) (by kernel_rfl) HCC (fun w' hw' => by go_simp; rfl) ?_
          refine ntakeW 8 rfl rfl (by kernel_rfl) (by kernel_rfl) (by kernel_rfl) (by kernel_rfl) (fun _ _ _ h => HQP _ _ _ _ _ h) (by kernel_rfl) HCC (fun w' hw' => by obtain ⟨q0, q1, q2, q3, q4⟩ := hw'; go_simp; rfl) ?_
          clear HCC
          refine nonly 9 (by kernel_rfl) rfl (by kernel_rfl) (fun KK hK => ?_)
          go_simp
          refine hK _ _ (fun _ => HCAR.out _ ((Below.refl _ _).alloc (Nat.le_refl _) _).drew) ?_
          clear hK KK
          have hb6 : Below w5.heap.size w5 (w5.drew.alloc (.cells #[.int .i64 t, .string vv, .bool gone] 67)) := (Below.refl _ _).drew.alloc (Nat.le_refl _) _
          have hv6 : Blk (w5.drew.alloc (.cells #[.int .i64 t, .string vv, .bool gone] 67)) w5.heap.size 67 (vxCells (ofR ⟨sx key, sx val, gone, t⟩)).toArray := by rw [HVC.out]; exact Blk.new w5.drew _ _
          have hI6 := HI5.out.tall hb6
          have hrow6 := hI6.row (sx key)
          rw [HV.out] at hrow6
          have hins := vrow_ins base w5.heap.size 1 (.slice A (K (sx key)).length c) (K (sx key)) (ofR ⟨sx key, sx val, gone, t⟩) _ hrow6 hlen hv6 (fun e => by
            rw [← HV.out] at e
            obtain ⟨k1, k2⟩ := stV_own e
            have := ((HI5.out.rows _ k1).block k2).2.1
            omega) (by have := HI5.out.lo; have := HI5.out.blk.lt; have := hb6.size; omega)
          have HINS := Lib.hid hins; clear hins hv6 hrow6
          have HI6 := Lib.hid hI6; clear hI6
          have HB6 := Lib.hid hb6; clear hb6
          refine nonly 10 (by kernel_rfl) rfl (by kernel_rfl) (fun KK hK => ?_)
          go_simp
          refine HINS.out.mono ?_
          rintro e w7 ⟨V7, rfl, hrow7, hm7⟩
          have hC7 : w7.cell? ⟨g, 0, none⟩ = some (.map (some b)) ∧ w7.cell? ⟨w.heap.size, 0, none⟩ = some (.string key) ∧ w7.cell? ⟨w3.heap.size, 0, none⟩ = some (.int .i64 t) ∧ w7.cell? ⟨w3.heap.size, 1, none⟩ = some (.string vv) ∧ w7.cell? ⟨w3.heap.size, 2, none⟩ = some (.bool gone) := by
            obtain ⟨q0, q1, q2, q3, q4⟩ := HCAR.out _ HB6.out
            have hne : ∀ q, SFoot (some b) loc K q ∨ True → q = g ∨ w.heap.size ≤ q → ¬ some q = (Value.slice A (K (sx key)).length c).ownBlock := fun q _ hq e => by
              rw [← HV.out] at e
              obtain ⟨k1, k2⟩ := stV_own e.symm
              rcases hq with rfl | hq
              · exact HI6.out.notKeyG k1 k2
              · have := ((HII.out.rows _ k1).block k2).2.1
                omega
            have hlt : ∀ q, q < w5.heap.size → q < (w5.drew.alloc (.cells #[.int .i64 t, .string vv, .bool gone] 67)).heap.size := fun q hq => Nat.lt_of_lt_of_le hq HB6.out.size
            have hg5 := HI5.out.blk.lt
            have h3z : w.heap.size ≤ w3.heap.size := HFR.out.size
            have h5z : w3.heap.size < w5.heap.size := by
              have := World.block_lt_of_cell? w5 ⟨w3.heap.size, 0, none⟩ (HCAR.out w5 (Below.refl _ _)).2.2.1
              exact this
            refine ⟨(hm7.1.cell (p := ⟨g, 0, none⟩) (hlt g hg5) (hne g (.inr trivial) (.inl rfl))).trans q0, (hm7.1.cell (p := ⟨w.heap.size, 0, none⟩) (hlt _ (by show w.heap.size < _; omega)) (hne _ (.inr trivial) (.inr (Nat.le_refl _)))).trans q1, (hm7.1.cell (p := ⟨w3.heap.size, 0, none⟩) (hlt _ h5z) (hne _ (.inr trivial) (.inr h3z))).trans q2, (hm7.1.cell (p := ⟨w3.heap.size, 1, none⟩) (hlt _ h5z) (hne _ (.inr trivial) (.inr h3z))).trans q3, (hm7.1.cell (p := ⟨w3.heap.size, 2, none⟩) (hlt _ h5z) (hne _ (.inr trivial) (.inr h3z))).trans q4⟩
          have hmap7 : MapG kV w7 b n (vmap loc K) := (show MapG kV _ b n (vmap loc K) from HI6.out.map).fr hm7.1 (fun e => by
            rw [← HV.out] at e
            obtain ⟨k1, k2⟩ := stV_own e.symm
            exact HI6.out.notKeyBlk k1 k2)
          have HC7 := Lib.hid hC7; clear hC7
          have HMP7 := Lib.hid hmap7; clear hmap7
          have HROW7 := Lib.hid hrow7; clear hrow7
          have HM7 := Lib.hid hm7; clear hm7 HINS
          go_simp
          refine hK _ _ (fun _ => HC7.out) ?_
          clear hK KK
          refine nonly 11 (by kernel_rfl) rfl (by kernel_rfl) (fun KK hK => ?_)
          refine wp_setG (C := kV) 23 63 Tryd.underlying23 (.tmp 75) (.tmp 77) _ rfl (by simp [Act.eval, Act.put]) HMP7.out (by unfold maxLen; omega) key V7 (by simp [Act.eval, Act.put, kV, keyS]) (by simp [Act.eval, Act.put]) hkm ?_
          intro w8 hm8 hf8
          have hstp : StP base (n + 1) g (some b) loc K (putK K (sx key) (insV (K (sx key)) (ofR ⟨sx key, sx val, gone, t⟩))) low w3 w8 := by
            have hne : insV (K (sx key)) (ofR ⟨sx key, sx val, gone, t⟩) ≠ [] := fun e => by have := insV_len (K (sx key)) (ofR ⟨sx key, sx val, gone, t⟩); rw [e] at this; simp at this
            have hmv := HM7.out
            rw [← HV.out] at hmv
            obtain ⟨s1, s2, s3⟩ := StI.setK (n2 := n + 1) (by omega) HI6.out hks hne (fun v hv => by
              rcases insV_mem.1 hv with rfl | hv
              · exact ⟨ht0, htm⟩
              · exact HII.out.times _ v hv) (insV_sorted (HII.out.sorted _) HHV.out) (by rw [insV_len]; have := HII.out.len (sx key); omega) (.inl HROW7.out) hmv hm8 hf8
            have hb36 := HB35.out.trans (HB6.out.mono HB35.out.size)
            exact StP.trans ⟨hb36.os, hb36.tape, hb36.output, hb36.size, fun k hk _ => hb36.block k hk⟩ (fun q h => .inl h) ⟨_, _, s1, s2, s3⟩
          have hfin := HFINF.out w3 b w8 HFR.out HFT.out hstp
          have HF := Lib.hid hfin; clear hfin hm8 hf8
          refine hK _ _ (fun h => absurd h (by decide)) ?_
          clear hK KK
          refine ndone (by kernel_rfl) ?_ _
          clear HQP
          go_wp2_with fail
          go_ret
          exact HF.out
      --}new
    · --{twice
      have hfin : PutPost base n g mb loc K low ⟨sx key, sx val, gone, t⟩ w (.returned (.iface 43 (.int .i64 9))) w2 := by
        unfold PutPost
        rw [HPS.out, if_pos hh]
        exact ⟨rfl, StP.below HII.out (Nat.le_succ n) HB2.out⟩
      have HF := Lib.hid hfin; clear hfin hh
      go_wp2_with fail
      go_ret
      exact HF.out
      --}twice
theorem put_any (hn : n + 1 ≤ 100000) : Calls Tryd.prog 6 #[.pointer (some ⟨g, 0, none⟩), .int .i64 t, .agg #[.string key, .string val, .bool gone]] w (PutPost base n g mb loc K low ⟨sx key, sx val, gone, t⟩ w) := by
  by_cases h : t < 0 ∨ 1099511627776 < t
  · exact put_range base n g mb loc K low key val gone t w hI h
  · by_cases hl : 20 < (sx key).length ∨ 40 < (sx val).length
    · exact put_limit base n g mb loc K low key val gone t w hI h hl
    · by_cases hlo : t < low
      · exact put_none base n g mb loc K low key val gone t w hI h hl hlo
      · exact put_rest base n g mb loc K low key val gone t w hI h hl hlo hn
end
end Go.Proofs.YtmgpdkecpobcaaaDoor
