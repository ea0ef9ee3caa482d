/- chainmailref.Table: Release. -/
import Derived.Test.YtopmehbncidpnaaGreatDoorRt9
namespace Go.Proofs.YtopmehbncidpnaaGreatDoor
open Go.RowKit
/-- A list filtered, one by one, into a row of one's own. -/
def PfRel (p : Ak → Bool) (L : List Ak) (w : World) (v5 v10 : Value) (wr : World) : Prop :=
  ∃ i : Nat, v10 = .int .i64 i ∧ i ≤ L.length ∧ wr.ownsRow w.heap.size 37 3 v5 ((L.take i).filter p).length (((L.take i).filter p).flatMap akCells) ∧ Below w.heap.size w wr
def KStr (w : World) (V5 : Value) (ks : List Sx) : KRow := fun b e sz n v xs => b = w.heap.size ∧ e = 9 ∧ sz = 1 ∧ n = ks.length ∧ v = V5 ∧ xs = ks.map encStr
def KInt (K : KRow) (b0 : Nat) (V : Value) (l : List Int) : KRow := fun b e sz n v xs => K b e sz n v xs ∨ (b = b0 ∧ e = 3 ∧ sz = 1 ∧ n = l.length ∧ v = V ∧ xs = l.map (Value.int .i64))
def RoRel (base g N : Nat) (VH0 VW0 : Value) (w : World) (V5 : Value) (ks : List Sx) (s0 : List Ak × List Ak × List Ak) (v12 v67 : Value) (wr : World) : Prop :=
  ∃ (j : Nat) (VH VW : Value) (H W O : List Ak), v67 = .int .i64 j ∧ j ≤ ks.length ∧ (ks.take j).foldl grantK s0 = (H, W, O) ∧ ReS base g VH0 VW0 w (KStr w V5 ks) VH VW H W O v12 wr ∧ szR N (H, W, O)
def RmRel (base g N : Nat) (VH0 VW0 : Value) (w : World) (K : KRow) (x : Sx) (l : List Int) (s0 : List Ak × List Ak × List Ak) (v12 v75 : Value) (wr : World) : Prop :=
  ∃ (j : Nat) (VH VW : Value) (H W O : List Ak), v75 = .int .i64 j ∧ j ≤ l.length ∧ (l.take j).foldl (grant1 x) s0 = (H, W, O) ∧ ReS base g VH0 VW0 w K VH VW H W O v12 wr ∧ szR N (H, W, O)
def RiRel (x : Sx) (o : Int) (H W : List Ak) (U12 : Value) (wm : World) (v12 v84 : Value) (wr : World) : Prop :=
  ∃ i : Nat, v84 = .int .i64 i ∧ v12 = U12 ∧ i ≤ W.length ∧ (∀ b ∈ W.take i, grB x o H W b = false) ∧ Below wm.heap.size wm wr
theorem waitR_len (W : List Ak) (x : Sx) : (waitR W x).length ≤ W.length := by
  unfold waitR sortI
  rw [List.length_mergeSort, List.length_map]
  exact List.length_filter_le _ _
theorem sx_mk (x : Sx) : sx ⟨x.toArray⟩ = x := by simp [sx]
def RrPost (base g : Nat) (VH VW : Value) (r : List Ak × List Ak × List Ak) (w : World) (e : Ending) (w' : World) : Prop :=
  ∃ V, e = .returned V ∧ RtS base g VH VW r.1 r.2.1 w w' ∧ w'.ownsRow w.heap.size 37 3 V r.2.2.length (r.2.2.flatMap akCells)
set_option maxRecDepth 100000 in
set_option maxHeartbeats 16000000 in
theorem rrelease_any (base g : Nat) (VH VW : Value) (H Wt : List Ak) (tx : Int) (w : World) (hI : RtI w base g VH VW H Wt) (hsm : ∀ a ∈ H ++ Wt, a.key.length ≤ 20) (hn : H.length + Wt.length ≤ 1000000) :
    Calls Tryz.prog 8 #[.pointer (some ⟨g, 0, none⟩), .int .i64 tx] w (RrPost base g VH VW (releaseR H Wt tx) w) := by
  have hbw : base ≤ w.heap.size := by have := hI.lo; have := hI.blk.lt; omega
  have HK := Lib.hid (rkeys_any base g VH VW H Wt w hI hsm (by omega) (by omega))
  obtain ⟨A, c, hVH, _, _⟩ := own_slice hI.rowH
  obtain ⟨A', c', hVW, _, _⟩ := own_slice hI.rowW
  have HI0 := Lib.hid hI; clear hI
  go_enter Tryz.func8, Tryz.ntmps8
  go_wp2_with fail
  refine HK.out.mono ?_
  rintro e w1 ⟨V5, rfl, hrow5, hb1⟩
  clear HK
  have hI1 := HI0.out.tall hb1
  have c0 := hI1.blk.cell 0
  have hgl := hI1.blk.lt
  simp only [List.getElem?_toArray, List.getElem?_cons_zero] at c0
  rw [hVH] at c0
  have HVH := Lib.hid hVH; clear hVH
  have HVW := Lib.hid hVW; clear hVW
  have HRD := Lib.hid (Rd.of_own (HVH.out ▸ hI1.rowH))
  have HRDW := Lib.hid (Rd.of_own (HVW.out ▸ hI1.rowW))
  have HI1 := Lib.hid hI1; clear hI1
  have HB1 := Lib.hid hb1; clear hb1
  have HR5 := Lib.hid hrow5; clear hrow5
  go_wp2_with fail
  clear c0 hgl
  --{h
  go_loopw [6, 26] (PfRel (fun a => !decide (a.tx = tx)) H w1) (fun _ v _ => H.length - (intOf v).toNat)
  case atStart => exact ⟨0, rfl, Nat.zero_le _, World.ownsRow_nil _ _ _ _, Below.refl _ _⟩
  case round =>
    obtain ⟨i, rfl, hi, hown, hb⟩ := hrel
    by_cases hlti : (i : Int) < H.length
    · --{hr
      obtain ⟨g', o', a, hAe, hga, hx, h0, h1, h2⟩ := (HRD.out.below hb).cellsA rfl (j := i) (by omega)
      subst hAe
      have hgw : g' < wr.heap.size := Nat.lt_of_lt_of_le hga hb.size
      have hbl : Below wr.heap.size wr (wr.alloc (.cells #[.int .i64 a.tx, .string ⟨a.key.toArray⟩, .int .i64 a.mode] 37)) := (Below.refl _ _).alloc (Nat.le_refl _) _
      have hown1 := own_belowK hown hbl
      have hb1 := hb.trans (hbl.mono hb.size)
      have ha1 : Blk (wr.alloc (.cells #[.int .i64 a.tx, .string ⟨a.key.toArray⟩, .int .i64 a.mode] 37)) wr.heap.size 37 #[.int .i64 a.tx, .string ⟨a.key.toArray⟩, .int .i64 a.mode] := Blk.new _ _ _
      have HSL := Lib.hid (wo_size (p := fun a => !decide (a.tx = tx)) hi)
      have HSZ := Lib.hid hb.size; clear hb
      have HX := Lib.hid hx; clear hx
      have HO1 := Lib.hid hown1; clear hown1 hown
      have HBB := Lib.hid hb1; clear hb1 hbl
      have HA1 := Lib.hid ha1; clear ha1
      go_upto_region 6 with (fail)
      clear h0 h1 h2
      generalize hw5 : wr.alloc (.cells #[.int .i64 a.tx, .string ⟨a.key.toArray⟩, .int .i64 a.mode] 37) = w5 at *
      clear hw5
      have a0 := HA1.out.cell 0
      have a1 := HA1.out.cell 1
      have a2 := HA1.out.cell 2
      have al := HA1.out.lt
      simp only [List.getElem?_toArray, List.getElem?_cons_zero, List.getElem?_cons_succ] at a0 a1 a2
      by_cases e1 : a.tx = tx
      · have d1 : (a.tx != tx) = false := by simpa using e1
        have hrel9 : PfRel (fun a => !decide (a.tx = tx)) H w1 u6 (.int .i64 ((i + 1 : Nat) : Int)) w5 := by
          refine ⟨i + 1, rfl, by omega, ?_, HBB.out⟩
          rw [(wo_step (p := fun a => !decide (a.tx = tx)) HX.out).trans (if_neg (by simpa using e1))]
          exact HO1.out
        have HR := Lib.hid hrel9; clear hrel9 e1
        go_wp2_with fail
        go_roundw
        case rel => exact HR.out
        case measure => simp [intOf]; omega
      · have d1 : (a.tx != tx) = true := by simpa using e1
        have htf := (wo_step (p := fun a => !decide (a.tx = tx)) HX.out).trans (if_pos (by simpa using e1))
        have HTF := Lib.hid htf; clear htf e1
        go_wp2_with (at_builtin; refine stop ?_)
        refine back ?_
        refine wpList_append1 _ _ rfl (.tmp 34) (.tmp 36) 27 rfl w1.heap.size 37 (.agg #[.int .i64 0, .string ⟨#[]⟩, .int .i64 0]) 3 32 Tryz.underlying27 a_info rfl (by decide) _ _ _ #[.int .i64 a.tx, .string ⟨a.key.toArray⟩, .int .i64 a.mode] rfl HO1.out 1 rfl _ rfl rfl (by simp [Value.oneCell']) ?_ ?_ ?_ ?_
        · have := HSL.out; unfold maxLen; omega
        · have := HSL.out; omega
        · exact HBB.out.size
        intro v' w9 hown9 hmv
        have hrel9 : PfRel (fun a => !decide (a.tx = tx)) H w1 v' (.int .i64 ((i + 1 : Nat) : Int)) w9 := by
          refine ⟨i + 1, rfl, by omega, ?_, HBB.out.trans (hmv.below (fun b hb => (HO1.out.lt b hb).1) HBB.out.size)⟩
          rw [HTF.out, List.length_append, List.flatMap_append, List.flatMap_singleton]
          exact hown9
        have HR := Lib.hid hrel9; clear hrel9 hown9 hmv
        go_wp2_with fail
        go_roundw
        case rel => exact HR.out
        case measure => simp [intOf]; omega
      --}hr
    · obtain rfl : i = H.length := by omega
      rw [List.take_length] at hown
      rename World => wm
      generalize hU6 : u6 = V6 at *
      clear hU6
      have hIm := HI1.out.tall hb
      have c1 := hIm.blk.cell 1
      have hgl := hIm.blk.lt
      simp only [List.getElem?_toArray, List.getElem?_cons_zero, List.getElem?_cons_succ] at c1
      rw [HVW.out] at c1
      have HRDM := Lib.hid ((HRDW.out.below hb).more hb.size)
      have HBM := Lib.hid hb; clear hb
      have HO6 := Lib.hid hown; clear hown HRD HRDW
      have HIM := Lib.hid hIm; clear hIm
      go_wp2_with fail
      clear c1 hgl
      go_loopw [7, 44] (PfRel (fun a => !decide (a.tx = tx)) Wt wm) (fun _ v _ => Wt.length - (intOf v).toNat)
      case atStart => exact ⟨0, rfl, Nat.zero_le _, World.ownsRow_nil _ _ _ _, Below.refl _ _⟩
      case round =>
        obtain ⟨i, rfl, hi, hown, hb⟩ := hrel
        by_cases hlti : (i : Int) < Wt.length
        · --{wr
          obtain ⟨g', o', a, hAe, hga, hx, h0, h1, h2⟩ := (HRDM.out.below hb).cellsA rfl (j := i) (by omega)
          subst hAe
          have hgw : g' < wr.heap.size := Nat.lt_of_lt_of_le hga hb.size
          have hbl : Below wr.heap.size wr (wr.alloc (.cells #[.int .i64 a.tx, .string ⟨a.key.toArray⟩, .int .i64 a.mode] 37)) := (Below.refl _ _).alloc (Nat.le_refl _) _
          have hown1 := own_belowK hown hbl
          have hb1 := hb.trans (hbl.mono hb.size)
          have ha1 : Blk (wr.alloc (.cells #[.int .i64 a.tx, .string ⟨a.key.toArray⟩, .int .i64 a.mode] 37)) wr.heap.size 37 #[.int .i64 a.tx, .string ⟨a.key.toArray⟩, .int .i64 a.mode] := Blk.new _ _ _
          have HSL := Lib.hid (wo_size (p := fun a => !decide (a.tx = tx)) hi)
          have HSZ := Lib.hid hb.size; clear hb
          have HX := Lib.hid hx; clear hx
          have HO1 := Lib.hid hown1; clear hown1 hown
          have HBB := Lib.hid hb1; clear hb1 hbl
          have HA1 := Lib.hid ha1; clear ha1
          go_upto_region 12 with (fail)
          clear h0 h1 h2
          generalize hw5 : wr.alloc (.cells #[.int .i64 a.tx, .string ⟨a.key.toArray⟩, .int .i64 a.mode] 37) = w5 at *
          clear hw5
          have a0 := HA1.out.cell 0
          have a1 := HA1.out.cell 1
          have a2 := HA1.out.cell 2
          have al := HA1.out.lt
          simp only [List.getElem?_toArray, List.getElem?_cons_zero, List.getElem?_cons_succ] at a0 a1 a2
          by_cases e1 : a.tx = tx
          · have d1 : (a.tx != tx) = false := by simpa using e1
            have hrel9 : PfRel (fun a => !decide (a.tx = tx)) Wt wm u7 (.int .i64 ((i + 1 : Nat) : Int)) w5 := by
              refine ⟨i + 1, rfl, by omega, ?_, HBB.out⟩
              rw [(wo_step (p := fun a => !decide (a.tx = tx)) HX.out).trans (if_neg (by simpa using e1))]
              exact HO1.out
            have HR := Lib.hid hrel9; clear hrel9 e1
            go_wp2_with fail
            go_roundw
            case rel => exact HR.out
            case measure => simp [intOf]; omega
          · have d1 : (a.tx != tx) = true := by simpa using e1
            have htf := (wo_step (p := fun a => !decide (a.tx = tx)) HX.out).trans (if_pos (by simpa using e1))
            have HTF := Lib.hid htf; clear htf e1
            go_wp2_with (at_builtin; refine stop ?_)
            refine back ?_
            refine wpList_append1 _ _ rfl (.tmp 52) (.tmp 54) 27 rfl wm.heap.size 37 (.agg #[.int .i64 0, .string ⟨#[]⟩, .int .i64 0]) 3 32 Tryz.underlying27 a_info rfl (by decide) _ _ _ #[.int .i64 a.tx, .string ⟨a.key.toArray⟩, .int .i64 a.mode] rfl HO1.out 1 rfl _ rfl rfl (by simp [Value.oneCell']) ?_ ?_ ?_ ?_
            · have := HSL.out; unfold maxLen; omega
            · have := HSL.out; omega
            · exact HBB.out.size
            intro v' w9 hown9 hmv
            have hrel9 : PfRel (fun a => !decide (a.tx = tx)) Wt wm v' (.int .i64 ((i + 1 : Nat) : Int)) w9 := by
              refine ⟨i + 1, rfl, by omega, ?_, HBB.out.trans (hmv.below (fun b hb => (HO1.out.lt b hb).1) HBB.out.size)⟩
              rw [HTF.out, List.length_append, List.flatMap_append, List.flatMap_singleton]
              exact hown9
            have HR := Lib.hid hrel9; clear hrel9 hown9 hmv
            go_wp2_with fail
            go_roundw
            case rel => exact HR.out
            case measure => simp [intOf]; omega
          --}wr
        · --{end
          obtain rfl : i = Wt.length := by omega
          rw [List.take_length] at hown
          rename World => wq
          generalize hU7 : u7 = V7 at *
          clear hU7
          have hbq : Below w.heap.size w wq := HB1.out.trans ((HBM.out.trans (hb.mono HBM.out.size)).mono HB1.out.size)
          have h6 := own_belowK HO6.out hb
          have hIq := HIM.out.tall hb
          have h5q := own_belowK HR5.out (HBM.out.trans (hb.mono HBM.out.size))
          have c0 := hIq.blk.cell 0
          have f0 := hIq.blk.frozen 0
          have c1 := hIq.blk.cell 1
          have f1 := hIq.blk.frozen 1
          have hgl := hIq.blk.lt
          simp only [List.getElem?_toArray, List.getElem?_cons_zero, List.getElem?_cons_succ] at c0 c1
          have hst : ReS base g VH VW w (KStr w V5 (keysR H Wt)) V6 V7 (offR H tx) (offR Wt tx) [] (.slice none 0 0) ((wq.setCell ⟨g, 0, none⟩ V6).setCell ⟨g, 1, none⟩ V7) := by
            refine ReS.start HI0.out hbq (wm := wm) (Nat.le_trans HB1.out.size HBM.out.size) (own_base h6 HB1.out.size) (fun b hb => (HO6.out.lt b hb).2) hown (fun b e sz n v xs hK => ?_) hbw
            obtain ⟨rfl, rfl, rfl, rfl, rfl, rfl⟩ := hK
            exact ⟨by decide, by decide, h5q⟩
          have hsz : szR (H.length + Wt.length) (offR H tx, offR Wt tx, []) := by
            have h1 := List.length_filter_le (fun a : Ak => !decide (a.tx = tx)) H
            have h2 := List.length_filter_le (fun a : Ak => !decide (a.tx = tx)) Wt
            unfold szR offR
            simp only [List.length_nil]
            omega
          obtain ⟨A6, c6, h6e, _, _⟩ := own_slice h6
          obtain ⟨A7, c7, h7e, _, _⟩ := own_slice hown
          generalize (List.filter (fun a : Ak => !decide (a.tx = tx)) H).length = n6 at h6e
          generalize (List.filter (fun a : Ak => !decide (a.tx = tx)) Wt).length = n7 at h7e
          have hstart : RoRel base g (H.length + Wt.length) VH VW w V5 (keysR H Wt) (offR H tx, offR Wt tx, []) (.slice none 0 0) (.int .i64 (0 : Nat)) ((wq.setCell ⟨g, 0, none⟩ V6).setCell ⟨g, 1, none⟩ V7) := ⟨0, V6, V7, _, _, _, rfl, Nat.zero_le _, rfl, hst, hsz⟩
          clear h6
          have HST := Lib.hid hstart; clear hstart hst hsz h5q hown hb HO6
          subst h6e h7e
          have HIQ := Lib.hid hIq; clear hIq
          have HBQ := Lib.hid hbq; clear hbq
          go_upto_region 17 with (fail)
          clear c0 c1 f0 f1 hgl
          generalize (wq.setCell ⟨g, 0, none⟩ (.slice A6 n6 c6)).setCell ⟨g, 1, none⟩ (.slice A7 n7 c7) = wz at *
          obtain ⟨A5, c5, rfl, _, _⟩ := own_slice HR5.out
          have hks : (keysR H Wt).length ≤ 1000000 := by
            have := fk_len (H ++ Wt) []
            rw [List.length_append, List.length_nil] at this
            unfold keysR sortS
            rw [List.length_mergeSort]
            omega
          generalize hN : H.length + Wt.length = N at *
          generalize hkse : keysR H Wt = ks at *
          clear HRDM HIM HIQ
          go_wp2_with fail
          go_loopw [12, 67] (RoRel base g N VH VW w (.slice A5 ks.length c5) ks (offR H tx, offR Wt tx, [])) (fun _ v _ => ks.length - (intOf v).toNat)
          case atStart => exact HST.out
          case round =>
            clear HST
            obtain ⟨j, VHj, VWj, Hj, Wj, Oj, rfl, hj, hfo, hs, hz⟩ := hrel
            by_cases hltj : (j : Int) < ks.length
            · --{key
              obtain ⟨_, _, hkeep⟩ := hs.keep _ _ _ _ _ _ ⟨rfl, rfl, rfl, rfl, rfl, rfl⟩
              obtain ⟨g5, o5, u, hA5, hg5, hx5, hc5⟩ := (Rd.of_own hkeep).at1 (k := j) (by omega)
              subst hA5
              obtain ⟨x, hx, rfl⟩ : ∃ x, ks[j]? = some x ∧ u = .string ⟨x.toArray⟩ := by
                rw [List.getElem?_map] at hx5
                rcases hh : ks[j]? with _ | x
                · rw [hh] at hx5; simp at hx5
                · rw [hh] at hx5; simp at hx5; exact ⟨x, rfl, hx5.symm⟩
              clear hkeep hx5
              have hwt := waiting_any base g VHj VWj Hj Wj ⟨x.toArray⟩ wr hs.tab (by have := hz.1; simp only at this; omega)
              rw [sx_mk] at hwt
              have HWT := Lib.hid hwt; clear hwt
              have HS := Lib.hid hs; clear hs
              have HFO := Lib.hid hfo; clear hfo
              have HZ := Lib.hid hz; clear hz
              have HX := Lib.hid hx; clear hx
              go_wp2_with fail
              refine HWT.out.mono ?_
              rintro e wk ⟨Vw, rfl, hroww, hbk⟩
              obtain ⟨Aw, cw, rfl, _, _⟩ := own_slice hroww
              have hm0 : RmRel base g N VH VW w (KInt (KStr w (.slice (some ⟨g5, o5, none⟩) ks.length c5) ks) wr.heap.size (.slice Aw (waitR Wj x).length cw) (waitR Wj x)) x (waitR Wj x) (Hj, Wj, Oj) u12 (.int .i64 (0 : Nat)) wk := by
                refine ⟨0, VHj, VWj, Hj, Wj, Oj, rfl, Nat.zero_le _, rfl, (HS.out.tall hbk).more (fun b e sz n v xs hK => ?_), HZ.out⟩
                rcases hK with hK | ⟨rfl, rfl, rfl, rfl, rfl, rfl⟩
                · exact .inl hK
                · exact .inr ⟨by decide, by decide, hroww⟩
              have HM0 := Lib.hid hm0; clear hm0 hroww hbk HWT HS hc5 hg5
              have hll : (waitR Wj x).length ≤ 1000000 := by have := waitR_len Wj x; have := HZ.out.1; simp only at this; omega
              clear HZ
              generalize hl : waitR Wj x = l at *
              generalize wr.heap.size = b0 at HM0
              go_wp2_with fail
              generalize u12 = U12 at *
              go_loopw [12, 75] (RmRel base g N VH VW w (KInt (KStr w (.slice (some ⟨g5, o5, none⟩) ks.length c5) ks) b0 (.slice Aw l.length cw) l) x l (Hj, Wj, Oj)) (fun _ v _ => l.length - (intOf v).toNat)
              case atStart => exact HM0.out
              case round =>
                clear HM0
                obtain ⟨i, VHi, VWi, Hi, Wi, Oi, rfl, hi, hfi, hsi, hzi⟩ := hrel
                by_cases hlti : (i : Int) < l.length
                · --{w
                  obtain ⟨_, _, hkeep⟩ := hsi.keep _ _ _ _ _ _ (.inr ⟨rfl, rfl, rfl, rfl, rfl, rfl⟩)
                  obtain ⟨gw, ow, u, hAw, hgw, hxw, hcw⟩ := (Rd.of_own hkeep).at1 (k := i) (by omega)
                  subst hAw
                  obtain ⟨o, ho, rfl⟩ : ∃ o, l[i]? = some o ∧ u = .int .i64 o := by
                    rw [List.getElem?_map] at hxw
                    rcases hh : l[i]? with _ | o
                    · rw [hh] at hxw; simp at hxw
                    · rw [hh] at hxw; simp at hxw; exact ⟨o, rfl, hxw.symm⟩
                  clear hkeep hxw
                  obtain ⟨Ai, ci, hVWi, _, _⟩ := own_slice hsi.tab.rowW
                  have c1 := hsi.tab.blk.cell 1
                  have hgl := hsi.tab.blk.lt
                  simp only [List.getElem?_toArray, List.getElem?_cons_zero, List.getElem?_cons_succ] at c1
                  rw [hVWi] at c1
                  have HRDI := Lib.hid (Rd.of_own (hVWi ▸ hsi.tab.rowW))
                  have HVWI := Lib.hid hVWi; clear hVWi
                  have HSI := Lib.hid hsi; clear hsi
                  have HFI := Lib.hid hfi; clear hfi
                  have hwi : Wi.length ≤ 1000000 := by have := hzi.1; simp only at this; omega
                  have HZI := Lib.hid hzi; clear hzi
                  have HO := Lib.hid ho; clear ho
                  rename World => wm
                  go_wp2_with fail
                  clear c1 hgl hcw
                  generalize u12 = U12i at *
                  go_loopw [12, 84] (RiRel x o Hi Wi U12i wm) (fun _ v _ => Wi.length - (intOf v).toNat)
                  case atStart => exact ⟨0, rfl, rfl, Nat.zero_le _, (fun b hb => by simp at hb), Below.refl _ _⟩
                  case round =>
                    obtain ⟨k, rfl, hu12, hk, hno, hb⟩ := hrel
                    subst hu12
                    by_cases hltk : (k : Int) < Wi.length
                    · --{a
                      obtain ⟨g', o', a, hAe, hga, hx, h0, h1, h2⟩ := (HRDI.out.below hb).cellsA rfl (j := k) (by omega)
                      subst hAe
                      have hgw' : g' < wr.heap.size := Nat.lt_of_lt_of_le hga hb.size
                      have hb1 : Below wm.heap.size wm (wr.alloc (.cells #[.int .i64 a.tx, .string ⟨a.key.toArray⟩, .int .i64 a.mode] 37)) := hb.alloc hb.size _
                      have ha1 : Blk (wr.alloc (.cells #[.int .i64 a.tx, .string ⟨a.key.toArray⟩, .int .i64 a.mode] 37)) wr.heap.size 37 #[.int .i64 a.tx, .string ⟨a.key.toArray⟩, .int .i64 a.mode] := Blk.new _ _ _
                      have HXK := Lib.hid hx; clear hx
                      have HNO := Lib.hid hno; clear hno
                      have HA1 := Lib.hid ha1; clear ha1
                      have HB1x := Lib.hid hb1; clear hb1
                      have HSW := Lib.hid hb.size; clear hb
                      go_upto_region 26 with (fail)
                      clear h0 h1 h2
                      generalize hw5 : wr.alloc (.cells #[.int .i64 a.tx, .string ⟨a.key.toArray⟩, .int .i64 a.mode] 37) = w5 at *
                      clear hw5
                      have a0 := HA1.out.cell 0
                      have a1 := HA1.out.cell 1
                      have a2 := HA1.out.cell 2
                      have al := HA1.out.lt
                      simp only [List.getElem?_toArray, List.getElem?_cons_zero, List.getElem?_cons_succ] at a0 a1 a2
                      go_cut [102] (fun s102 wx => s102 = .bool (grB x o Hi Wi a) ∧ Below w5.heap.size w5 wx)
                      case first =>
                        --{cond
                        by_cases e1 : a.tx = o
                        · have d1 : (a.tx == o) = true := by simpa using e1
                          by_cases e2 : a.key = x
                          · have d2 : (a.key == x) = true := by simpa using e2
                            have hs5 := HSI.out.tall HB1x.out
                            have hmy := may_any base g VHi VWi Hi Wi a ⟨a.key.toArray⟩ w5 (sx_mk _) hs5.tab (by have := HZI.out.1; simp only at this; omega) (by have := HZI.out.1; simp only at this; omega)
                            have HMY := Lib.hid hmy; clear hmy hs5
                            have HV := Lib.hid (show grB x o Hi Wi a = mayR Hi Wi a by unfold grB; simp [e1, e2])
                            clear e1 e2
                            go_wp2_with fail
                            refine HMY.out.mono ?_
                            rintro e w6 ⟨rfl, hb6⟩
                            clear HMY
                            have HB6 := Lib.hid hb6; clear hb6
                            go_wp2_with fail
                            go_meet
                            exact ⟨by rw [HV.out], HB6.out⟩
                          · have d2 : (a.key == x) = false := by simpa using e2
                            have HV := Lib.hid (show grB x o Hi Wi a = false by unfold grB; simp [e2])
                            clear e1 e2
                            go_wp2_with fail
                            go_meet
                            exact ⟨by rw [HV.out], Below.refl _ _⟩
                        · have d1 : (a.tx == o) = false := by simpa using e1
                          have HV := Lib.hid (show grB x o Hi Wi a = false by unfold grB; simp [e1])
                          clear e1
                          go_wp2_with fail
                          go_meet
                          exact ⟨by rw [HV.out], Below.refl _ _⟩
                        --}cond
                      case rest =>
                        --{rest
                        obtain ⟨hu102, hbx⟩ := hcut
                        subst hu102
                        have hbc : Below wm.heap.size wm wc := HB1x.out.trans (hbx.mono HB1x.out.size)
                        have hac := HA1.out.below hbx al
                        have HBC := Lib.hid hbc; clear hbc
                        have HAC := Lib.hid hac; clear hac
                        have HSC := Lib.hid hbx.size; clear hbx
                        clear a0 a1 a2
                        rcases hgr : grB x o Hi Wi a with _ | _
                        · have hrel9 : RiRel x o Hi Wi u12 wm u12 (.int .i64 ((k + 1 : Nat) : Int)) wc := by
                            refine ⟨k + 1, rfl, rfl, by omega, fun b hb => ?_, HBC.out⟩
                            rw [List.take_add_one, HXK.out] at hb
                            rcases List.mem_append.1 hb with hb | hb
                            · exact HNO.out b hb
                            · simp at hb; rw [hb]; exact hgr
                          have HR := Lib.hid hrel9; clear hrel9
                          go_wp2_with fail
                          go_roundw
                          case rel => exact HR.out
                          case measure => simp [intOf]; omega
                        · --{grant
                          have hs6c := HSI.out.tall HBC.out
                          have hhs := has_any base g VHi VWi Hi Wi a ⟨a.key.toArray⟩ wc rfl hs6c.tab (by have := HZI.out.1; simp only at this; omega)
                          have a0 := HAC.out.cell 0
                          have a1 := HAC.out.cell 1
                          have a2 := HAC.out.cell 2
                          have acl := HAC.out.lt
                          simp only [List.getElem?_toArray, List.getElem?_cons_zero, List.getElem?_cons_succ] at a0 a1 a2
                          have HHS := Lib.hid hhs; clear hhs
                          have HS6C := Lib.hid hs6c; clear hs6c
                          have HG1 := Lib.hid (grant1_yes (O := Oi) HXK.out HNO.out hgr); clear hgr
                          go_wp2_with fail
                          refine HHS.out.mono ?_
                          rintro e w6 ⟨VH', rfl, hI6, hf6, hft6⟩
                          clear HHS a0 a1 a2 acl
                          have hs6 := HS6C.out.has hI6 hf6 hft6
                          have ha6 := hf6.blk HAC.out (fun hR => by have := (HSI.out.tab.foot_lt hR).2; have := HSW.out; omega)
                          have a0 := ha6.cell 0
                          have a1 := ha6.cell 1
                          have a2 := ha6.cell 2
                          have acl := ha6.lt
                          simp only [List.getElem?_toArray, List.getElem?_cons_zero, List.getElem?_cons_succ] at a0 a1 a2
                          have HA6 := Lib.hid ha6; clear ha6
                          have HS6 := Lib.hid hs6; clear hs6 hI6 hf6 hft6
                          go_wp2_with (at_builtin; refine stop ?_)
                          refine back ?_
                          refine wpList_append1 _ _ rfl (.tmp 106) (.tmp 108) 27 rfl w.heap.size 37 (.agg #[.int .i64 0, .string ⟨#[]⟩, .int .i64 0]) 3 32 Tryz.underlying27 a_info rfl (by decide) _ _ _ #[.int .i64 a.tx, .string ⟨a.key.toArray⟩, .int .i64 a.mode] rfl HS6.out.out 1 rfl _ rfl rfl (by simp [Value.oneCell']) ?_ ?_ ?_ ?_
                          · have := HZI.out.2; simp only at this; unfold maxLen; omega
                          · have := HZI.out.2; simp only at this; omega
                          · exact HS6.out.fr.size
                          intro v' w7 hrow7 hm7
                          have hs7 := HS6.out.put (a := a) hrow7 hm7
                          have ha7 := hm7.1.blk HA6.out (fun e => by have := (HSI.out.out.lt _ e.symm).2; have := HSW.out; omega)
                          have hnw : Wi.length ≤ 1000000 := by have := HZI.out.1; simp only at this; omega
                          have hcar : ∀ W, Below w7.heap.size w7 W → W.cell? ⟨g, 1, none⟩ = some (.slice (some ⟨g', o', none⟩) Wi.length ci) ∧ W.cell? ⟨wr.heap.size, 0, none⟩ = some (.int .i64 a.tx) ∧ W.cell? ⟨wr.heap.size, 1, none⟩ = some (.string ⟨a.key.toArray⟩) ∧ W.cell? ⟨wr.heap.size, 2, none⟩ = some (.int .i64 a.mode) := fun W hW => by
                            have c1 := (hs7.tab.blk.below hW hs7.tab.blk.lt).cell 1
                            have hk := ha7.below hW ha7.lt
                            have k0 := hk.cell 0
                            have k1 := hk.cell 1
                            have k2 := hk.cell 2
                            simp only [List.getElem?_toArray, List.getElem?_cons_zero, List.getElem?_cons_succ] at c1 k0 k1 k2
                            rw [HVWI.out] at c1
                            exact ⟨c1, k0, k1, k2⟩
                          have hwo := without_any a Wi Wi.length ci (some ⟨g', o', none⟩) w7.drew (Rd.of_own (show w7.drew.ownsRow base 37 3 (.slice (some ⟨g', o', none⟩) Wi.length ci) Wi.length (Wi.flatMap akCells) by rw [← HVWI.out]; exact hs7.tab.rowW)) rfl hnw
                          have HWO := Lib.hid hwo; clear hwo
                          have HCAR := Lib.hid hcar; clear hcar
                          have HS7 := Lib.hid hs7; clear hs7 hrow7 hm7
                          clear a0 a1 a2 acl ha7
                          go_wp2_with fail
                          refine wp_region_any (by kernel_rfl) ?_
                          change wpAny _ _ _ _ _ _ _ (World.drew _)
                          refine nplainQ (fun w' => w'.cell? ⟨g, 1, none⟩ = some (.slice (some ⟨g', o', none⟩) Wi.length ci) ∧ w'.cell? ⟨wr.heap.size, 0, none⟩ = some (.int .i64 a.tx) ∧ w'.cell? ⟨wr.heap.size, 1, none⟩ = some (.string ⟨a.key.toArray⟩) ∧ w'.cell? ⟨wr.heap.size, 2, none⟩ = some (.int .i64 a.mode)) 7 (fun _ _ _ _ _ h => h) (fun HQP => ?_)
                          have HCC := HCAR.out w7.drew (Below.refl _ _).drew
                          refine ntakeW 0 rfl rfl (by kernel_rfl) (by kernel_rfl) (by kernel_rfl) (by kernel_rfl) (fun _ _ _ h => HQP _ _ _ _ _ h) (by kernel_rfl) HCC (fun w' hw' => by go_simp; rfl) ?_
                          refine ntakeW 1 rfl rfl (by kernel_rfl) (by kernel_rfl) (by kernel_rfl) (by kernel_rfl) (fun _ _ _ h => HQP _ _ _ _ _ h) (by kernel_rfl) HCC (fun w' hw' => by go_simp; rfl) ?_
                          refine ntakeW 2 rfl rfl (by kernel_rfl) (by kernel_rfl) (by kernel_rfl) (by kernel_rfl) (fun _ _ _ h => HQP _ _ _ _ _ h) (by kernel_rfl) HCC (fun w' hw' => by go_simp; rfl) ?_
                          refine ntakeW 3 rfl rfl (by kernel_rfl) (by kernel_rfl) (by kernel_rfl) (by kernel_rfl) (fun _ _ _ h => HQP _ _ _ _ _ h) (by kernel_rfl) HCC (fun w' hw' => by go_simp; rfl) ?_
                          refine ntakeW 4 rfl rfl (by kernel_rfl) (by kernel_rfl) (by kernel_rfl) (by kernel_rfl) (fun _ _ _ h => HQP _ _ _ _ _ h) (by kernel_rfl) HCC (fun w' hw' => by obtain ⟨q0, q1, q2, q3⟩ := hw'; go_simp; rfl) ?_
                          refine ntakeW 5 rfl rfl (by kernel_rfl) (by kernel_rfl) (by kernel_rfl) (by kernel_rfl) (fun _ _ _ h => HQP _ _ _ _ _ h) (by kernel_rfl) HCC (fun w' hw' => by obtain ⟨q0, q1, q2, q3⟩ := hw'; go_simp; rfl) ?_
                          clear HCC
                          refine nonly 6 (by kernel_rfl) rfl (by kernel_rfl) (fun K hK => ?_)
                          go_simp
                          refine HWO.out.mono ?_
                          rintro e w8 ⟨Vn, rfl, hrow8, hb8⟩
                          obtain ⟨An, cn, rfl, _, _⟩ := own_slice hrow8
                          have hb8' : Below w7.heap.size w7 w8 := (Below.refl _ _).drew.trans hb8
                          have hs9 := HS7.out.wait hrow8 hb8' (by have := HS7.out.tab.lo; have := HS7.out.tab.blk.lt; omega)
                          have hs8 := HS7.out.tall hb8'
                          have y0 := hs8.tab.blk.cell 1
                          have y1 := hs8.tab.blk.frozen 1
                          have gl8 := hs8.tab.blk.lt
                          simp only [List.getElem?_toArray, List.getElem?_cons_zero, List.getElem?_cons_succ] at y0
                          rw [HVWI.out] at y0
                          have hC8 := HCAR.out w8 hb8'
                          have hrel9 : RmRel base g N VH VW w (KInt (KStr w (.slice (some ⟨g5, o5, none⟩) ks.length c5) ks) b0 (.slice (some ⟨gw, ow, none⟩) l.length cw) l) x l (Hj, Wj, Oj) v' (.int .i64 ((i + 1 : Nat) : Int)) (w8.setCell ⟨g, 1, none⟩ (.slice An (Wi.filter (fun b => !decide (b = a))).length cn)) :=
                            ⟨i + 1, VH', _, _, _, _, rfl, by omega, by rw [fold_step _ _ HO.out, HFI.out, HG1.out], hs9, HZI.out.give (List.mem_of_getElem? HXK.out)⟩
                          have HC8 := Lib.hid hC8; clear hC8
                          have HR := Lib.hid hrel9; clear hrel9 hs9 hs8 hrow8 hb8 hb8'
                          go_simp
                          refine hK _ _ (fun _ => HC8.out) ?_
                          clear hK K
                          refine nonly 7 (by kernel_rfl) rfl (by kernel_rfl) (fun K hK => ?_)
                          go_simp
                          refine hK _ _ (fun h => absurd h (by decide)) ?_
                          clear hK K
                          refine nonly 8 (by kernel_rfl) rfl (by kernel_rfl) (fun K hK => ?_)
                          go_simp
                          refine hK _ _ (fun h => absurd h (by decide)) ?_
                          clear hK K
                          refine nonly 9 (by kernel_rfl) rfl (by kernel_rfl) (fun K hK => ?_)
                          go_simp
                          refine hK _ _ (fun h => absurd h (by decide)) ?_
                          clear hK K
                          refine ndone (by kernel_rfl) ?_ _
                          clear HQP y0 y1 gl8
                          go_wp2_with fail
                          go_roundw
                          case rel => exact HR.out
                          case measure => simp [intOf]; omega
                          --}grant
                        --}rest
                      --}a
                    · --{no
                      obtain rfl : k = Wi.length := by omega
                      rw [List.take_length] at hno
                      have hrel9 : RmRel base g N VH VW w (KInt (KStr w (.slice (some ⟨g5, o5, none⟩) ks.length c5) ks) b0 (.slice (some ⟨gw, ow, none⟩) l.length cw) l) x l (Hj, Wj, Oj) u12 (.int .i64 ((i + 1 : Nat) : Int)) wr :=
                        ⟨i + 1, VHi, VWi, Hi, Wi, Oi, rfl, by omega, by rw [fold_step _ _ HO.out, HFI.out, grant1_no hno], HSI.out.tall hb, HZI.out⟩
                      have HR := Lib.hid hrel9; clear hrel9 hno hb
                      go_wp2_with fail
                      go_roundw
                      case rel => exact HR.out
                      case measure => simp [intOf]; omega
                      --}no
                  --}w
                · --{mdone
                  obtain rfl : i = l.length := by omega
                  rw [List.take_length] at hfi
                  have hrel9 : RoRel base g N VH VW w (.slice (some ⟨g5, o5, none⟩) ks.length c5) ks (offR H tx, offR Wt tx, []) u12 (.int .i64 ((j + 1 : Nat) : Int)) wr := by
                    refine ⟨j + 1, VHi, VWi, Hi, Wi, Oi, rfl, by omega, ?_, hsi.more (fun b e sz n v xs hK => .inl (.inl hK)), hzi⟩
                    rw [fold_step _ _ HX.out, HFO.out]
                    unfold grantK
                    simp only
                    rw [hl]
                    exact hfi
                  have HR := Lib.hid hrel9; clear hrel9 hsi hzi hfi
                  go_wp2_with fail
                  go_roundw
                  case rel => exact HR.out
                  case measure => simp [intOf]; omega
                  --}mdone
              --}key
            · --{done
              obtain rfl : j = ks.length := by omega
              rw [List.take_length] at hfo
              have hfin : RrPost base g VH VW (releaseR H Wt tx) w (.returned u12) wr := by
                have e : releaseR H Wt tx = (Hj, Wj, Oj) := by unfold releaseR; rw [hkse]; exact hfo
                rw [e]
                exact ⟨u12, rfl, ⟨VHj, VWj, hs.tab, hs.fr, hs.foot⟩, hs.out⟩
              have HF := Lib.hid hfin; clear hfin hs hz hfo
              go_wp2_with fail
              go_ret
              exact HF.out
              --}done
          --}end
end Go.Proofs.YtopmehbncidpnaaGreatDoor
