/- chainmailref.Table: Lock. -/
import Derived.Test.YtopmehbncidpnaaGreatDoorRt7
namespace Go.Proofs.YtopmehbncidpnaaGreatDoor
open Go.RowKit
/-- What a step does to the document's table in memory. -/
def RtS (base g : Nat) (VH VW : Value) (H' W' : List Ak) (w w' : World) : Prop :=
  ∃ VH' VW', RtI w' base g VH' VW' H' W' ∧ Fr (RFoot g VH VW) w w' ∧ ∀ b, RFoot g VH' VW' b → RFoot g VH VW b ∨ w.heap.size ≤ b
theorem RtS.below {base g : Nat} {VH VW : Value} {H Wt : List Ak} {w w' : World} (hI : RtI w base g VH VW H Wt) (hb : Below w.heap.size w w') : RtS base g VH VW H Wt w w' :=
  ⟨VH, VW, hI.tall hb, ⟨hb.os, hb.tape, hb.output, hb.size, fun k hk _ => hb.block k hk⟩, fun b h => .inl h⟩
theorem RtS.trans {base g : Nat} {VH VW VH1 VW1 : Value} {H2 W2 : List Ak} {w w1 w2 : World} (hf : Fr (RFoot g VH VW) w w1) (hft : ∀ b, RFoot g VH1 VW1 b → RFoot g VH VW b ∨ w.heap.size ≤ b) (k : RtS base g VH1 VW1 H2 W2 w1 w2) : RtS base g VH VW H2 W2 w w2 := by
  obtain ⟨VH2, VW2, hI, hf2, hft2⟩ := k
  refine ⟨VH2, VW2, hI, hf.trans' hf2 (fun i hi h => ?_), fun b h => ?_⟩
  · rcases hft i h with h | h
    · exact h
    · omega
  · rcases hft2 b h with h | h
    · exact hft b h
    · exact .inr (Nat.le_trans hf.size h)
theorem RtS.frTrans {base g : Nat} {VH VW : Value} {H Wt H2 W2 : List Ak} {w w1 w2 : World} (hb : Below w.heap.size w w1) (k : RtS base g VH VW H2 W2 w1 w2) : RtS base g VH VW H2 W2 w w2 :=
  RtS.trans ⟨hb.os, hb.tape, hb.output, hb.size, fun k hk _ => hb.block k hk⟩ (fun b h => .inl h) k
theorem RtS.more {base g : Nat} {VH VW : Value} {H2 W2 : List Ak} {w w1 w2 : World} (k : RtS base g VH VW H2 W2 w w1) (hb : Below w1.heap.size w1 w2) : RtS base g VH VW H2 W2 w w2 := by
  obtain ⟨VH2, VW2, hI, hf, hft⟩ := k
  exact ⟨VH2, VW2, hI.tall hb, hf.trans ⟨hb.os, hb.tape, hb.output, hb.size, fun k hk _ => hb.block k hk⟩, hft⟩
theorem wayR_len (H : List Ak) (x : Ak) : (wayR H x).length ≤ H.length := by
  unfold wayR sortI
  rw [List.length_mergeSort, List.length_map]
  exact List.length_filter_le _ _
def RlPost (base g : Nat) (VH VW : Value) (r : Bool × List Int × Int × List Ak × List Ak) (w : World) (e : Ending) (w' : World) : Prop :=
  ∃ A c, e = .returned (.tuple #[.bool r.1, .slice A r.2.1.length c, .int .i64 r.2.2.1]) ∧ RtS base g VH VW r.2.2.2.1 r.2.2.2.2 w w' ∧ w'.ownsRow w.heap.size 3 1 (.slice A r.2.1.length c) r.2.1.length (r.2.1.map (Value.int .i64))
def waB (x a : Ak) : Bool := decide (a.tx = x.tx) && decide (a.key = x.key)
def RqRel (Wt : List Ak) (x : Ak) (w : World) (v30 : Value) (wr : World) : Prop := ∃ i : Nat, v30 = .int .i64 i ∧ i ≤ Wt.length ∧ (∀ b ∈ Wt.take i, waB x b = false) ∧ Below w.heap.size w wr
/-- Those of the sorted list that are greater. -/
def OuRel (l : List Int) (tx : Int) (w : World) (v10 v74 : Value) (wr : World) : Prop :=
  ∃ i : Nat, v74 = .int .i64 i ∧ i ≤ l.length ∧ wr.ownsRow w.heap.size 3 1 v10 ((l.take i).filter (fun o => decide (tx < o))).length (((l.take i).filter (fun o => decide (tx < o))).map (Value.int .i64)) ∧ Below w.heap.size w wr
theorem ou_size {p : Int → Bool} {L : List Int} {i : Nat} (hi : i ≤ L.length) : ((L.take i).filter p).length ≤ i := Nat.le_trans (List.length_filter_le _ _) (by simp; omega)
theorem ou_step {p : Int → Bool} {L : List Int} {i : Nat} {a : Int} (ha : L[i]? = some a) : (L.take (i + 1)).filter p = if p a then (L.take i).filter p ++ [a] else (L.take i).filter p := by
  rw [List.take_add_one, ha, List.filter_append]
  cases h : p a <;> simp [h]
theorem lockR_arg {H W : List Ak} {x : Ak} (h : ¬ OkMode x.mode) : lockR H W x = (false, [], 1, H, W) := by unfold lockR; rw [if_pos (show ¬ (x.mode = 1 ∨ x.mode = 2) from h)]
theorem lockR_long {H W : List Ak} {x : Ak} (h : OkMode x.mode) (hl : 20 < x.key.length) : lockR H W x = (false, [], 4, H, W) := by unfold lockR; rw [if_neg (show ¬ ¬ (x.mode = 1 ∨ x.mode = 2) from fun h2 => h2 h), if_pos hl]
theorem lockR_any {H W : List Ak} {x : Ak} (h : OkMode x.mode) (hl : ¬ 20 < x.key.length) : lockR H W x = if W.any (waB x) then (false, [], 9, H, W) else if mayR H W x then (true, [], 0, hasR H x, W) else if 50 ≤ (waitR W x.key).length then (false, [], 4, H, W) else (false, outR H x, 0, H, W ++ [x]) := by
  unfold lockR; rw [if_neg (show ¬ ¬ (x.mode = 1 ∨ x.mode = 2) from fun h2 => h2 h), if_neg hl]; rfl
set_option maxRecDepth 100000 in
set_option maxHeartbeats 4000000 in
theorem rlock_arg (base g : Nat) (VH VW : Value) (H Wt : List Ak) (x : Ak) (s : ByteArray) (w : World) (hmode : ¬ OkMode x.mode) (hI : RtI w base g VH VW H Wt) :
    Calls Tryz.prog 4 #[.pointer (some ⟨g, 0, none⟩), .agg #[.int .i64 x.tx, .string s, .int .i64 x.mode]] w (RlPost base g VH VW (lockR H Wt x) w) := by
  have hbx0 : Below w.heap.size w (w.alloc (.cells #[.int .i64 x.tx, .string s, .int .i64 x.mode] 37)) := (Below.refl _ _).alloc (Nat.le_refl _) _
  have hfin : RlPost base g VH VW (lockR H Wt x) w (.returned (.tuple #[.bool false, .slice none 0 0, .int .i64 1])) (w.alloc (.cells #[.int .i64 x.tx, .string s, .int .i64 x.mode] 37)) := by
    rw [lockR_arg hmode]
    exact ⟨none, 0, rfl, RtS.below hI hbx0, World.ownsRow_nil _ _ _ _⟩
  have HF := Lib.hid hfin; clear hfin hI hbx0
  have d1 : (x.mode != 1) = true := by simpa using fun e => hmode (.inl e)
  have d2 : (x.mode != 2) = true := by simpa using fun e => hmode (.inr e)
  clear hmode
  go_enter Tryz.func4, Tryz.ntmps4
  go_wp2_with fail
  go_ret3
  exact HF.out
set_option maxRecDepth 100000 in
set_option maxHeartbeats 4000000 in
theorem rlock_long (base g : Nat) (VH VW : Value) (H Wt : List Ak) (x : Ak) (s : ByteArray) (w : World) (hs : sx s = x.key) (hmode : OkMode x.mode) (hl : 20 < x.key.length) (hI : RtI w base g VH VW H Wt) :
    Calls Tryz.prog 4 #[.pointer (some ⟨g, 0, none⟩), .agg #[.int .i64 x.tx, .string s, .int .i64 x.mode]] w (RlPost base g VH VW (lockR H Wt x) w) := by
  have hbx0 : Below w.heap.size w (w.alloc (.cells #[.int .i64 x.tx, .string s, .int .i64 x.mode] 37)) := (Below.refl _ _).alloc (Nat.le_refl _) _
  have hfin : RlPost base g VH VW (lockR H Wt x) w (.returned (.tuple #[.bool false, .slice none 0 0, .int .i64 4])) (w.alloc (.cells #[.int .i64 x.tx, .string s, .int .i64 x.mode] 37)) := by
    rw [lockR_long hmode hl]
    exact ⟨none, 0, rfl, RtS.below hI hbx0, World.ownsRow_nil _ _ _ _⟩
  have HF := Lib.hid hfin; clear hfin hI hbx0
  have hl20 : (s.size : Int) > 20 := by rw [size_sx, hs]; omega
  clear hl hs
  go_enter Tryz.func4, Tryz.ntmps4
  rcases hmode with e | e
  · have d1 : (x.mode != 1) = false := by simpa using e
    clear e
    go_wp2_with fail
    go_ret3
    exact HF.out
  · have d1 : (x.mode != 1) = true := by rw [e]; rfl
    have d2 : (x.mode != 2) = false := by simpa using e
    clear e
    go_wp2_with fail
    go_ret3
    exact HF.out
set_option maxRecDepth 100000 in
set_option maxHeartbeats 16000000 in
theorem rlock_any (base g : Nat) (VH VW : Value) (H Wt : List Ak) (x : Ak) (s : ByteArray) (w : World) (hs : s = ⟨x.key.toArray⟩) (hmode : OkMode x.mode) (hl : ¬ 20 < x.key.length) (hI : RtI w base g VH VW H Wt) (hn : H.length ≤ 1000000) (hnw : Wt.length ≤ 1000000) :
    Calls Tryz.prog 4 #[.pointer (some ⟨g, 0, none⟩), .agg #[.int .i64 x.tx, .string s, .int .i64 x.mode]] w (RlPost base g VH VW (lockR H Wt x) w) := by
  have hsx : sx s = x.key := by rw [hs]
  have HSE := Lib.hid hs; clear hs
  have hbx0 : Below w.heap.size w (w.alloc (.cells #[.int .i64 x.tx, .string s, .int .i64 x.mode] 37)) := (Below.refl _ _).alloc (Nat.le_refl _) _
  have hB : Blk (w.alloc (.cells #[.int .i64 x.tx, .string s, .int .i64 x.mode] 37)) w.heap.size 37 #[.int .i64 x.tx, .string s, .int .i64 x.mode] := Blk.new w _ _
  have hI1 := hI.tall hbx0
  have hlt := fun b (hb : RFoot g VH VW b) => (hI.foot_lt hb).2
  obtain ⟨A, c, hVW, _, hAo⟩ := own_slice hI1.rowW
  have c1 := hI1.blk.cell 1
  have hgl := hI1.blk.lt
  simp only [List.getElem?_toArray, List.getElem?_cons_zero, List.getElem?_cons_succ] at c1
  rw [hVW] at c1
  have HRD := Lib.hid (Rd.of_own (hVW ▸ hI1.rowW))
  have HVW := Lib.hid hVW; clear hVW
  have HI1 := Lib.hid hI1; clear hI1 hI
  have HLT := Lib.hid hlt; clear hlt
  have HB := Lib.hid hB; clear hB
  have HBX := Lib.hid hbx0; clear hbx0
  have hl20 : ¬ (s.size : Int) > 20 := by rw [size_sx, hsx]; omega
  go_enter Tryz.func4, Tryz.ntmps4
  go_upto_region 1 with (fail)
  generalize hw0 : w.alloc (.cells #[.int .i64 x.tx, .string s, .int .i64 x.mode] 37) = w0 at *
  have hz0 : w0.heap.size = w.heap.size + 1 := by rw [← hw0]; simp
  have HZ0 := Lib.hid hz0; clear hz0 hw0
  have b0 := HB.out.cell 0
  have b1 := HB.out.cell 1
  have b2 := HB.out.cell 2
  have bl := HB.out.lt
  simp only [List.getElem?_toArray, List.getElem?_cons_zero, List.getElem?_cons_succ] at b0 b1 b2
  go_cut [20] (fun s20 wx => s20 = .bool false ∧ wx = w0)
  case first =>
    rcases hmode with e | e
    · have d1 : (x.mode != 1) = false := by simpa using e
      clear e
      go_wp2_with fail
      go_meet
      exact ⟨rfl, rfl⟩
    · have d1 : (x.mode != 1) = true := by rw [e]; rfl
      have d2 : (x.mode != 2) = false := by simpa using e
      clear e
      go_wp2_with fail
      go_meet
      exact ⟨rfl, rfl⟩
  case rest =>
    obtain ⟨hu20, hwx⟩ := hcut
    subst hu20 hwx
    rename World => w0
    have HMO := Lib.hid hmode; clear hmode
    go_wp2_with fail
    clear c1 b0 b1 b2
    go_loopw [30] (RqRel Wt x w0) (fun v _ => Wt.length - (intOf v).toNat)
    case atStart => exact ⟨0, rfl, Nat.zero_le _, (fun b hb => by simp at hb), Below.refl _ _⟩
    case round =>
      obtain ⟨i, rfl, hi, hno, hb⟩ := hrel
      by_cases hlti : (i : Int) < Wt.length
      · --{one
        obtain ⟨g', o', a, hAe, hga, hx, h0, h1, h2⟩ := (HRD.out.below hb).cellsA rfl (j := i) (by omega)
        subst hAe
        have hgw : g' < wr.heap.size := Nat.lt_of_lt_of_le hga hb.size
        have hb1 : Below w0.heap.size w0 (wr.alloc (.cells #[.int .i64 a.tx, .string ⟨a.key.toArray⟩, .int .i64 a.mode] 37)) := hb.alloc hb.size _
        have ha1 : Blk (wr.alloc (.cells #[.int .i64 a.tx, .string ⟨a.key.toArray⟩, .int .i64 a.mode] 37)) wr.heap.size 37 #[.int .i64 a.tx, .string ⟨a.key.toArray⟩, .int .i64 a.mode] := Blk.new _ _ _
        have hbk := HB.out.below hb1 HB.out.lt
        have HX := Lib.hid hx; clear hx
        have HNO := Lib.hid hno; clear hno
        have HA1 := Lib.hid ha1; clear ha1
        have HB1 := Lib.hid hb1; clear hb1
        have HSW := Lib.hid hb.size; clear hb
        have HBK := Lib.hid hbk; clear hbk
        go_upto_region 8 with (fail)
        clear h0 h1 h2
        generalize hw1 : wr.alloc (.cells #[.int .i64 a.tx, .string ⟨a.key.toArray⟩, .int .i64 a.mode] 37) = w1 at *
        clear hw1
        have k0 := HBK.out.cell 0
        have k1 := HBK.out.cell 1
        have k2 := HBK.out.cell 2
        have a0 := HA1.out.cell 0
        have a1 := HA1.out.cell 1
        have a2 := HA1.out.cell 2
        have kl := HBK.out.lt
        have al := HA1.out.lt
        simp only [List.getElem?_toArray, List.getElem?_cons_zero, List.getElem?_cons_succ] at k0 k1 k2 a0 a1 a2
        go_cut [45] (fun s45 wx => s45 = .bool (waB x a) ∧ wx = w1)
        case first =>
          by_cases e1 : a.tx = x.tx
          · have d1 : (a.tx == x.tx) = true := by simpa using e1
            by_cases e2 : a.key = x.key
            · have d2 : (a.key == s.toList) = true := by rw [toList_sx, beq_iff_eq]; exact e2.trans hsx.symm
              have HV := Lib.hid (show waB x a = true by unfold waB; simp [e1, e2])
              clear e1 e2
              go_wp2_with fail
              go_meet
              exact ⟨by rw [HV.out], rfl⟩
            · have d2 : (a.key == s.toList) = false := by rw [toList_sx, beq_eq_false_iff_ne]; exact fun e => e2 (e.trans hsx)
              have HV := Lib.hid (show waB x a = false by unfold waB; simp [e2])
              clear e1 e2
              go_wp2_with fail
              go_meet
              exact ⟨by rw [HV.out], rfl⟩
          · have d1 : (a.tx == x.tx) = false := by simpa using e1
            have HV := Lib.hid (show waB x a = false by unfold waB; simp [e1])
            clear e1
            go_wp2_with fail
            go_meet
            exact ⟨by rw [HV.out], rfl⟩
        case rest =>
          obtain ⟨hu45, hwx⟩ := hcut
          subst hu45 hwx
          clear k0 k1 k2 a0 a1 a2
          rcases hin : waB x a with _ | _
          · have hrel9 : RqRel Wt x w0 (.int .i64 ((i + 1 : Nat) : Int)) wc := by
              refine ⟨i + 1, rfl, by omega, fun b hb => ?_, HB1.out⟩
              rw [List.take_add_one, HX.out] at hb
              rcases List.mem_append.1 hb with hb | hb
              · exact HNO.out b hb
              · simp at hb; rw [hb]; exact hin
            have HR := Lib.hid hrel9; clear hrel9
            go_wp2_with fail
            go_roundw
            case rel => exact HR.out
            case measure => simp [intOf]; omega
          · have hfin : RlPost base g VH VW (lockR H Wt x) w (.returned (.tuple #[.bool false, .slice none 0 0, .int .i64 9])) wc := by
              rw [lockR_any HMO.out hl, if_pos (List.any_eq_true.2 ⟨a, List.mem_of_getElem? HX.out, hin⟩)]
              exact ⟨none, 0, rfl, RtS.frTrans (H := H) (Wt := Wt) HBX.out (RtS.below HI1.out HB1.out), World.ownsRow_nil _ _ _ _⟩
            have HF := Lib.hid hfin; clear hfin
            go_wp2_with fail
            go_ret3
            exact HF.out
        --}one
      · --{end
        obtain rfl : i = Wt.length := by omega
        rw [List.take_length] at hno
        have hany : Wt.any (waB x) = false := List.any_eq_false.2 (fun b hb => by rw [hno b hb]; decide)
        have HANY := Lib.hid (show ¬ Wt.any (waB x) = true by rw [hany]; decide)
        clear hno hany
        have hI2 := HI1.out.tall hb
        have hbk := HB.out.below hb HB.out.lt
        have hwy := way_any base g VH VW H Wt x s wr hsx hI2 hn
        have k0 := hbk.cell 0
        have k1 := hbk.cell 1
        have k2 := hbk.cell 2
        have kl := hbk.lt
        simp only [List.getElem?_toArray, List.getElem?_cons_zero, List.getElem?_cons_succ] at k0 k1 k2
        have HWY := Lib.hid hwy; clear hwy
        have HI2 := Lib.hid hI2; clear hI2
        have HBK := Lib.hid hbk; clear hbk
        have HBR := Lib.hid hb; clear hb
        go_wp2_with fail
        refine HWY.out.mono ?_
        rintro e w3 ⟨Vl, rfl, hrowl, hb3⟩
        clear k0 k1 k2 HWY
        have hI3 := HI2.out.tall hb3
        have hbk3 := HBK.out.below hb3 HBK.out.lt
        have hmy := may_any base g VH VW H Wt x s w3 hsx hI3 hn hnw
        have k0 := hbk3.cell 0
        have k1 := hbk3.cell 1
        have k2 := hbk3.cell 2
        have kl3 := hbk3.lt
        simp only [List.getElem?_toArray, List.getElem?_cons_zero, List.getElem?_cons_succ] at k0 k1 k2
        have HMY := Lib.hid hmy; clear hmy
        have HI3 := Lib.hid hI3; clear hI3
        have HBK3 := Lib.hid hbk3; clear hbk3
        have HB3 := Lib.hid hb3; clear hb3
        have HRL := Lib.hid hrowl; clear hrowl
        go_wp2_with fail
        refine HMY.out.mono ?_
        rintro e w4 ⟨rfl, hb4⟩
        clear k0 k1 k2 HMY
        have hI4 := HI3.out.tall hb4
        have hbk4 := HBK3.out.below hb4 HBK3.out.lt
        have k0 := hbk4.cell 0
        have k1 := hbk4.cell 1
        have k2 := hbk4.cell 2
        have kl4 := hbk4.lt
        simp only [List.getElem?_toArray, List.getElem?_cons_zero, List.getElem?_cons_succ] at k0 k1 k2
        have hrl4 := own_belowK HRL.out hb4
        have hba : Below w.heap.size w w4 := HBX.out.trans ((HBR.out.trans ((HB3.out.trans (hb4.mono HB3.out.size)).mono HBR.out.size)).mono HBX.out.size)
        have HBA := Lib.hid hba; clear hba
        have HRL4 := Lib.hid hrl4; clear hrl4
        have HBK4 := Lib.hid hbk4; clear hbk4
        have HI4 := Lib.hid hI4; clear hI4
        have HSZ4 := Lib.hid (Nat.le_trans HB3.out.size hb4.size); clear hb4
        rcases hmay : mayR H Wt x with _ | _
        · --{no
          have HMA := Lib.hid (show ¬ mayR H Wt x = true by rw [hmay]; decide)
          have hwt := waiting_any base g VH VW H Wt s w4 HI4.out hnw
          rw [hsx] at hwt
          have HWT := Lib.hid hwt; clear hwt
          go_wp2_with fail
          refine HWT.out.mono ?_
          rintro e w5 ⟨Vw, rfl, hroww, hb5⟩
          obtain ⟨Aw, cw, rfl, _, _⟩ := own_slice hroww
          clear hroww HWT
          have hI5 := HI4.out.tall hb5
          have hbk5 := HBK4.out.below hb5 HBK4.out.lt
          have hrl5 := own_belowK HRL4.out hb5
          have hba5 : Below w.heap.size w w5 := HBA.out.trans (hb5.mono HBA.out.size)
          by_cases h50 : 50 ≤ (waitR Wt x.key).length
          · have hfin : RlPost base g VH VW (lockR H Wt x) w (.returned (.tuple #[.bool false, .slice none 0 0, .int .i64 4])) w5 := by
              rw [lockR_any HMO.out hl, if_neg HANY.out, if_neg HMA.out, if_pos h50]
              have hI0 : RtS base g VH VW H Wt w w5 := ⟨VH, VW, hI5, ⟨hba5.os, hba5.tape, hba5.output, hba5.size, fun k hk _ => hba5.block k hk⟩, fun b h => .inl h⟩
              exact ⟨none, 0, rfl, hI0, World.ownsRow_nil _ _ _ _⟩
            have HF := Lib.hid hfin; clear hfin hI5 hbk5 hrl5 hba5
            have h50' : ((waitR Wt x.key).length : Int) ≥ 50 := by omega
            clear h50
            go_wp2_with fail
            go_ret3
            exact HF.out
          · --{new
            have HLR := Lib.hid (show lockR H Wt x = (false, outR H x, 0, H, Wt ++ [x]) by rw [lockR_any HMO.out hl, if_neg HANY.out, if_neg HMA.out, if_neg h50])
            have h50' : ¬ ((waitR Wt x.key).length : Int) ≥ 50 := by omega
            clear h50
            have hcar : ∀ W, Below w5.heap.size w5 W → W.cell? ⟨g, 1, none⟩ = some (.slice A Wt.length c) ∧ W.cell? ⟨w.heap.size, 0, none⟩ = some (.int .i64 x.tx) ∧ W.cell? ⟨w.heap.size, 1, none⟩ = some (.string s) ∧ W.cell? ⟨w.heap.size, 2, none⟩ = some (.int .i64 x.mode) := fun W hW => by
              have c1 := (hI5.blk.below hW hI5.blk.lt).cell 1
              have hk := hbk5.below hW hbk5.lt
              have k0 := hk.cell 0
              have k1 := hk.cell 1
              have k2 := hk.cell 2
              simp only [List.getElem?_toArray, List.getElem?_cons_zero, List.getElem?_cons_succ] at c1 k0 k1 k2
              rw [HVW.out] at c1
              exact ⟨c1, k0, k1, k2⟩
            have HCAR := Lib.hid hcar; clear hcar
            have HI5 := Lib.hid hI5; clear hI5
            have HBK5 := Lib.hid hbk5; clear hbk5
            have HRL5 := Lib.hid hrl5; clear hrl5
            have HBA5 := Lib.hid hba5; clear hba5
            have HSZ5 := Lib.hid (Nat.le_trans HSZ4.out hb5.size); clear hb5
            clear k0 k1 k2
            go_wp2_with fail
            refine wp_region_any (by kernel_rfl) ?_
            change wpAny _ _ _ _ _ _ _ (World.drew _)
            refine nplainQ (fun w' => w'.cell? ⟨g, 1, none⟩ = some (.slice A Wt.length c) ∧ w'.cell? ⟨w.heap.size, 0, none⟩ = some (.int .i64 x.tx) ∧ w'.cell? ⟨w.heap.size, 1, none⟩ = some (.string s) ∧ w'.cell? ⟨w.heap.size, 2, none⟩ = some (.int .i64 x.mode)) 8 (fun _ _ _ _ _ h => h) (fun HQP => ?_)
            have HCC := HCAR.out w5.drew (Below.refl _ _).drew
            refine ntakeW 0 rfl rfl (by kernel_rfl) (by kernel_rfl) (by kernel_rfl) (by kernel_rfl) (fun _ _ _ h => HQP _ _ _ _ _ h) (by kernel_rfl) HCC (fun w' hw' => by go_simp; rfl) ?_
            refine ntakeW 1 rfl rfl (by kernel_rfl) (by kernel_rfl) (by kernel_rfl) (by kernel_rfl) (fun _ _ _ h => HQP _ _ _ _ _ h) (by kernel_rfl) HCC (fun w' hw' => by go_simp; rfl) ?_
            refine ntakeW 2 rfl rfl (by kernel_rfl) (by kernel_rfl) (by kernel_rfl) (by kernel_rfl) (fun _ _ _ h => HQP _ _ _ _ _ h) (by kernel_rfl) HCC (fun w' hw' => by go_simp; rfl) ?_
            refine ntakeW 3 rfl rfl (by kernel_rfl) (by kernel_rfl) (by kernel_rfl) (by kernel_rfl) (fun _ _ _ h => HQP _ _ _ _ _ h) (by kernel_rfl) HCC (fun w' hw' => by go_simp; rfl) ?_
            refine ntakeW 4 rfl rfl (by kernel_rfl) (by kernel_rfl) (by kernel_rfl) (by kernel_rfl) (fun _ _ _ h => HQP _ _ _ _ _ h) (by kernel_rfl) HCC (fun w' hw' => by obtain ⟨q0, q1, q2, q3⟩ := hw'; go_simp; rfl) ?_
            refine ntakeW 5 rfl rfl (by kernel_rfl) (by kernel_rfl) (by kernel_rfl) (by kernel_rfl) (fun _ _ _ h => HQP _ _ _ _ _ h) (by kernel_rfl) HCC (fun w' hw' => by obtain ⟨q0, q1, q2, q3⟩ := hw'; go_simp; rfl) ?_
            refine nonly 6 (by kernel_rfl) rfl (by kernel_rfl) (fun K hK => ?_)
            go_simp
            refine hK _ _ (fun _ => HCAR.out _ ((Below.refl _ _).alloc (Nat.le_refl _) _).drew) ?_
            clear hK K HCC
            refine nonly 7 (by kernel_rfl) rfl (by kernel_rfl) (fun K hK => ?_)
            have hrow1 : w5.ownsRow base 37 3 (.slice A Wt.length c) Wt.length (Wt.flatMap akCells) := by rw [← HVW.out]; exact HI5.out.rowW
            have HROW := Lib.hid hrow1; clear hrow1
            refine wp_append1 w5.drew w5.heap.size rfl _ (.tmp 66) (.tmp 68) 27 rfl base 37 _ 3 32 Tryz.underlying27 a_info rfl (by decide) _ _ _ #[.int .i64 x.tx, .string s, .int .i64 x.mode] rfl HROW.out 1 rfl _ rfl rfl (by simp [Value.oneCell']) (by unfold maxLen; omega) (by omega) (by have := HI5.out.lo; have := HI5.out.blk.lt; show base ≤ w5.heap.size; omega) ?_
            intro V2 w6 hrow6 hm6
            obtain ⟨A6, c6, rfl, _, _⟩ := own_slice hrow6
            have hm6' : Moved w5 w6 VW.ownBlock (Value.ownBlock (.slice A6 (Wt.length + 1) c6)) := by rw [HVW.out]; exact ⟨⟨hm6.1.os, hm6.1.tape, hm6.1.output, hm6.1.size, hm6.1.block⟩, hm6.2⟩
            have hhV : ¬ some g = VW.ownBlock := fun e => own_blk_ne HI5.out.rowW HI5.out.blk (by decide) e.symm
            have hxV : ¬ some w.heap.size = VW.ownBlock := fun e => by have := HLT.out w.heap.size (.inr (.inr e.symm)); omega
            have hb6 := hm6'.1.blk HI5.out.blk hhV
            have hbx6 := hm6'.1.blk HBK5.out hxV
            have y0 := hb6.cell 1
            have y1 := hb6.frozen 1
            have k0 := hbx6.cell 0
            have k1 := hbx6.cell 1
            have k2 := hbx6.cell 2
            simp only [List.getElem?_toArray, List.getElem?_cons_succ, List.getElem?_cons_zero] at y0 k0 k1 k2
            rw [HVW.out] at y0
            have HC6 := Lib.hid (And.intro y0 (And.intro k0 (And.intro k1 k2)))
            have hmv7 : RtS base g VH VW H (Wt ++ [x]) w (w6.setCell ⟨g, 1, none⟩ (.slice A6 (Wt.length + 1) c6)) := by
              have hF := Fr.set1 g w6 1 (.slice A6 (Wt.length + 1) c6)
              have hrow7 : w6.ownsRow base 37 3 (.slice A6 (Wt.length + 1) c6) (Wt ++ [x]).length ((Wt ++ [x]).flatMap akCells) := by
                rw [List.length_append, List.flatMap_append, List.flatMap_singleton]
                unfold akCells
                rw [← HSE.out]
                exact hrow6
              have hap : ∀ b, VH.ownBlock = some b → (Value.slice A6 (Wt.length + 1) c6).ownBlock ≠ some b := fun b hb h => by
                rcases hm6'.2 with e | ⟨b', e, hb'⟩
                · exact HI5.out.apart b hb (e.symm.trans h)
                · rw [h] at e; injection e with e
                  have := (HI5.out.rowH.lt b hb).2
                  omega
              refine ⟨VH, _, ⟨hb6.set_ 1 _, hF.own (hm6'.1.own HI5.out.rowH (fun b hb e => HI5.out.apart b hb e.symm)) (fun b hb e => own_blk_ne HI5.out.rowH HI5.out.blk (by decide) (e ▸ hb)), hF.own hrow7 (fun b hb e => own_blk_ne hrow7 hb6 (by decide) (e ▸ hb)), hap, HI5.out.lo⟩, ?_, fun b hb => ?_⟩
              · exact (((show Fr (RFoot g VH VW) w w5 from ⟨HBA5.out.os, HBA5.out.tape, HBA5.out.output, HBA5.out.size, fun k hk _ => HBA5.out.block k hk⟩)).trans' hm6'.1 (fun q _ e => .inr (.inr e.symm))).setCell (p := ⟨g, 1, none⟩) (.inl (.inl rfl)) _
              · rcases hb with hb | hb | hb
                · exact .inl (.inl hb)
                · exact .inl (.inr (.inl hb))
                · rcases hm6'.2 with e | ⟨b', e, hb'⟩
                  · exact .inl (.inr (.inr (e.symm.trans hb)))
                  · rw [hb] at e; injection e with e
                    exact .inr (by have := HBA5.out.size; omega)
            have hrl7 : (w6.setCell ⟨g, 1, none⟩ (.slice A6 (Wt.length + 1) c6)).ownsRow wr.heap.size 3 1 Vl (wayR H x).length ((wayR H x).map (Value.int .i64)) := by
              have h6 := hm6'.1.own HRL5.out (fun b hb e => own_own_ne HRL5.out HI5.out.rowW (by decide) hb e.symm)
              exact (Fr.set1 g w6 1 _).own h6 (fun b hb e => own_blk_ne h6 hb6 (by decide) (e ▸ hb))
            have hbx7 := (Fr.set1 g w6 1 (.slice A6 (Wt.length + 1) c6)).blk hbx6 (fun e => hbx6.ne_ hb6 (by decide) e)
            have HMV7 := Lib.hid hmv7; clear hmv7
            have HRL7 := Lib.hid hrl7; clear hrl7
            have HBX7 := Lib.hid hbx7; clear hbx7
            have HSZ7 := Lib.hid (show w5.heap.size ≤ (w6.setCell ⟨g, 1, none⟩ (.slice A6 (Wt.length + 1) c6)).heap.size by have := hm6'.1.size; simpa [World.setCell] using this)
            clear hrow6 hm6 hm6' hb6 hbx6 hhV hxV
            go_simp
            refine hK _ _ (fun _ => HC6.out) ?_
            clear hK K
            refine nonly 8 (by kernel_rfl) rfl (by kernel_rfl) (fun K hK => ?_)
            go_simp
            refine hK _ _ (fun h => absurd h (by decide)) ?_
            clear hK K
            refine nonly 9 (by kernel_rfl) rfl (by kernel_rfl) (fun K hK => ?_)
            go_simp
            refine hK _ _ (fun h => absurd h (by decide)) ?_
            clear hK K
            refine nonly 10 (by kernel_rfl) rfl (by kernel_rfl) (fun K hK => ?_)
            go_simp
            refine hK _ _ (fun h => absurd h (by decide)) ?_
            clear hK K
            refine ndone (by kernel_rfl) ?_ _
            clear HQP y0 y1 k0 k1 k2
            generalize w6.setCell ⟨g, 1, none⟩ (.slice A6 (Wt.length + 1) c6) = w7 at *
            have hwl := wayR_len H x
            obtain ⟨Al, cl, rfl, _, _⟩ := own_slice HRL7.out
            have HRDL := Lib.hid (Rd.of_own HRL7.out)
            clear HRL HRL4 HRL5 HRL7 HCAR HC6 HROW
            go_wp2_with fail
            go_loopw [10, 74] (OuRel (wayR H x) x.tx w7) (fun _ v _ => (wayR H x).length - (intOf v).toNat)
            case atStart => exact ⟨0, rfl, Nat.zero_le _, World.ownsRow_nil _ _ _ _, Below.refl _ _⟩
            case round =>
              rename World => W8
              obtain ⟨i, rfl, hi, hown, hb⟩ := hrel
              by_cases hlti : (i : Int) < (wayR H x).length
              · obtain ⟨g', o', u, hAe, hga, hx, h0⟩ := (HRDL.out.below hb).at1 (k := i) (by omega)
                subst hAe
                obtain ⟨o, ho, rfl⟩ : ∃ o, (wayR H x)[i]? = some o ∧ u = .int .i64 o := by
                  rw [List.getElem?_map] at hx
                  rcases hh : (wayR H x)[i]? with _ | o
                  · rw [hh] at hx; simp at hx
                  · rw [hh] at hx; simp at hx; exact ⟨o, rfl, hx.symm⟩
                have hgw : g' < W8.heap.size := Nat.lt_of_lt_of_le hga hb.size
                have hbk := HBX7.out.below hb HBX7.out.lt
                have k0 := hbk.cell 0
                have kl8 := hbk.lt
                simp only [List.getElem?_toArray, List.getElem?_cons_zero] at k0
                have HSL := Lib.hid (ou_size (p := fun o => decide (x.tx < o)) hi)
                have HX := Lib.hid ho; clear ho hx
                have HO1 := Lib.hid hown; clear hown
                have HB1 := Lib.hid hb; clear hb hbk
                by_cases hgt : x.tx < o
                · have htf := (ou_step (p := fun o => decide (x.tx < o)) HX.out).trans (if_pos (by simpa using hgt))
                  have HTF := Lib.hid htf; clear htf
                  have d1 : decide (o > x.tx) = true := decide_eq_true hgt
                  clear hgt
                  go_wp2_with (at_builtin; refine stop ?_)
                  refine back ?_
                  refine wpList_append1 _ _ rfl (.tmp 82) (.tmp 84) 32 rfl w7.heap.size 3 (.int .i64 0) 1 8 Tryz.underlying32 int_infoL rfl (by decide) _ _ _ #[.int .i64 o] rfl HO1.out 1 rfl _ rfl rfl (by simp [Value.oneCell']) ?_ ?_ ?_ ?_
                  · have := HSL.out; unfold maxLen; omega
                  · have := HSL.out; omega
                  · exact HB1.out.size
                  intro v' w9 hown9 hmv
                  have hrel9 : OuRel (wayR H x) x.tx w7 v' (.int .i64 ((i + 1 : Nat) : Int)) w9 := by
                    refine ⟨i + 1, rfl, by omega, ?_, HB1.out.trans (hmv.below (fun b hb => (HO1.out.lt b hb).1) HB1.out.size)⟩
                    rw [HTF.out]
                    simpa using hown9
                  have HR := Lib.hid hrel9; clear hrel9 hown9 hmv
                  go_wp2_with fail
                  go_roundw
                  case rel => exact HR.out
                  case measure => simp [intOf]; omega
                · have htf := (ou_step (p := fun o => decide (x.tx < o)) HX.out).trans (if_neg (by simpa using hgt))
                  have hrel9 : OuRel (wayR H x) x.tx w7 u10 (.int .i64 ((i + 1 : Nat) : Int)) W8 := by
                    refine ⟨i + 1, rfl, by omega, ?_, HB1.out⟩
                    rw [htf]
                    exact HO1.out
                  have HR := Lib.hid hrel9; clear hrel9 htf
                  have d1 : decide (o > x.tx) = false := decide_eq_false (by omega)
                  clear hgt
                  go_wp2_with fail
                  go_roundw
                  case rel => exact HR.out
                  case measure => simp [intOf]; omega
              · obtain rfl : i = (wayR H x).length := by omega
                rw [List.take_length] at hown
                obtain ⟨A9, c9, rfl, _, _⟩ := own_slice hown
                have hfin : RlPost base g VH VW (lockR H Wt x) w (.returned (.tuple #[.bool false, .slice A9 ((wayR H x).filter (fun o => decide (x.tx < o))).length c9, .int .i64 0])) W8 := by
                  rw [HLR.out]
                  exact ⟨A9, c9, rfl, HMV7.out.more hb, own_base hown (by obtain ⟨_, _, _, hf, _⟩ := HMV7.out; exact hf.size)⟩
                have HF := Lib.hid hfin; clear hfin hown hb
                go_wp2_with fail
                go_ret3
                exact HF.out
            --}new
          --}no
        · --{yes
          have hhs := has_any base g VH VW H Wt x s w4 HSE.out HI4.out hn
          have HHS := Lib.hid hhs; clear hhs
          go_wp2_with fail
          refine HHS.out.mono ?_
          rintro e w5 ⟨VH', rfl, hI5, hf5, hft5⟩
          have hfin : RlPost base g VH VW (lockR H Wt x) w (.returned (.tuple #[.bool true, .slice none 0 0, .int .i64 0])) w5 := by
            rw [lockR_any HMO.out hl, if_neg HANY.out, if_pos hmay]
            refine ⟨none, 0, rfl, RtS.frTrans (H := H) (Wt := Wt) HBA.out ⟨VH', VW, hI5, hf5, fun b hb => ?_⟩, World.ownsRow_nil _ _ _ _⟩
            rcases hb with hb | hb | hb
            · exact .inl (.inl hb)
            · exact (hft5 b hb).imp (fun h => .inr (.inl h)) id
            · exact .inl (.inr (.inr hb))
          have HF := Lib.hid hfin; clear hfin hI5 hf5 hft5 k0 k1 k2
          go_wp2_with fail
          go_ret3
          exact HF.out
          --}yes
        --}end
end Go.Proofs.YtopmehbncidpnaaGreatDoor
