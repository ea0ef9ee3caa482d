/- chainmailref.Store in memory; Put. -/
import Derived.Test.YtmgpdkecpobcaaaDoorMv9
import Derived.Test.YtmgpdkecpobcaaaDoorHeldW
namespace Go.Proofs.YtmgpdkecpobcaaaDoor
open Go.RowKit
def rxCells (r : Rx) : List Value := [.string ⟨r.key.toArray⟩, .string ⟨r.v.toArray⟩, .bool r.g, .int .i64 r.t]
theorem rx_info : (Tryd.prog.info? 81).map (fun i => (i.zero, i.size, i.bytes)) = some (some (.agg #[.string ⟨#[]⟩, .string ⟨#[]⟩, .bool false, .int .i64 0]), 4, 48) := by kernel_rfl
theorem flatX : ∀ (l : List Rx) (j : Nat) (x : Rx), l[j]? = some x → ∀ i, i < 4 → (l.flatMap rxCells)[j * 4 + i]? = (rxCells x)[i]?
  | [], j, p, h, i, hi => by simp at h
  | q :: l, 0, p, h, i, hi => by
    simp at h
    subst h
    rw [List.flatMap_cons, List.getElem?_append_left (by show _ < 4; omega)]
    simp
  | q :: l, j + 1, p, h, i, hi => by
    have h' : l[j]? = some p := by simpa using h
    have e : (j + 1) * 4 + i = (j * 4 + i) + 4 := by omega
    have e3 : (rxCells q).length = 4 := rfl
    rw [e, List.flatMap_cons, List.getElem?_append_right (by rw [e3]; omega), e3, Nat.add_sub_cancel]
    exact flatX l j p h' i hi
theorem Rd.cellsX {w : World} {B n j : Nat} {A : Option Addr} {l : List Rx} (h : Rd w B 4 A n (l.flatMap rxCells)) (hl : l.length = n) (hj : j < n) : ∃ g off x, A = some ⟨g, off, none⟩ ∧ g < B ∧ l[j]? = some x ∧
    w.cell? ⟨g, off + j * 4, none⟩ = some (.string ⟨x.key.toArray⟩) ∧ w.cell? ⟨g, off + j * 4 + 1, none⟩ = some (.string ⟨x.v.toArray⟩) ∧ w.cell? ⟨g, off + j * 4 + 2, none⟩ = some (.bool x.g) ∧ w.cell? ⟨g, off + j * 4 + 3, none⟩ = some (.int .i64 x.t) := by
  obtain ⟨g, off, e, hb, hc⟩ := h.2 (by omega)
  have hx : l[j]? = some l[j] := List.getElem?_eq_getElem (by omega)
  have hf := flatX l j _ hx
  exact ⟨g, off, l[j], e, hb, hx, hc (j * 4) _ (hf 0 (by omega)), hc (j * 4 + 1) _ (hf 1 (by omega)), hc (j * 4 + 2) _ (hf 2 (by omega)), hc (j * 4 + 3) _ (hf 3 (by omega))⟩
structure RsI (w : World) (base g : Nat) (V : Value) (l : List Rx) (low : Int) : Prop where
  blk : Blk w g 50 #[V, .int .i64 low]
  row : w.ownsRow base 81 4 V l.length (l.flatMap rxCells)
  lo : base ≤ g
def RsFoot (g : Nat) (V : Value) (b : Nat) : Prop := b = g ∨ V.ownBlock = some b
section
variable {w w' : World} {base g : Nat} {V : Value} {l : List Rx} {low : Int}
theorem RsI.fr {S : Nat → Prop} (h : RsI w base g V l low) (hf : Fr S w w') (hn : ∀ b, RsFoot g V b → ¬ S b) : RsI w' base g V l low :=
  ⟨hf.blk h.blk (hn _ (.inl rfl)), hf.own h.row (fun b hb => hn b (.inr hb)), h.lo⟩
theorem RsI.foot_lt (h : RsI w base g V l low) {b : Nat} (hb : RsFoot g V b) : base ≤ b ∧ b < w.heap.size := by
  rcases hb with rfl | hb
  · exact ⟨h.lo, h.blk.lt⟩
  · exact h.row.lt b hb
theorem RsI.tall (h : RsI w base g V l low) (hb : Below w.heap.size w w') : RsI w' base g V l low :=
  h.fr (S := fun b => w.heap.size ≤ b) ⟨hb.os, hb.tape, hb.output, hb.size, fun i _ hn => hb.block i (by omega)⟩ (fun b hb2 h2 => by have := (h.foot_lt hb2).2; omega)
/-- What a step does to the document's Store. -/
def RsS (base g : Nat) (V : Value) (l' : List Rx) (low' : Int) (w w' : World) : Prop := ∃ V', RsI w' base g V' l' low' ∧ Fr (RsFoot g V) w w' ∧ ∀ b, RsFoot g V' b → RsFoot g V b ∨ w.heap.size ≤ b
theorem RsS.below (h : RsI w base g V l low) (hb : Below w.heap.size w w') : RsS base g V l low w w' :=
  ⟨V, h.tall hb, ⟨hb.os, hb.tape, hb.output, hb.size, fun k hk _ => hb.block k hk⟩, fun b h => .inl h⟩
end
def rputS (l : List Rx) (low : Int) (r : Rx) : Int × List Rx :=
  if r.t < 0 ∨ 1099511627776 < r.t then (2, l) else if 20 < r.key.length ∨ 40 < r.v.length then (4, l) else if r.t < low then (8, l) else if hasR' l r.key r.t then (9, l) else (0, l ++ [r])
theorem put_same {l : List Rx} {K : Kp} (s : StR l K) (low : Int) (r : Rx) : (rputS l low r).1 = (putS K low r).1 ∧ StR (rputS l low r).2 (putS K low r).2 := by
  unfold rputS putS
  rw [s.has r.key r.t]
  split
  · exact ⟨rfl, s⟩
  · split
    · exact ⟨rfl, s⟩
    · split
      · exact ⟨rfl, s⟩
      · rcases e : hasV (K r.key) r.t with _ | _
        · exact ⟨rfl, s.put r e⟩
        · exact ⟨rfl, s⟩
def RpPost (base g : Nat) (V : Value) (l : List Rx) (low : Int) (r : Rx) (w : World) (e : Ending) (w' : World) : Prop := e = .returned (.int .i64 (rputS l low r).1) ∧ RsS base g V (rputS l low r).2 low w w'
def rhB (x : Sx) (t : Int) (r : Rx) : Bool := decide (r.key = x) && decide (r.t = t)
def RpRel (l : List Rx) (x : Sx) (t : Int) (w : World) (v39 : Value) (wr : World) : Prop := ∃ i : Nat, v39 = .int .i64 i ∧ i ≤ l.length ∧ (∀ b ∈ l.take i, rhB x t b = false) ∧ Below w.heap.size w wr
section
variable (base g : Nat) (V : Value) (l : List Rx) (low : Int) (key val : ByteArray) (gone : Bool) (t : Int) (w : World) (hI : RsI w base g V l low)
include hI
theorem rput_early (er : Int) (hp : rputS l low ⟨sx key, sx val, gone, t⟩ = (er, l)) : RpPost base g V l low ⟨sx key, sx val, gone, t⟩ w (.returned (.int .i64 er)) (w.alloc (.cells #[.string key, .string val, .bool gone] 29)) := by
  unfold RpPost
  rw [hp]
  exact ⟨rfl, RsS.below hI ((Below.refl _ _).alloc (Nat.le_refl _) _)⟩
set_option maxRecDepth 100000 in
set_option maxHeartbeats 4000000 in
theorem rput_range (h : t < 0 ∨ 1099511627776 < t) : Calls Tryd.prog 14 #[.pointer (some ⟨g, 0, none⟩), .int .i64 t, .agg #[.string key, .string val, .bool gone]] w (RpPost base g V l low ⟨sx key, sx val, gone, t⟩ w) := by
  have hfin := rput_early base g V l low key val gone t w hI 2 (by unfold rputS; rw [if_pos h])
  have HF := Lib.hid hfin; clear hfin hI
  by_cases h0 : t < 0
  · have d1 : decide (t < 0) = true := decide_eq_true h0
    clear h
    go_enter Tryd.func14, Tryd.ntmps14
    go_wp2_with fail
    go_ret
    exact HF.out
  · have d1 : decide (t < 0) = false := decide_eq_false h0
    have h1 : t > 1099511627776 := by rcases h with h | h <;> omega
    have d2 : decide (t > 1099511627776) = true := decide_eq_true h1
    clear h
    go_enter Tryd.func14, Tryd.ntmps14
    go_wp2_with fail
    go_ret
    exact HF.out
set_option maxRecDepth 100000 in
set_option maxHeartbeats 4000000 in
theorem rput_limit (h : ¬ (t < 0 ∨ 1099511627776 < t)) (hl : 20 < (sx key).length ∨ 40 < (sx val).length) : Calls Tryd.prog 14 #[.pointer (some ⟨g, 0, none⟩), .int .i64 t, .agg #[.string key, .string val, .bool gone]] w (RpPost base g V l low ⟨sx key, sx val, gone, t⟩ w) := by
  have hfin := rput_early base g V l low key val gone t w hI 4 (by unfold rputS; rw [if_neg h, if_pos hl])
  have HF := Lib.hid hfin; clear hfin hI
  have d1 : decide (t < 0) = false := decide_eq_false (fun e => h (.inl e))
  have d2 : decide (t > 1099511627776) = false := decide_eq_false (fun e => h (.inr e))
  clear h
  rw [← size_sx, ← size_sx] at hl
  by_cases h1 : 20 < key.size
  · have d3 : decide ((key.size : Int) > 20) = true := decide_eq_true (by omega)
    clear hl
    go_enter Tryd.func14, Tryd.ntmps14
    go_wp2_with fail
    go_ret
    exact HF.out
  · have d3 : decide ((key.size : Int) > 20) = false := decide_eq_false (by omega)
    have d4 : decide ((val.size : Int) > 40) = true := decide_eq_true (by omega)
    clear hl
    go_enter Tryd.func14, Tryd.ntmps14
    go_wp2_with fail
    go_ret
    exact HF.out
set_option maxRecDepth 100000 in
set_option maxHeartbeats 4000000 in
theorem rput_none (h : ¬ (t < 0 ∨ 1099511627776 < t)) (hl : ¬ (20 < (sx key).length ∨ 40 < (sx val).length)) (hlo : t < low) : Calls Tryd.prog 14 #[.pointer (some ⟨g, 0, none⟩), .int .i64 t, .agg #[.string key, .string val, .bool gone]] w (RpPost base g V l low ⟨sx key, sx val, gone, t⟩ w) := by
  have hfin := rput_early base g V l low key val gone t w hI 8 (by unfold rputS; rw [if_neg h, if_neg hl, if_pos hlo])
  have HF := Lib.hid hfin; clear hfin
  have c1 := hI.blk.cell 1
  have hgl := hI.blk.lt
  simp only [List.getElem?_toArray, List.getElem?_cons_zero, List.getElem?_cons_succ] at c1
  clear hI
  have d1 : decide (t < 0) = false := decide_eq_false (fun e => h (.inl e))
  have d2 : decide (t > 1099511627776) = false := decide_eq_false (fun e => h (.inr e))
  have d5 : decide (t < low) = true := decide_eq_true hlo
  rw [← size_sx, ← size_sx] at hl
  have d3 : decide ((key.size : Int) > 20) = false := decide_eq_false (by omega)
  have d4 : decide ((val.size : Int) > 40) = false := decide_eq_false (by omega)
  clear h hl
  go_enter Tryd.func14, Tryd.ntmps14
  go_wp2_with fail
  go_ret
  exact HF.out
set_option maxRecDepth 100000 in
set_option maxHeartbeats 16000000 in
theorem rput_rest (h : ¬ (t < 0 ∨ 1099511627776 < t)) (hl : ¬ (20 < (sx key).length ∨ 40 < (sx val).length)) (hlo : ¬ t < low) (hn : l.length ≤ 1000000) : Calls Tryd.prog 14 #[.pointer (some ⟨g, 0, none⟩), .int .i64 t, .agg #[.string key, .string val, .bool gone]] w (RpPost base g V l low ⟨sx key, sx val, gone, t⟩ w) := by
  have hps : rputS l low ⟨sx key, sx val, gone, t⟩ = if hasR' l (sx key) t then (9, l) else (0, l ++ [⟨sx key, sx val, gone, t⟩]) := by
    unfold rputS; rw [if_neg h, if_neg hl, if_neg hlo]
  have HPS := Lib.hid hps; clear hps
  have hb0 : Below w.heap.size w (w.alloc (.cells #[.string key, .string val, .bool gone] 29)) := (Below.refl _ _).alloc (Nat.le_refl _) _
  have hp0 : Blk (w.alloc (.cells #[.string key, .string val, .bool gone] 29)) w.heap.size 29 #[.string key, .string val, .bool gone] := Blk.new _ _ _
  have hI0 := hI.tall hb0
  have hlt := fun b (hb : RsFoot g V b) => (hI.foot_lt hb).2
  obtain ⟨A, c, hV, _, _⟩ := own_slice hI0.row
  have c0 := hI0.blk.cell 0
  have c1 := hI.blk.cell 1
  have hgl := hI.blk.lt
  have hgl0 := hI0.blk.lt
  simp only [List.getElem?_toArray, List.getElem?_cons_zero, List.getElem?_cons_succ] at c0 c1
  rw [hV] at c0
  have HRD := Lib.hid (Rd.of_own (hV ▸ hI0.row))
  have d1 : decide (t < 0) = false := decide_eq_false (fun e => h (.inl e))
  have d2 : decide (t > 1099511627776) = false := decide_eq_false (fun e => h (.inr e))
  have d5 : decide (t < low) = false := decide_eq_false hlo
  rw [← size_sx, ← size_sx] at hl
  have d3 : decide ((key.size : Int) > 20) = false := decide_eq_false (by omega)
  have d4 : decide ((val.size : Int) > 40) = false := decide_eq_false (by omega)
  have HV := Lib.hid hV; clear hV
  have HI0 := Lib.hid hI0; clear hI0 hI
  have HP0 := Lib.hid hp0; clear hp0
  have HB0 := Lib.hid hb0; clear hb0
  have HLT := Lib.hid hlt; clear hlt
  clear h hl
  go_enter Tryd.func14, Tryd.ntmps14
  go_upto_region 7 with (fail)
  clear d1 d2 d3 d4 d5 c1
  generalize hw0 : w.alloc (.cells #[.string key, .string val, .bool gone] 29) = w0 at *
  have hz0 : w0.heap.size = w.heap.size + 1 := by rw [← hw0]; simp
  have HZ0 := Lib.hid hz0; clear hz0 hw0
  go_wp2_with fail
  clear c0 hgl0
  go_loopw [39] (RpRel l (sx key) t w0) (fun v _ => l.length - (intOf v).toNat)
  case atStart => exact ⟨0, rfl, Nat.zero_le _, (fun b hb => by simp at hb), Below.refl _ _⟩
  case round =>
    obtain ⟨i, rfl, hi, hno, hb⟩ := hrel
    by_cases hlti : (i : Int) < l.length
    · --{one
      obtain ⟨g', o', a, hAe, hga, hx, h0, h1, h2, h3⟩ := (HRD.out.below hb).cellsX rfl (j := i) (by omega)
      subst hAe
      have hgw : g' < wr.heap.size := Nat.lt_of_lt_of_le hga hb.size
      have hb1 : Below w0.heap.size w0 (wr.alloc (.cells #[.string ⟨a.key.toArray⟩, .string ⟨a.v.toArray⟩, .bool a.g, .int .i64 a.t] 81)) := hb.alloc hb.size _
      have ha1 : Blk (wr.alloc (.cells #[.string ⟨a.key.toArray⟩, .string ⟨a.v.toArray⟩, .bool a.g, .int .i64 a.t] 81)) wr.heap.size 81 #[.string ⟨a.key.toArray⟩, .string ⟨a.v.toArray⟩, .bool a.g, .int .i64 a.t] := Blk.new _ _ _
      have hbk := HP0.out.below hb1 HP0.out.lt
      have HX := Lib.hid hx; clear hx
      have HNO := Lib.hid hno; clear hno
      have HA1 := Lib.hid ha1; clear ha1
      have HB1 := Lib.hid hb1; clear hb1
      have HSW := Lib.hid hb.size; clear hb
      have HBK := Lib.hid hbk; clear hbk
      go_upto_region 10 with (fail)
      clear h0 h1 h2 h3
      generalize hw1 : wr.alloc (.cells #[.string ⟨a.key.toArray⟩, .string ⟨a.v.toArray⟩, .bool a.g, .int .i64 a.t] 81) = w1 at *
      clear hw1
      go_cut [53] (fun s53 wx => s53 = .bool (rhB (sx key) t a) ∧ wx = w1)
      case first =>
        have k0 := HBK.out.cell 0
        have a0 := HA1.out.cell 0
        have a3 := HA1.out.cell 3
        have kl := HBK.out.lt
        have al := HA1.out.lt
        simp only [List.getElem?_toArray, List.getElem?_cons_zero, List.getElem?_cons_succ] at k0 a0 a3
        by_cases e1 : a.key = sx key
        · have d1 : (a.key == key.toList) = true := by rw [toList_sx, beq_iff_eq]; exact e1
          by_cases e2 : a.t = t
          · have d2 : (a.t == t) = true := by simpa using e2
            have HW := Lib.hid (show rhB (sx key) t a = true by unfold rhB; simp [e1, e2])
            clear e1 e2
            go_wp2_with fail
            go_meet
            exact ⟨by rw [HW.out], rfl⟩
          · have d2 : (a.t == t) = false := by simpa using e2
            have HW := Lib.hid (show rhB (sx key) t a = false by unfold rhB; simp [e2])
            clear e1 e2
            go_wp2_with fail
            go_meet
            exact ⟨by rw [HW.out], rfl⟩
        · have d1 : (a.key == key.toList) = false := by rw [toList_sx, beq_eq_false_iff_ne]; exact e1
          have HW := Lib.hid (show rhB (sx key) t a = false by unfold rhB; simp [e1])
          clear e1
          go_wp2_with fail
          go_meet
          exact ⟨by rw [HW.out], rfl⟩
      case rest =>
        obtain ⟨hu53, hwx⟩ := hcut
        subst hu53 hwx
        rcases hin : rhB (sx key) t a with _ | _
        · have hrel9 : RpRel l (sx key) t w0 (.int .i64 ((i + 1 : Nat) : Int)) wc := by
            refine ⟨i + 1, rfl, by omega, fun b hb => ?_, HB1.out⟩
            rw [List.take_add_one, HX.out] at hb
            rcases List.mem_append.1 hb with hb | hb
            · exact HNO.out b hb
            · simp at hb; rw [hb]; exact hin
          have HR := Lib.hid hrel9; clear hrel9
          go_wp2_with fail
          go_roundw
          case rel => exact HR.out
          case measure => simp [intOf]; omega
        · have hfin : RpPost base g V l low ⟨sx key, sx val, gone, t⟩ w (.returned (.int .i64 9)) wc := by
            have e : hasR' l (sx key) t = true := List.any_eq_true.2 ⟨a, List.mem_of_getElem? HX.out, hin⟩
            unfold RpPost
            rw [HPS.out, if_pos e]
            have hbw : Below w.heap.size w wc := HB0.out.trans (HB1.out.mono HB0.out.size)
            exact ⟨rfl, V, HI0.out.tall HB1.out, ⟨hbw.os, hbw.tape, hbw.output, hbw.size, fun k hk _ => hbw.block k hk⟩, fun b h => .inl h⟩
          have HF := Lib.hid hfin; clear hfin
          go_wp2_with fail
          go_ret
          exact HF.out
      --}one
    · --{new
      obtain rfl : i = l.length := by omega
      rw [List.take_length] at hno
      have hany : ¬ hasR' l (sx key) t = true := fun e => by
        obtain ⟨b, hb, hp⟩ := List.any_eq_true.1 e
        have := hno b hb
        unfold rhB at this
        rw [this] at hp
        cases hp
      have HNEW := Lib.hid (HPS.out.trans (if_neg hany)); clear hno hany
      have hI2 := HI0.out.tall hb
      have hp2 := HP0.out.below hb HP0.out.lt
      have hcar : ∀ W, Below wr.heap.size wr W → W.cell? ⟨g, 0, none⟩ = some (.slice A l.length c) ∧ W.cell? ⟨w.heap.size, 0, none⟩ = some (.string key) ∧ W.cell? ⟨w.heap.size, 1, none⟩ = some (.string val) ∧ W.cell? ⟨w.heap.size, 2, none⟩ = some (.bool gone) := fun W hW => by
        have c0 := (hI2.blk.below hW hI2.blk.lt).cell 0
        have hk := hp2.below hW hp2.lt
        have k0 := hk.cell 0
        have k1 := hk.cell 1
        have k2 := hk.cell 2
        simp only [List.getElem?_toArray, List.getElem?_cons_zero, List.getElem?_cons_succ] at c0 k0 k1 k2
        rw [HV.out] at c0
        exact ⟨c0, k0, k1, k2⟩
      have HCAR := Lib.hid hcar; clear hcar
      have HI2 := Lib.hid hI2; clear hI2
      have HP2 := Lib.hid hp2; clear hp2
      have HBR := Lib.hid hb; clear hb
      go_wp2_with fail
      refine wp_region_any (by kernel_rfl) ?_
      change wpAny _ _ _ _ _ _ _ (World.drew _)
      refine nplainQ (fun w' => w'.cell? ⟨g, 0, none⟩ = some (.slice A l.length c) ∧ w'.cell? ⟨w.heap.size, 0, none⟩ = some (.string key) ∧ w'.cell? ⟨w.heap.size, 1, none⟩ = some (.string val) ∧ w'.cell? ⟨w.heap.size, 2, none⟩ = some (.bool gone)) 15 (fun _ _ _ _ _ h => h) (fun HQP => ?_)
      have HCC := HCAR.out wr.drew (Below.refl _ _).drew
      refine ntakeW 0 rfl rfl (by kernel_rfl) (by kernel_rfl) (by kernel_rfl) (by kernel_rfl) (fun _ _ _ h => HQP _ _ _ _ _ h) (by kernel_rfl) HCC (fun w' hw' => by go_simp; rfl) ?_
      refine ntakeW 1 rfl rfl (by kernel_rfl) (by kernel_rfl) (by kernel_rfl) (by kernel_rfl) (fun _ _ _ h => HQP _ _ _ _ _ h) (by kernel_rfl) HCC (fun w' hw' => by go_simp; rfl) ?_
      refine ntakeW 2 rfl rfl (by kernel_rfl) (by kernel_rfl) (by kernel_rfl) (by kernel_rfl) (fun _ _ _ h => HQP _ _ _ _ _ h) (by kernel_rfl) HCC (fun w' hw' => by go_simp; rfl) ?_
      refine ntakeW 3 rfl rfl (by kernel_rfl) (by kernel_rfl) (by kernel_rfl) (by kernel_rfl) (fun _ _ _ h => HQP _ _ _ _ _ h) (by kernel_rfl) HCC (fun w' hw' => by go_simp; rfl) ?_
      refine ntakeW 4 rfl rfl (by kernel_rfl) (by kernel_rfl) (by kernel_rfl) (by kernel_rfl) (fun _ _ _ h => HQP _ _ _ _ _ h) (by kernel_rfl) HCC (fun w' hw' => by obtain ⟨q0, q1, q2, q3⟩ := hw'; go_simp; rfl) ?_
      refine ntakeW 5 rfl rfl (by kernel_rfl) (by kernel_rfl) (by kernel_rfl) (by kernel_rfl) (fun _ _ _ h => HQP _ _ _ _ _ h) (by kernel_rfl) HCC (fun w' hw' => by go_simp; rfl) ?_
      refine ntakeW 6 rfl rfl (by kernel_rfl) (by kernel_rfl) (by kernel_rfl) (by kernel_rfl) (fun _ _ _ h => HQP _ _ _ _ _ h) (by kernel_rfl) HCC (fun w' hw' => by obtain ⟨q0, q1, q2, q3⟩ := hw'; go_simp; rfl) ?_
      refine ntakeW 7 rfl rfl (by kernel_rfl) (by kernel_rfl) (by kernel_rfl) (by kernel_rfl) (fun _ _ _ h => HQP _ _ _ _ _ h) (by kernel_rfl) HCC (fun w' hw' => by go_simp; rfl) ?_
      refine ntakeW 8 rfl rfl (by kernel_rfl) (by kernel_rfl) (by kernel_rfl) (by kernel_rfl) (fun _ _ _ h => HQP _ _ _ _ _ h) (by kernel_rfl) HCC (fun w' hw' => by obtain ⟨q0, q1, q2, q3⟩ := hw'; go_simp; rfl) ?_
      refine ntakeW 9 rfl rfl (by kernel_rfl) (by kernel_rfl) (by kernel_rfl) (by kernel_rfl) (fun _ _ _ h => HQP _ _ _ _ _ h) (by kernel_rfl) HCC (fun w' hw' => by go_simp; rfl) ?_
      refine ntakeW 10 rfl rfl (by kernel_rfl) (by kernel_rfl) (by kernel_rfl) (by kernel_rfl) (fun _ _ _ h => HQP _ _ _ _ _ h) (by kernel_rfl) HCC (fun w' hw' => by obtain ⟨q0, q1, q2, q3⟩ := hw'; go_simp; rfl) ?_
      refine ntakeW 11 rfl rfl (by kernel_rfl) (by kernel_rfl) (by kernel_rfl) (by kernel_rfl) (fun _ _ _ h => HQP _ _ _ _ _ h) (by kernel_rfl) HCC (fun w' hw' => by go_simp; rfl) ?_
      refine ntakeW 12 rfl rfl (by kernel_rfl) (by kernel_rfl) (by kernel_rfl) (by kernel_rfl) (fun _ _ _ h => HQP _ _ _ _ _ h) (by kernel_rfl) HCC (fun w' hw' => by go_simp; rfl) ?_
      clear HCC
      refine nonly 13 (by kernel_rfl) rfl (by kernel_rfl) (fun KK hK => ?_)
      go_simp
      refine hK _ _ (fun _ => HCAR.out _ ((Below.refl _ _).alloc (Nat.le_refl _) _).drew) ?_
      clear hK KK
      refine nonly 14 (by kernel_rfl) rfl (by kernel_rfl) (fun KK hK => ?_)
      have hrow1 : wr.ownsRow base 81 4 (.slice A l.length c) l.length (l.flatMap rxCells) := by rw [← HV.out]; exact HI2.out.row
      have HROW := Lib.hid hrow1; clear hrow1
      refine wp_append1 wr.drew wr.heap.size rfl _ (.tmp 59) (.tmp 68) 48 rfl base 81 _ 4 48 Tryd.underlying48 rx_info rfl (by decide) _ _ _ #[.string key, .string val, .bool gone, .int .i64 t] rfl HROW.out 1 rfl _ rfl rfl (by simp [Value.oneCell']) (by unfold maxLen; omega) (by omega) (by have := HI2.out.lo; have := HI2.out.blk.lt; show base ≤ wr.heap.size; omega) ?_
      intro V2 w4 hrow4 hm4
      obtain ⟨A4, c4, rfl, _, _⟩ := own_slice hrow4
      have hm4' : Moved wr w4 V.ownBlock (Value.ownBlock (.slice A4 (l.length + 1) c4)) := by rw [HV.out]; exact ⟨⟨hm4.1.os, hm4.1.tape, hm4.1.output, hm4.1.size, hm4.1.block⟩, hm4.2⟩
      have hhV : ¬ some g = V.ownBlock := fun e => own_blk_ne HI2.out.row HI2.out.blk (by decide) e.symm
      have hxV : ¬ some w.heap.size = V.ownBlock := fun e => by have := HLT.out w.heap.size (.inr e.symm); omega
      have hb4 := hm4'.1.blk HI2.out.blk hhV
      have hbx4 := hm4'.1.blk HP2.out hxV
      have y0 := hb4.cell 0
      have y1 := hb4.frozen 0
      have k0 := hbx4.cell 0
      have k1 := hbx4.cell 1
      have k2 := hbx4.cell 2
      simp only [List.getElem?_toArray, List.getElem?_cons_succ, List.getElem?_cons_zero] at y0 k0 k1 k2
      rw [HV.out] at y0
      have HC4 := Lib.hid (And.intro y0 (And.intro k0 (And.intro k1 k2)))
      have hfin : RpPost base g V l low ⟨sx key, sx val, gone, t⟩ w (.returned (.int .i64 0)) (w4.setCell ⟨g, 0, none⟩ (.slice A4 (l.length + 1) c4)) := by
        have hF := Fr.set1 g w4 0 (.slice A4 (l.length + 1) c4)
        have hrow5 : w4.ownsRow base 81 4 (.slice A4 (l.length + 1) c4) (l ++ [(⟨sx key, sx val, gone, t⟩ : Rx)]).length ((l ++ [(⟨sx key, sx val, gone, t⟩ : Rx)]).flatMap rxCells) := by
          rw [List.length_append, List.flatMap_append, List.flatMap_singleton]
          unfold rxCells
          simp only [mk_sx]
          exact hrow4
        unfold RpPost
        rw [HNEW.out]
        have hBw : Below w.heap.size w wr := HB0.out.trans (HBR.out.mono HB0.out.size)
        refine ⟨rfl, _, ⟨hb4.set_ 0 _, hF.own hrow5 (fun b hb e => own_blk_ne hrow5 hb4 (by decide) (e ▸ hb)), HI2.out.lo⟩, ?_, fun b hb => ?_⟩
        · exact (((show Fr (RsFoot g V) w wr from ⟨hBw.os, hBw.tape, hBw.output, hBw.size, fun k hk _ => hBw.block k hk⟩)).trans' hm4'.1 (fun q _ e => .inr e.symm)).setCell (p := ⟨g, 0, none⟩) (.inl (.inl rfl)) _
        · rcases hb with hb | hb
          · exact .inl (.inl hb)
          · rcases hm4'.2 with e | ⟨b', e, hb'⟩
            · exact .inl (.inr (e.symm.trans hb))
            · rw [hb] at e; injection e with e
              exact .inr (by have := hBw.size; omega)
      have HFIN := Lib.hid hfin; clear hfin hrow4 hm4 hm4' hb4 hbx4 hhV hxV
      go_simp
      refine hK _ _ (fun _ => HC4.out) ?_
      clear hK KK
      refine nonly 15 (by kernel_rfl) rfl (by kernel_rfl) (fun KK hK => ?_)
      go_simp
      refine hK _ _ (fun h => absurd h (by decide)) ?_
      clear hK KK
      refine nonly 16 (by kernel_rfl) rfl (by kernel_rfl) (fun KK hK => ?_)
      go_simp
      refine hK _ _ (fun h => absurd h (by decide)) ?_
      clear hK KK
      refine nonly 17 (by kernel_rfl) rfl (by kernel_rfl) (fun KK hK => ?_)
      go_simp
      refine hK _ _ (fun h => absurd h (by decide)) ?_
      clear hK KK
      refine ndone (by kernel_rfl) ?_ _
      clear HQP y0 y1 k0 k1 k2
      go_wp2_with fail
      go_ret
      exact HFIN.out
      --}new
theorem rput_any (hn : l.length ≤ 1000000) : Calls Tryd.prog 14 #[.pointer (some ⟨g, 0, none⟩), .int .i64 t, .agg #[.string key, .string val, .bool gone]] w (RpPost base g V l low ⟨sx key, sx val, gone, t⟩ w) := by
  by_cases h : t < 0 ∨ 1099511627776 < t
  · exact rput_range base g V l low key val gone t w hI h
  · by_cases hl : 20 < (sx key).length ∨ 40 < (sx val).length
    · exact rput_limit base g V l low key val gone t w hI h hl
    · by_cases hlo : t < low
      · exact rput_none base g V l low key val gone t w hI h hl hlo
      · exact rput_rest base g V l low key val gone t w hI h hl hlo hn
end
end Go.Proofs.YtmgpdkecpobcaaaDoor
