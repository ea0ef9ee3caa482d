/- chainmailref.Store: Get. -/
import Derived.Test.YtmgpdkecpobcaaaDoorRs1
namespace Go.Proofs.YtmgpdkecpobcaaaDoor
open Go.RowKit
def stepB (x : Sx) (t : Int) (b : Option Rx) (r : Rx) : Option Rx := if hitR x t r then (match b with | none => some r | some c => if c.t < r.t then some r else some c) else b
theorem best_step {x : Sx} {t : Int} {l : List Rx} {i : Nat} {a : Rx} (ha : l[i]? = some a) : bestR x t (l.take (i + 1)) = stepB x t (bestR x t (l.take i)) a := by
  unfold bestR
  rw [List.take_add_one, ha, List.foldl_append]
  rfl
/-- The best one so far, by its place. -/
def BsI (x : Sx) (t : Int) (l : List Rx) (i : Nat) (v : Value) : Prop := (v = .int .i64 (-1) ∧ bestR x t (l.take i) = none) ∨ ∃ (j : Nat) (c : Rx), v = .int .i64 j ∧ j < i ∧ l[j]? = some c ∧ bestR x t (l.take i) = some c
def RgRel (x : Sx) (t : Int) (l : List Rx) (w : World) (v9 v23 : Value) (wr : World) : Prop := ∃ i : Nat, v23 = .int .i64 i ∧ i ≤ l.length ∧ BsI x t l i v9 ∧ Below w.heap.size w wr
def RgPost (r : Sx × Bool) (w : World) (e : Ending) (w' : World) : Prop := e = .returned (.tuple #[.string ⟨r.1.toArray⟩, .bool r.2, .int .i64 0]) ∧ Below w.heap.size w w'
def tkB (x : Sx) (t : Int) (b : Option Rx) (a : Rx) : Bool := hitR x t a && (match b with | none => true | some c => decide (a.t > c.t))
theorem stepB_yes {x : Sx} {t : Int} {b : Option Rx} {a : Rx} (h : tkB x t b a = true) : stepB x t b a = some a := by
  unfold tkB at h
  unfold stepB
  rw [Bool.and_eq_true] at h
  rw [if_pos h.1]
  cases b with
  | none => rfl
  | some c => have := h.2; simp at this; simp [this]
theorem stepB_no {x : Sx} {t : Int} {b : Option Rx} {a : Rx} (h : tkB x t b a = false) : stepB x t b a = b := by
  unfold tkB at h
  unfold stepB
  split
  · rename_i h1
    rw [h1] at h
    cases b with
    | none => cases h
    | some c => simp at h; simp; omega
  · rfl
section
variable (base g : Nat) (V : Value) (l : List Rx) (low : Int) (s : ByteArray) (t : Int) (w : World) (hI : RsI w base g V l low)
include hI
set_option maxRecDepth 100000 in
set_option maxHeartbeats 4000000 in
theorem rget_low (ht : t < low) : Calls Tryd.prog 16 #[.pointer (some ⟨g, 0, none⟩), .string s, .int .i64 t] w fun e w' => e = .returned (.tuple #[.string ⟨#[]⟩, .bool false, .int .i64 8]) ∧ w' = w := by
  have c1 := hI.blk.cell 1
  have hgl := hI.blk.lt
  simp only [List.getElem?_toArray, List.getElem?_cons_zero, List.getElem?_cons_succ] at c1
  clear hI
  have d1 : decide (t < low) = true := decide_eq_true ht
  go_enter Tryd.func16, Tryd.ntmps16
  go_wp2_with fail
  go_ret3
  exact ⟨rfl, rfl⟩
set_option maxRecDepth 100000 in
set_option maxHeartbeats 16000000 in
theorem rget_any (ht : ¬ t < low) (hn : l.length ≤ 1000000) : Calls Tryd.prog 16 #[.pointer (some ⟨g, 0, none⟩), .string s, .int .i64 t] w (RgPost (tellR (bestR (sx s) t l)) w) := by
  obtain ⟨A, c, hV, _, _⟩ := own_slice hI.row
  have c0 := hI.blk.cell 0
  have c1 := hI.blk.cell 1
  have hgl := hI.blk.lt
  simp only [List.getElem?_toArray, List.getElem?_cons_zero, List.getElem?_cons_succ] at c0 c1
  rw [hV] at c0
  have HRD := Lib.hid (Rd.of_own (hV ▸ hI.row))
  have HV := Lib.hid hV; clear hV
  have HI := Lib.hid hI; clear hI
  have d1 : decide (t < low) = false := decide_eq_false ht
  clear ht
  go_enter Tryd.func16, Tryd.ntmps16
  go_wp2_with fail
  clear c0 c1 hgl d1
  go_loopw [9, 23] (RgRel (sx s) t l w) (fun _ v _ => l.length - (intOf v).toNat)
  case atStart => exact ⟨0, rfl, Nat.zero_le _, .inl ⟨rfl, rfl⟩, Below.refl _ _⟩
  case round =>
    obtain ⟨i, rfl, hi, hbs, hb⟩ := hrel
    have hIr := HI.out.tall hb
    have c0 := hIr.blk.cell 0
    have hglr := hIr.blk.lt
    simp only [List.getElem?_toArray, List.getElem?_cons_zero, List.getElem?_cons_succ] at c0
    rw [HV.out] at c0
    by_cases hlti : (i : Int) < l.length
    · --{one
      obtain ⟨g', o', a, hAe, hga, hx, h0, h1, h2, h3⟩ := (HRD.out.below hb).cellsX rfl (j := i) (by omega)
      subst hAe
      have hgw : g' < wr.heap.size := Nat.lt_of_lt_of_le hga hb.size
      have hb1 : Below w.heap.size w (wr.alloc (.cells #[.string ⟨a.key.toArray⟩, .string ⟨a.v.toArray⟩, .bool a.g, .int .i64 a.t] 81)) := hb.alloc hb.size _
      have ha1 : Blk (wr.alloc (.cells #[.string ⟨a.key.toArray⟩, .string ⟨a.v.toArray⟩, .bool a.g, .int .i64 a.t] 81)) wr.heap.size 81 #[.string ⟨a.key.toArray⟩, .string ⟨a.v.toArray⟩, .bool a.g, .int .i64 a.t] := Blk.new _ _ _
      have HX := Lib.hid hx; clear hx
      have HA1 := Lib.hid ha1; clear ha1
      have HB1 := Lib.hid hb1; clear hb1
      have HSW := Lib.hid hb.size; clear hb
      have HIR := Lib.hid hIr; clear hIr
      go_upto_region 7 with (fail)
      clear h0 h1 h2 h3 c0 hglr
      generalize hw1 : wr.alloc (.cells #[.string ⟨a.key.toArray⟩, .string ⟨a.v.toArray⟩, .bool a.g, .int .i64 a.t] 81) = w1 at *
      clear hw1
      go_cut [54] (fun s54 wx => s54 = .bool (tkB (sx s) t (bestR (sx s) t (l.take i)) a) ∧ Below w1.heap.size w1 wx)
      case first =>
        --{cond
        have a0 := HA1.out.cell 0
        have a3 := HA1.out.cell 3
        have al := HA1.out.lt
        simp only [List.getElem?_toArray, List.getElem?_cons_zero, List.getElem?_cons_succ] at a0 a3
        by_cases e1 : a.key = sx s
        · have q1 : (a.key == s.toList) = true := by rw [toList_sx, beq_iff_eq]; exact e1
          by_cases e2 : a.t ≤ t
          · have q2 : decide (a.t ≤ t) = true := decide_eq_true e2
            have hhit : hitR (sx s) t a = true := by unfold hitR; simp [e1, e2]
            rcases hbs with ⟨rfl, hnone⟩ | ⟨j, cc, rfl, hji, hjc, hsome⟩
            · have HW := Lib.hid (show tkB (sx s) t (bestR (sx s) t (l.take i)) a = true by unfold tkB; rw [hnone, hhit]; rfl)
              clear e1 hhit hnone
              go_quiet (fail)
              go_wp2_with fail
              go_meet
              exact ⟨by rw [HW.out], ⟨rfl, rfl, rfl, Nat.le_refl _, fun _ _ => rfl⟩⟩
            · have hI1 := HI.out.tall HB1.out
              have cs := hI1.blk.cell 0
              have gls := hI1.blk.lt
              simp only [List.getElem?_toArray, List.getElem?_cons_zero, List.getElem?_cons_succ] at cs
              rw [HV.out] at cs
              obtain ⟨g2, o2, a2, hA2, hg2, hx2, j0, j1, j2, j3⟩ := (HRD.out.below HB1.out).cellsX rfl (j := j) (by omega)
              injection hA2 with hA2
              injection hA2 with hA21 hA22
              subst hA21 hA22
              obtain rfl : a2 = cc := Option.some.inj (hx2.symm.trans hjc)
              have hgl2 : g' < w1.heap.size := Nat.lt_of_lt_of_le hg2 HB1.out.size
              have dneg : decide (((j : Nat) : Int) < 0) = false := decide_eq_false (by omega)
              have hjl : (j : Int) < l.length := by omega
              by_cases e3 : a.t > a2.t
              · have q3 : decide (a.t > a2.t) = true := decide_eq_true e3
                have HW := Lib.hid (show tkB (sx s) t (bestR (sx s) t (l.take i)) a = true by unfold tkB; rw [hsome, hhit]; simp only [Bool.true_and]; exact q3)
                clear e1 hhit hsome hjc hx2 j0 j1 j2 hI1
                go_quiet (fail)
                go_wp2_with fail
                go_meet
                exact ⟨by rw [HW.out], ⟨rfl, rfl, rfl, Nat.le_refl _, fun _ _ => rfl⟩⟩
              · have q3 : decide (a.t > a2.t) = false := decide_eq_false e3
                have HW := Lib.hid (show tkB (sx s) t (bestR (sx s) t (l.take i)) a = false by unfold tkB; rw [hsome, hhit]; simp only [Bool.true_and]; exact q3)
                clear e1 hhit hsome hjc hx2 j0 j1 j2 hI1
                go_quiet (fail)
                go_wp2_with fail
                go_meet
                exact ⟨by rw [HW.out], ⟨rfl, rfl, rfl, Nat.le_refl _, fun _ _ => rfl⟩⟩
          · have q2 : decide (a.t ≤ t) = false := decide_eq_false e2
            have HW := Lib.hid (show tkB (sx s) t (bestR (sx s) t (l.take i)) a = false by unfold tkB hitR; simp [e2])
            clear e1 e2 hbs
            go_quiet (fail)
            go_wp2_with fail
            go_meet
            exact ⟨by rw [HW.out], ⟨rfl, rfl, rfl, Nat.le_refl _, fun _ _ => rfl⟩⟩
        · have q1 : (a.key == s.toList) = false := by rw [toList_sx, beq_eq_false_iff_ne]; exact e1
          have HW := Lib.hid (show tkB (sx s) t (bestR (sx s) t (l.take i)) a = false by unfold tkB hitR; simp [e1])
          clear e1 hbs
          go_quiet (fail)
          go_wp2_with fail
          go_meet
          exact ⟨by rw [HW.out], ⟨rfl, rfl, rfl, Nat.le_refl _, fun _ _ => rfl⟩⟩
        --}cond
      case rest =>
        obtain ⟨hu54, hbx⟩ := hcut
        subst hu54
        have hbc : Below w.heap.size w wc := HB1.out.trans (hbx.mono HB1.out.size)
        rcases hin : tkB (sx s) t (bestR (sx s) t (l.take i)) a with _ | _
        · have hrel9 : RgRel (sx s) t l w u9 (.int .i64 ((i + 1 : Nat) : Int)) wc := by
            refine ⟨i + 1, rfl, by omega, ?_, hbc⟩
            unfold BsI
            rw [best_step HX.out, stepB_no hin]
            rcases hbs with h | ⟨j, cc, h1, h2, h3, h4⟩
            · exact .inl h
            · exact .inr ⟨j, cc, h1, by omega, h3, h4⟩
          have HR := Lib.hid hrel9; clear hrel9 hbs hbc hbx
          go_wp2_with fail
          go_roundw
          case rel => exact HR.out
          case measure => simp [intOf]; omega
        · have hrel9 : RgRel (sx s) t l w (.int .i64 i) (.int .i64 ((i + 1 : Nat) : Int)) wc := by
            refine ⟨i + 1, rfl, by omega, ?_, hbc⟩
            unfold BsI
            rw [best_step HX.out, stepB_yes hin]
            exact .inr ⟨i, a, rfl, by omega, HX.out, rfl⟩
          have HR := Lib.hid hrel9; clear hrel9 hbs hbc hbx
          go_wp2_with fail
          go_roundw
          case rel => exact HR.out
          case measure => simp [intOf]; omega
      --}one
    · --{end
      obtain rfl : i = l.length := by omega
      unfold BsI at hbs
      rw [List.take_length] at hbs
      rcases hbs with ⟨rfl, hnone⟩ | ⟨j, cc, rfl, hji, hjc, hsome⟩
      · have hfin : RgPost (tellR (bestR (sx s) t l)) w (.returned (.tuple #[.string ⟨#[]⟩, .bool false, .int .i64 0])) wr := by
          rw [hnone]
          exact ⟨rfl, hb⟩
        have HF := Lib.hid hfin; clear hfin hnone hb hIr
        go_wp2_with fail
        go_ret3
        exact HF.out
      · obtain ⟨g2, o2, a2, hA2, hg2, hx2, j0, j1, j2, j3⟩ := (HRD.out.below hb).cellsX rfl (j := j) (by omega)
        subst hA2
        obtain rfl : a2 = cc := Option.some.inj (hx2.symm.trans hjc)
        have hgl2 : g2 < wr.heap.size := Nat.lt_of_lt_of_le hg2 hb.size
        have dneg : decide (((j : Nat) : Int) < 0) = false := decide_eq_false (by omega)
        have hjl : (j : Int) < l.length := by omega
        rcases hgn : a2.g with _ | _
        · have hfin : RgPost (tellR (bestR (sx s) t l)) w (.returned (.tuple #[.string ⟨a2.v.toArray⟩, .bool true, .int .i64 0])) wr := by
            rw [hsome]
            unfold tellR
            simp only [hgn]
            exact ⟨rfl, hb⟩
          have HF := Lib.hid hfin; clear hfin hsome hb hIr hjc hx2 j0 j3
          rw [hgn] at j2
          clear hgn
          go_wp2_with fail
          go_ret3
          exact HF.out
        · have hfin : RgPost (tellR (bestR (sx s) t l)) w (.returned (.tuple #[.string ⟨#[]⟩, .bool false, .int .i64 0])) wr := by
            rw [hsome]
            unfold tellR
            simp only [hgn]
            exact ⟨rfl, hb⟩
          have HF := Lib.hid hfin; clear hfin hsome hb hIr hjc hx2 j0 j3
          rw [hgn] at j2
          clear hgn
          go_wp2_with fail
          go_ret3
          exact HF.out
      --}end
end
end Go.Proofs.YtmgpdkecpobcaaaDoor
