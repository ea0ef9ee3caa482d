/- chainmailref.Store: Trim. -/
import Derived.Test.YtmgpdkecpobcaaaDoorRs3
namespace Go.Proofs.YtmgpdkecpobcaaaDoor
open Go.RowKit
def rtrimS (l : List Rx) (low tm : Int) : Int × List Rx × Int := if tm < low then (10, l, low) else if 1099511627776 < tm then (2, l, low) else (0, trimR tm l, tm)
theorem trim_same {l : List Rx} {K : Kp} (s : StR l K) (low tm : Int) : (rtrimS l low tm).1 = (trimS K low tm).1 ∧ StR (rtrimS l low tm).2.1 (trimS K low tm).2.1 ∧ (rtrimS l low tm).2.2 = (trimS K low tm).2.2 := by
  unfold rtrimS trimS
  split
  · exact ⟨rfl, s, rfl⟩
  · split
    · exact ⟨rfl, s, rfl⟩
    · exact ⟨rfl, s.trim tm, rfl⟩
def RtPost (base g : Nat) (V : Value) (l : List Rx) (low tm : Int) (w : World) (e : Ending) (w' : World) : Prop := e = .returned (.int .i64 (rtrimS l low tm).1) ∧ RsS base g V (rtrimS l low tm).2.1 (rtrimS l low tm).2.2 w w'
def fB (tm : Int) (v w : Rx) : Bool := decide (w.key = v.key) && decide (w.t > v.t) && decide (w.t ≤ tm)
def stayB (l : List Rx) (tm : Int) (v : Rx) : Bool := !followsR l tm v && !(v.g && decide (v.t ≤ tm))
theorem follows_fB (l : List Rx) (tm : Int) (v : Rx) : followsR l tm v = l.any (fB tm v) := rfl
theorem any_step {p : Rx → Bool} {l : List Rx} {i : Nat} {a : Rx} (ha : l[i]? = some a) : (l.take (i + 1)).any p = ((l.take i).any p || p a) := by
  rw [List.take_add_one, ha, List.any_append]
  simp
theorem st_step {p : Rx → Bool} {L : List Rx} {i : Nat} {a : Rx} (ha : L[i]? = some a) : (L.take (i + 1)).filter p = if p a then (L.take i).filter p ++ [a] else (L.take i).filter p := by
  rw [List.take_add_one, ha, List.filter_append]
  cases h : p a <;> simp [h]
theorem st_size {p : Rx → Bool} {L : List Rx} {i : Nat} (hi : i ≤ L.length) : ((L.take i).filter p).length ≤ i := Nat.le_trans (List.length_filter_le _ _) (by simp; omega)
def TlRel (l : List Rx) (tm : Int) (w : World) (v5 v28 : Value) (wr : World) : Prop :=
  ∃ i : Nat, v28 = .int .i64 i ∧ i ≤ l.length ∧ wr.ownsRow w.heap.size 81 4 v5 ((l.take i).filter (stayB l tm)).length (((l.take i).filter (stayB l tm)).flatMap rxCells) ∧ Below w.heap.size w wr
def TjRel (l : List Rx) (tm : Int) (v : Rx) (w : World) (v8 v37 : Value) (wr : World) : Prop :=
  ∃ j : Nat, v37 = .int .i64 j ∧ j ≤ l.length ∧ v8 = .bool ((l.take j).any (fB tm v)) ∧ Below w.heap.size w wr
section
variable (base g : Nat) (V : Value) (l : List Rx) (low tm : Int) (w : World) (hI : RsI w base g V l low)
include hI
set_option maxRecDepth 100000 in
set_option maxHeartbeats 4000000 in
theorem rtrim_order (h : tm < low) : Calls Tryd.prog 15 #[.pointer (some ⟨g, 0, none⟩), .int .i64 tm] w (RtPost base g V l low tm w) := by
  have hfin : RtPost base g V l low tm w (.returned (.int .i64 10)) w := by
    unfold RtPost rtrimS
    rw [if_pos h]
    exact ⟨rfl, RsS.below hI (Below.refl _ _)⟩
  have HF := Lib.hid hfin; clear hfin
  have c1 := hI.blk.cell 1
  have hgl := hI.blk.lt
  simp only [List.getElem?_toArray, List.getElem?_cons_zero, List.getElem?_cons_succ] at c1
  clear hI
  have d1 : decide (tm < low) = true := decide_eq_true h
  go_enter Tryd.func15, Tryd.ntmps15
  go_wp2_with fail
  go_ret
  exact HF.out
set_option maxRecDepth 100000 in
set_option maxHeartbeats 4000000 in
theorem rtrim_range (h : ¬ tm < low) (h2 : 1099511627776 < tm) : Calls Tryd.prog 15 #[.pointer (some ⟨g, 0, none⟩), .int .i64 tm] w (RtPost base g V l low tm w) := by
  have hfin : RtPost base g V l low tm w (.returned (.int .i64 2)) w := by
    unfold RtPost rtrimS
    rw [if_neg h, if_pos h2]
    exact ⟨rfl, RsS.below hI (Below.refl _ _)⟩
  have HF := Lib.hid hfin; clear hfin
  have c1 := hI.blk.cell 1
  have hgl := hI.blk.lt
  simp only [List.getElem?_toArray, List.getElem?_cons_zero, List.getElem?_cons_succ] at c1
  clear hI
  have d1 : decide (tm < low) = false := decide_eq_false h
  have d2 : decide (tm > 1099511627776) = true := decide_eq_true h2
  go_enter Tryd.func15, Tryd.ntmps15
  go_wp2_with fail
  go_ret
  exact HF.out
set_option maxRecDepth 100000 in
set_option maxHeartbeats 16000000 in
theorem rtrim_main (h : ¬ tm < low) (h2 : ¬ 1099511627776 < tm) (hn : l.length ≤ 1000000) : Calls Tryd.prog 15 #[.pointer (some ⟨g, 0, none⟩), .int .i64 tm] w (RtPost base g V l low tm w) := by
  have hf1 := Fr.set1 g w 1 (.int .i64 tm)
  have hI1 : RsI (w.setCell ⟨g, 1, none⟩ (.int .i64 tm)) base g V l tm := ⟨hI.blk.set_ 1 _, hf1.own hI.row (fun b hb e => own_blk_ne hI.row hI.blk (by decide) (e ▸ hb)), hI.lo⟩
  obtain ⟨A, c, hV, _, _⟩ := own_slice hI1.row
  have c0 := hI1.blk.cell 0
  have hgl1 := hI1.blk.lt
  have c1 := hI.blk.cell 1
  have f1 := hI.blk.frozen 1
  have hgl := hI.blk.lt
  simp only [List.getElem?_toArray, List.getElem?_cons_zero, List.getElem?_cons_succ] at c0 c1
  rw [hV] at c0
  have HRD := Lib.hid (Rd.of_own (hV ▸ hI1.row))
  have hz1 : (w.setCell ⟨g, 1, none⟩ (.int .i64 tm)).heap.size = w.heap.size := by simp [World.setCell]
  have HZ1 := Lib.hid hz1; clear hz1
  have d1 : decide (tm < low) = false := decide_eq_false h
  have d2 : decide (tm > 1099511627776) = false := decide_eq_false h2
  have HPO := Lib.hid (show ∀ w', RsS base g V (trimR tm l) tm w w' → RtPost base g V l low tm w (.returned (.int .i64 0)) w' from fun w' hp => by
    unfold RtPost rtrimS
    rw [if_neg h, if_neg h2]
    exact ⟨rfl, hp⟩)
  have HV := Lib.hid hV; clear hV
  have HI1 := Lib.hid hI1; clear hI1 hI h h2
  have HF1 := Lib.hid hf1; clear hf1
  go_enter Tryd.func15, Tryd.ntmps15
  go_upto_region 7 with (fail)
  clear c1 f1 hgl d1 d2
  generalize w.setCell ⟨g, 1, none⟩ (.int .i64 tm) = w1 at *
  go_wp2_with fail
  clear c0 hgl1
  go_loopw [5, 28] (TlRel l tm w1) (fun _ v _ => l.length - (intOf v).toNat)
  case atStart => exact ⟨0, rfl, Nat.zero_le _, World.ownsRow_nil _ _ _ _, Below.refl _ _⟩
  case round =>
    obtain ⟨i, rfl, hi, hown, hb⟩ := hrel
    by_cases hlt : (i : Int) < l.length
    · --{one
      obtain ⟨g', o', a, hAe, hga, hx, h0, h1, h2, h3⟩ := (HRD.out.below hb).cellsX rfl (j := i) (by omega)
      subst hAe
      have hgw : g' < wr.heap.size := Nat.lt_of_lt_of_le hga hb.size
      have hbl : Below wr.heap.size wr (wr.alloc (.cells #[.string ⟨a.key.toArray⟩, .string ⟨a.v.toArray⟩, .bool a.g, .int .i64 a.t] 81)) := (Below.refl _ _).alloc (Nat.le_refl _) _
      have hown1 := own_belowV hown hbl
      have hb1 := hb.trans (hbl.mono hb.size)
      have ha1 : Blk (wr.alloc (.cells #[.string ⟨a.key.toArray⟩, .string ⟨a.v.toArray⟩, .bool a.g, .int .i64 a.t] 81)) wr.heap.size 81 #[.string ⟨a.key.toArray⟩, .string ⟨a.v.toArray⟩, .bool a.g, .int .i64 a.t] := Blk.new _ _ _
      have HX := Lib.hid hx; clear hx
      have HO1 := Lib.hid hown1; clear hown1 hown
      have HA1 := Lib.hid ha1; clear ha1
      have HB1 := Lib.hid hb1; clear hb1 hbl
      have HSZ := Lib.hid (st_size (p := stayB l tm) hi)
      clear hb
      generalize hbq : wr.heap.size = bq at *
      go_upto_region 11 with (fail)
      clear h0 h1 h2 h3 hgw
      generalize wr.alloc (.cells #[.string ⟨a.key.toArray⟩, .string ⟨a.v.toArray⟩, .bool a.g, .int .i64 a.t] 81) = w2 at *
      clear hbq
      have hI2 := HI1.out.tall HB1.out
      have c0 := hI2.blk.cell 0
      have hgl2 := hI2.blk.lt
      simp only [List.getElem?_toArray, List.getElem?_cons_zero, List.getElem?_cons_succ] at c0
      rw [HV.out] at c0
      clear hI2
      generalize u5 = V5 at *
      go_upto_block 2 with (fail)
      clear c0 hgl2
      go_cut [8] (fun s8 wx => s8 = .bool (followsR l tm a) ∧ Below w2.heap.size w2 wx)
      case first =>
        --{in
        go_wp2_with fail
        go_loopw [8, 37] (TjRel l tm a w2) (fun _ v _ => l.length - (intOf v).toNat)
        case atStart => exact ⟨0, rfl, Nat.zero_le _, rfl, Below.refl _ _⟩
        case round =>
          rename World => wi
          obtain ⟨j, rfl, hj, rfl, hbi⟩ := hrel
          by_cases hltj : (j : Int) < l.length
          · obtain ⟨g2, o2, q, hAq, hgq, hxq, q0, q1, q2, q3⟩ := (HRD.out.below (HB1.out.trans (hbi.mono HB1.out.size))).cellsX rfl (j := j) (by omega)
            injection hAq with hAq
            injection hAq with hAq1 hAq2
            subst hAq1 hAq2
            have hgqw : g' < wi.heap.size := Nat.lt_of_lt_of_le hgq (HB1.out.trans (hbi.mono HB1.out.size)).size
            have hbl : Below w2.heap.size w2 (wi.alloc (.cells #[.string ⟨q.key.toArray⟩, .string ⟨q.v.toArray⟩, .bool q.g, .int .i64 q.t] 81)) := hbi.alloc hbi.size _
            have hq1 : Blk (wi.alloc (.cells #[.string ⟨q.key.toArray⟩, .string ⟨q.v.toArray⟩, .bool q.g, .int .i64 q.t] 81)) wi.heap.size 81 #[.string ⟨q.key.toArray⟩, .string ⟨q.v.toArray⟩, .bool q.g, .int .i64 q.t] := Blk.new _ _ _
            have hak := HA1.out.below hbl HA1.out.lt
            have HQ1 := Lib.hid hq1; clear hq1
            have HAK := Lib.hid hak; clear hak
            have HBL := Lib.hid hbl; clear hbl hbi
            have HXQ := Lib.hid hxq; clear hxq
            have HST := Lib.hid (any_step (p := fB tm a) HXQ.out)
            generalize hfl : (l.take j).any (fB tm a) = fl at *
            go_upto_region 14 with (fail)
            clear q0 q1 q2 q3 hgqw
            generalize wi.alloc (.cells #[.string ⟨q.key.toArray⟩, .string ⟨q.v.toArray⟩, .bool q.g, .int .i64 q.t] 81) = w5 at *
            have k0 := HAK.out.cell 0
            have k3 := HAK.out.cell 3
            have kl := HAK.out.lt
            have q0 := HQ1.out.cell 0
            have q3 := HQ1.out.cell 3
            have ql := HQ1.out.lt
            simp only [List.getElem?_toArray, List.getElem?_cons_zero, List.getElem?_cons_succ] at k0 k3 q0 q3
            clear hfl
            rcases fl with _ | _
            · by_cases e1 : q.key = a.key
              · have x1 : (q.key == a.key) = true := by simpa using e1
                by_cases e2 : q.t > a.t
                · have x2 : decide (q.t > a.t) = true := decide_eq_true e2
                  by_cases e3 : q.t ≤ tm
                  · have x3 : decide (q.t ≤ tm) = true := decide_eq_true e3
                    have HW := Lib.hid (show (false || fB tm a q) = true by unfold fB; simp [e1, e3]; exact e2)
                    clear e1 e2 e3
                    have HF := Lib.hid (show TjRel l tm a w2 (.bool true) (.int .i64 ((j + 1 : Nat) : Int)) w5 from ⟨j + 1, rfl, by omega, by rw [HST.out, HW.out], HBL.out⟩)
                    go_wp2_with fail
                    go_roundw
                    case rel => exact HF.out
                    case measure => simp [intOf]; omega
                  · have x3 : decide (q.t ≤ tm) = false := decide_eq_false e3
                    have HW := Lib.hid (show (false || fB tm a q) = false by unfold fB; simp [e3])
                    clear e1 e2 e3
                    have HF := Lib.hid (show TjRel l tm a w2 (.bool false) (.int .i64 ((j + 1 : Nat) : Int)) w5 from ⟨j + 1, rfl, by omega, by rw [HST.out, HW.out], HBL.out⟩)
                    go_wp2_with fail
                    go_roundw
                    case rel => exact HF.out
                    case measure => simp [intOf]; omega
                · have x2 : decide (q.t > a.t) = false := decide_eq_false e2
                  have HW := Lib.hid (show (false || fB tm a q) = false by unfold fB; rw [x2]; simp)
                  clear e1 e2
                  have HF := Lib.hid (show TjRel l tm a w2 (.bool false) (.int .i64 ((j + 1 : Nat) : Int)) w5 from ⟨j + 1, rfl, by omega, by rw [HST.out, HW.out], HBL.out⟩)
                  go_wp2_with fail
                  go_roundw
                  case rel => exact HF.out
                  case measure => simp [intOf]; omega
              · have x1 : (q.key == a.key) = false := by simpa using e1
                have HW := Lib.hid (show (false || fB tm a q) = false by unfold fB; simp [e1])
                clear e1
                have HF := Lib.hid (show TjRel l tm a w2 (.bool false) (.int .i64 ((j + 1 : Nat) : Int)) w5 from ⟨j + 1, rfl, by omega, by rw [HST.out, HW.out], HBL.out⟩)
                go_wp2_with fail
                go_roundw
                case rel => exact HF.out
                case measure => simp [intOf]; omega
            · have HW := Lib.hid (show (true || fB tm a q) = true from rfl)
              have HF := Lib.hid (show TjRel l tm a w2 (.bool true) (.int .i64 ((j + 1 : Nat) : Int)) w5 from ⟨j + 1, rfl, by omega, by rw [HST.out, HW.out], HBL.out⟩)
              go_wp2_with fail
              go_roundw
              case rel => exact HF.out
              case measure => simp [intOf]; omega
          · obtain rfl : j = l.length := by omega
            have HBI := Lib.hid hbi; clear hbi
            rw [List.take_length, ← follows_fB]
            go_wp2_with fail
            go_meet
            exact ⟨rfl, HBI.out⟩
        --}in
      case rest =>
        --{rest
        obtain ⟨hu8, hbx⟩ := hcut
        subst hu8
        rename World => wx
        have hax := HA1.out.below hbx HA1.out.lt
        have hox := own_belowV HO1.out hbx
        have hbw := HB1.out.trans (hbx.mono HB1.out.size)
        have HAX := Lib.hid hax; clear hax
        have HOX := Lib.hid hox; clear hox HO1
        have HBX := Lib.hid hbw; clear hbw hbx
        go_upto_region 16 with (fail)
        go_cut [75] (fun s75 wy => s75 = .bool (stayB l tm a) ∧ wy = wx)
        case first =>
          have k2 := HAX.out.cell 2
          have k3 := HAX.out.cell 3
          have kl := HAX.out.lt
          simp only [List.getElem?_toArray, List.getElem?_cons_zero, List.getElem?_cons_succ] at k2 k3
          have HSB := Lib.hid (show stayB l tm a = (!followsR l tm a && !(a.g && decide (a.t ≤ tm))) from rfl)
          generalize followsR l tm a = ff at *
          rcases ff with _ | _
          · rcases hg : a.g with _ | _
            · rw [hg] at k2
              have HG := Lib.hid hg; clear hg
              go_wp2_with fail
              go_meet
              exact ⟨by rw [HSB.out, HG.out]; rfl, rfl⟩
            · rw [hg] at k2
              have HG := Lib.hid hg; clear hg
              by_cases e3 : a.t ≤ tm
              · have x3 : decide (a.t ≤ tm) = true := decide_eq_true e3
                have HW := Lib.hid x3
                clear e3
                go_wp2_with fail
                go_meet
                exact ⟨by rw [HSB.out, HG.out, HW.out]; rfl, rfl⟩
              · have x3 : decide (a.t ≤ tm) = false := decide_eq_false e3
                have HW := Lib.hid x3
                clear e3
                go_wp2_with fail
                go_meet
                exact ⟨by rw [HSB.out, HG.out, HW.out]; rfl, rfl⟩
          · go_wp2_with fail
            go_meet
            exact ⟨by rw [HSB.out]; rfl, rfl⟩
        case rest =>
          obtain ⟨hu75, hwx⟩ := hcut
          subst hu75 hwx
          rename World => wx
          rcases hst : stayB l tm a with _ | _
          · have hrel9 : TlRel l tm w1 V5 (.int .i64 ((i + 1 : Nat) : Int)) wx := by
              refine ⟨i + 1, rfl, by omega, ?_, HBX.out⟩
              rw [(st_step (p := stayB l tm) HX.out).trans (if_neg (by rw [hst]; decide))]
              exact HOX.out
            have HR := Lib.hid hrel9; clear hrel9 hst
            go_wp2_with fail
            go_roundw
            case rel => exact HR.out
            case measure => simp [intOf]; omega
          · have htf := (st_step (p := stayB l tm) HX.out).trans (if_pos hst)
            have HTF := Lib.hid htf; clear htf hst
            have k0 := HAX.out.cell 0
            have k1 := HAX.out.cell 1
            have k2 := HAX.out.cell 2
            have k3 := HAX.out.cell 3
            have kl := HAX.out.lt
            simp only [List.getElem?_toArray, List.getElem?_cons_zero, List.getElem?_cons_succ] at k0 k1 k2 k3
            go_wp2_with (at_builtin; refine stop ?_)
            refine back ?_
            refine wpList_append1 _ _ rfl (.tmp 76) (.tmp 78) 48 rfl w1.heap.size 81 (.agg #[.string ⟨#[]⟩, .string ⟨#[]⟩, .bool false, .int .i64 0]) 4 48 Tryd.underlying48 rx_info rfl (by decide) _ _ _ #[.string ⟨a.key.toArray⟩, .string ⟨a.v.toArray⟩, .bool a.g, .int .i64 a.t] rfl HOX.out 1 rfl _ rfl rfl (by simp [Value.oneCell']) ?_ ?_ ?_ ?_
            · have := HSZ.out; unfold maxLen; omega
            · have := HSZ.out; omega
            · exact HBX.out.size
            intro v' w9 hown9 hmv
            have hrel9 : TlRel l tm w1 v' (.int .i64 ((i + 1 : Nat) : Int)) w9 := by
              refine ⟨i + 1, rfl, by omega, ?_, HBX.out.trans (hmv.below (fun b hb => (HOX.out.lt b hb).1) HBX.out.size)⟩
              rw [HTF.out, List.length_append, List.flatMap_append, List.flatMap_singleton]
              exact hown9
            have HR := Lib.hid hrel9; clear hrel9 hown9 hmv
            go_wp2_with fail
            go_roundw
            case rel => exact HR.out
            case measure => simp [intOf]; omega
        --}rest
      --}one
    · --{end
      obtain rfl : i = l.length := by omega
      rw [List.take_length] at hown
      have htr : l.filter (stayB l tm) = trimR tm l := rfl
      rw [htr] at hown
      obtain ⟨A5, c5, rfl, _, _⟩ := own_slice hown
      have hIr := HI1.out.tall hb
      have c0 := hIr.blk.cell 0
      have f0 := hIr.blk.frozen 0
      have hglr := hIr.blk.lt
      simp only [List.getElem?_toArray, List.getElem?_cons_zero, List.getElem?_cons_succ] at c0
      rw [HV.out] at c0
      have hbase : base ≤ w1.heap.size := by have := HI1.out.lo; have := HI1.out.blk.lt; omega
      have hfin : RsS base g V (trimR tm l) tm w (wr.setCell ⟨g, 0, none⟩ (.slice A5 (trimR tm l).length c5)) := by
        have hF := Fr.set1 g wr 0 (.slice A5 (trimR tm l).length c5)
        refine ⟨.slice A5 (trimR tm l).length c5, ⟨hIr.blk.set_ 0 _, hF.own (own_base hown hbase) (fun b hb e => own_blk_ne hown hIr.blk (by decide) (e ▸ hb)), hIr.lo⟩, ?_, fun b hb2 => ?_⟩
        · exact ((HF1.out.mono (T := RsFoot g V) (fun i _ e => .inl e)).trans' (show Fr (fun b => w1.heap.size ≤ b) w1 wr from ⟨hb.os, hb.tape, hb.output, hb.size, fun k hk hn => hb.block k (by omega)⟩) (fun i hi h => by have := HZ1.out; omega)).setCell (p := ⟨g, 0, none⟩) (.inl (.inl rfl)) _
        · rcases hb2 with hb2 | hb2
          · exact .inl (.inl hb2)
          · exact .inr (by have := (hown.lt b hb2).1; have := HZ1.out; omega)
      have HF := Lib.hid (HPO.out _ hfin); clear hfin hown hb hIr htr
      go_wp2_with fail
      go_ret
      exact HF.out
      --}end
theorem rtrim_any (hn : l.length ≤ 1000000) : Calls Tryd.prog 15 #[.pointer (some ⟨g, 0, none⟩), .int .i64 tm] w (RtPost base g V l low tm w) := by
  by_cases h : tm < low
  · exact rtrim_order base g V l low tm w hI h
  · by_cases h2 : 1099511627776 < tm
    · exact rtrim_range base g V l low tm w hI h h2
    · exact rtrim_main base g V l low tm w hI h h2 hn
end
end Go.Proofs.YtmgpdkecpobcaaaDoor
