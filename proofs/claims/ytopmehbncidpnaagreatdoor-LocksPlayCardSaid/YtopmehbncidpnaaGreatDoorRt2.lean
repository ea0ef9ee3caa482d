/- chainmailref.Table: sort.Ints; Waiting; way. -/
import Derived.Test.YtopmehbncidpnaaGreatDoorRt1
namespace Go.Proofs.YtopmehbncidpnaaGreatDoor
open Go.RowKit
set_option maxHeartbeats 1000000 in
theorem sortInts_any (base n : Nat) (V : Value) (l : List Int) (w : World) (h : w.ownsRow base 3 1 V n (l.map (Value.int .i64))) (hl : l.length = n) (hn : n < 1000000000) :
    Calls Tryz.prog 34 #[V] w fun e w' => e = .returned (.tuple #[]) ∧ w'.ownsRow base 3 1 V n ((sortI l).map (Value.int .i64)) ∧ Fr (fun k => V.ownBlock = some k) w w' := by
  have HS := Lib.hid (sort_ints base n V l w h hl hn)
  clear h
  go_enter Tryz.func34, Tryz.ntmps34
  go_wp2_with fail
  refine HS.out.mono ?_
  rintro e w1 ⟨rfl, h1, h2⟩
  have H1 := Lib.hid (And.intro h1 h2); clear h1 h2 HS
  go_wp2_with fail
  go_end0
  exact ⟨rfl, H1.out⟩
/-- Those of a list that satisfy p, by their numbers. -/
def FlRel (p : Ak → Bool) (L : List Ak) (w : World) (v5 v13 : Value) (wr : World) : Prop :=
  ∃ i : Nat, v13 = .int .i64 i ∧ i ≤ L.length ∧ wr.ownsRow w.heap.size 3 1 v5 (((L.take i).filter p).map (·.tx)).length ((((L.take i).filter p).map (·.tx)).map (Value.int .i64)) ∧ Below w.heap.size w wr
def FlPost (l : List Int) (w : World) (e : Ending) (w' : World) : Prop := ∃ V, e = .returned V ∧ w'.ownsRow w.heap.size 3 1 V l.length (l.map (Value.int .i64)) ∧ Below w.heap.size w w'
theorem FlRel.size {p : Ak → Bool} {L : List Ak} {i : Nat} (hi : i ≤ L.length) : (((L.take i).filter p).map (·.tx)).length ≤ i := by
  rw [List.length_map]
  exact Nat.le_trans (List.length_filter_le _ _) (by simp; omega)
theorem take_filter {p : Ak → Bool} {L : List Ak} {i : Nat} {a : Ak} (ha : L[i]? = some a) : ((L.take (i + 1)).filter p).map (·.tx) = if p a then ((L.take i).filter p).map (·.tx) ++ [a.tx] else ((L.take i).filter p).map (·.tx) := by
  rw [List.take_add_one, ha, List.filter_append]
  cases h : p a <;> simp [h]
theorem FlRel.done {p : Ak → Bool} {L : List Ak} {w wr w9 : World} {V : Value} (hown : w9.ownsRow w.heap.size 3 1 V ((L.filter p).map (·.tx)).length ((sortI ((L.filter p).map (·.tx))).map (Value.int .i64))) (hb : Below w.heap.size w wr) (hf : Below w.heap.size wr w9) : FlPost (sortI ((L.filter p).map (·.tx))) w (.returned V) w9 := by
  refine ⟨V, rfl, ?_, hb.trans hf⟩
  rw [show (sortI ((L.filter p).map (·.tx))).length = ((L.filter p).map (·.tx)).length from List.length_mergeSort _]
  exact hown
set_option maxRecDepth 100000 in
set_option maxHeartbeats 4000000 in
theorem waiting_any (base g : Nat) (VH VW : Value) (H Wt : List Ak) (s : ByteArray) (w : World) (hI : RtI w base g VH VW H Wt) (hn : Wt.length ≤ 1000000) :
    Calls Tryz.prog 15 #[.pointer (some ⟨g, 0, none⟩), .string s] w (FlPost (waitR Wt (sx s)) w) := by
  have c0 := hI.blk.cell 1
  have hgl := hI.blk.lt
  simp only [List.getElem?_toArray, List.getElem?_cons_zero, List.getElem?_cons_succ] at c0
  obtain ⟨A, c, rfl, _, _⟩ := own_slice hI.rowW
  have HRD := Lib.hid (Rd.of_own hI.rowW)
  clear hI
  unfold waitR
  go_enter Tryz.func15, Tryz.ntmps15
  go_wp2_with fail
  go_loopw [5, 13] (FlRel (fun a => decide (a.key = sx s)) Wt w) (fun _ v _ => Wt.length - (intOf v).toNat)
  case atStart => exact ⟨0, rfl, Nat.zero_le _, World.ownsRow_nil _ _ _ _, Below.refl _ _⟩
  case round =>
    obtain ⟨i, rfl, hi, hown, hb⟩ := hrel
    by_cases hlt : (i : Int) < Wt.length
    · obtain ⟨g', o', x, rfl, hga, hx, h0, h1, h2⟩ := (HRD.out.below hb).cellsA rfl (j := i) (by omega)
      have hgw : g' < wr.heap.size := Nat.lt_of_lt_of_le hga hb.size
      have hbl : Below wr.heap.size wr (wr.alloc (.cells #[.int .i64 x.tx, .string ⟨x.key.toArray⟩, .int .i64 x.mode] 37)) := (Below.refl _ _).alloc (Nat.le_refl _) _
      have hown1 := own_belowK hown hbl
      have hb1 := hb.trans (hbl.mono hb.size)
      have hsz := FlRel.size (p := fun a => decide (a.key = sx s)) hi
      have HB1 := Lib.hid hb1; clear hb1 hbl
      have HX := Lib.hid hx; clear hx
      have HO1 := Lib.hid hown1; clear hown1 hown
      have HSZ := Lib.hid hb.size; clear hb
      have HSL := Lib.hid hsz; clear hsz
      by_cases e2 : x.key = sx s
      · have d2 : (x.key == s.toList) = true := by rw [toList_sx, beq_iff_eq]; exact e2
        have htf := (take_filter (p := fun a => decide (a.key = sx s)) HX.out).trans (if_pos (by simpa using e2))
        have HTF := Lib.hid htf; clear htf e2
        go_wp2_with (at_builtin; refine stop ?_)
        refine back ?_
        refine wpList_append1K _ _ (by simp) _ rfl (.tmp 21) (.tmp 24) 32 rfl w.heap.size 3 (.int .i64 0) 1 8 Tryz.underlying32 int_infoL rfl (by decide) _ _ _ #[.int .i64 x.tx] rfl HO1.out 1 rfl _ rfl rfl (by simp [Value.oneCell']) ?_ ?_ ?_ ?_
        · have := HSL.out; unfold maxLen; omega
        · have := HSL.out; omega
        · have := HSZ.out; simp; omega
        intro v' w9 hown9 hmv
        have hrel9 : FlRel (fun a => decide (a.key = sx s)) Wt w v' (.int .i64 ((i + 1 : Nat) : Int)) w9 := by
          refine ⟨i + 1, rfl, by omega, ?_, HB1.out.trans (hmv.below (fun b hb => (HO1.out.lt b hb).1) (by have := HSZ.out; simp; omega))⟩
          rw [HTF.out]
          simpa using hown9
        have HR := Lib.hid hrel9; clear hrel9 hown9 hmv
        go_wp2_with fail
        go_roundw
        case rel => exact HR.out
        case measure => simp [intOf]; omega
      · have d2 : (x.key == s.toList) = false := by rw [toList_sx, beq_eq_false_iff_ne]; exact e2
        have htf := (take_filter (p := fun a => decide (a.key = sx s)) HX.out).trans (if_neg (by simpa using e2))
        have hrel9 : FlRel (fun a => decide (a.key = sx s)) Wt w u5 (.int .i64 ((i + 1 : Nat) : Int)) (wr.alloc (.cells #[.int .i64 x.tx, .string ⟨x.key.toArray⟩, .int .i64 x.mode] 37)) := by
          refine ⟨i + 1, rfl, by omega, ?_, HB1.out⟩
          rw [htf]
          exact HO1.out
        have HR := Lib.hid hrel9; clear hrel9 htf e2
        go_wp2_with fail
        go_roundw
        case rel => exact HR.out
        case measure => simp [intOf]; omega
    · obtain rfl : i = Wt.length := by omega
      rw [List.take_length] at hown
      have hs := sortInts_any w.heap.size _ u5 ((Wt.filter (fun a => decide (a.key = sx s))).map (·.tx)) wr hown rfl (by have := FlRel.size (p := fun a => decide (a.key = sx s)) hi; rw [List.take_length] at this; omega)
      have HS := Lib.hid hs; clear hs
      have HB := Lib.hid hb; clear hb
      have HOW := Lib.hid hown; clear hown
      go_wp2_with fail
      refine HS.out.mono ?_
      rintro e w9 ⟨rfl, hown9, hf9⟩
      have hfin := FlRel.done hown9 HB.out (hf9.below (fun b hb => (HOW.out.lt b hb).1) HB.out.size)
      have HF := Lib.hid hfin; clear hfin hown9 hf9
      go_wp2_with fail
      go_ret
      exact HF.out
end Go.Proofs.YtopmehbncidpnaaGreatDoor
