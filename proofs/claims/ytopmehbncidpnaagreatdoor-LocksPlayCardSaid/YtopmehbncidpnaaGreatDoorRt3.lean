/- chainmailref.Table: way. -/
import Derived.Test.YtopmehbncidpnaaGreatDoorRt2
namespace Go.Proofs.YtopmehbncidpnaaGreatDoor
open Go.RowKit
def akV (x : Ak) (s : ByteArray) : Value := .agg #[.int .i64 x.tx, .string s, .int .i64 x.mode]
theorem inWay_eq (x a : Ak) : inWay x a = (decide (a.key = x.key) && (!decide (a.tx = x.tx) && (decide (a.mode = 2) || decide (x.mode = 2)))) := by
  unfold inWay clash
  rw [Bool.and_assoc]
set_option maxRecDepth 100000 in
set_option maxHeartbeats 4000000 in
theorem way_any (base g : Nat) (VH VW : Value) (H Wt : List Ak) (x : Ak) (s : ByteArray) (w : World) (hs : sx s = x.key) (hI : RtI w base g VH VW H Wt) (hn : H.length ≤ 1000000) :
    Calls Tryz.prog 16 #[.pointer (some ⟨g, 0, none⟩), .agg #[.int .i64 x.tx, .string s, .int .i64 x.mode]] w (FlPost (wayR H x) w) := by
  have hbx0 : Below w.heap.size w (w.alloc (.cells #[.int .i64 x.tx, .string s, .int .i64 x.mode] 37)) := (Below.refl _ _).alloc (Nat.le_refl _) _
  have hB : Blk (w.alloc (.cells #[.int .i64 x.tx, .string s, .int .i64 x.mode] 37)) w.heap.size 37 #[.int .i64 x.tx, .string s, .int .i64 x.mode] := Blk.new w _ _
  have hI1 := hI.tall hbx0
  have c0 := hI1.blk.cell 0
  have hgl := hI1.blk.lt
  simp only [List.getElem?_toArray, List.getElem?_cons_zero] at c0
  obtain ⟨A, c, rfl, _, _⟩ := own_slice hI1.rowH
  have HRD := Lib.hid (Rd.of_own hI1.rowH)
  have HB := Lib.hid hB; clear hB
  have HBX := Lib.hid hbx0; clear hbx0
  clear hI hI1
  go_enter Tryz.func16, Tryz.ntmps16
  go_upto_region 2 with (fail)
  generalize hw0 : w.alloc (.cells #[.int .i64 x.tx, .string s, .int .i64 x.mode] 37) = w0 at *
  have hsz0 : w.heap.size ≤ w0.heap.size := HBX.out.size
  clear hw0
  go_wp2_with fail
  go_loopw [5, 13] (FlRel (inWay x) H w0) (fun _ v _ => H.length - (intOf v).toNat)
  case atStart => exact ⟨0, rfl, Nat.zero_le _, World.ownsRow_nil _ _ _ _, Below.refl _ _⟩
  case round =>
    obtain ⟨i, rfl, hi, hown, hb⟩ := hrel
    by_cases hlt : (i : Int) < H.length
    · obtain ⟨g', o', a, rfl, hga, hx, h0, h1, h2⟩ := (HRD.out.below hb).cellsA rfl (j := i) (by omega)
      have hgw : g' < wr.heap.size := Nat.lt_of_lt_of_le hga hb.size
      have hbl : Below wr.heap.size wr (wr.alloc (.cells #[.int .i64 a.tx, .string ⟨a.key.toArray⟩, .int .i64 a.mode] 37)) := (Below.refl _ _).alloc (Nat.le_refl _) _
      have hown1 := own_belowK hown hbl
      have hb1 := hb.trans (hbl.mono hb.size)
      have hsz := FlRel.size (p := inWay x) hi
      have hbk := HB.out.below hb1 HB.out.lt
      have ha1 : Blk (wr.alloc (.cells #[.int .i64 a.tx, .string ⟨a.key.toArray⟩, .int .i64 a.mode] 37)) wr.heap.size 37 #[.int .i64 a.tx, .string ⟨a.key.toArray⟩, .int .i64 a.mode] := Blk.new _ _ _
      have HB1 := Lib.hid hb1; clear hb1 hbl
      have HX := Lib.hid hx; clear hx
      have HO1 := Lib.hid hown1; clear hown1 hown
      have HSZ := Lib.hid hb.size; clear hb
      have HSL := Lib.hid hsz; clear hsz
      have HBK := Lib.hid hbk; clear hbk
      have HA1 := Lib.hid ha1; clear ha1
      go_upto_region 5 with (fail)
      clear h0 h1 h2
      generalize hw1 : wr.alloc (.cells #[.int .i64 a.tx, .string ⟨a.key.toArray⟩, .int .i64 a.mode] 37) = w1 at *
      have hs1 : w1.heap.size = wr.heap.size + 1 := by rw [← hw1]; simp
      clear hw1
      have HS1 := Lib.hid hs1; clear hs1
      go_cut [38] (fun s38 wx => s38 = .bool (inWay x a) ∧ wx = w1)
      case first =>
        have k0 := HBK.out.cell 0
        have k1 := HBK.out.cell 1
        have k2 := HBK.out.cell 2
        have a0 := HA1.out.cell 0
        have a1 := HA1.out.cell 1
        have a2 := HA1.out.cell 2
        have kl := HBK.out.lt
        have al := HA1.out.lt
        simp only [List.getElem?_toArray, List.getElem?_cons_zero, List.getElem?_cons_succ] at k0 k1 k2 a0 a1 a2
        by_cases e1 : a.key = x.key
        · have d1 : (a.key == s.toList) = true := by rw [toList_sx, beq_iff_eq]; exact e1.trans hs.symm
          by_cases e2 : a.tx = x.tx
          · have d2 : (a.tx != x.tx) = false := by simpa using e2
            have HV := Lib.hid (show inWay x a = false by rw [inWay_eq]; simp [e1, e2])
            clear e1 e2
            go_wp2_with fail
            go_meet
            exact ⟨by rw [HV.out], rfl⟩
          · have d2 : (a.tx != x.tx) = true := by simpa using e2
            by_cases e3 : a.mode = 2
            · have d3 : (a.mode == 2) = true := by simpa using e3
              have HV := Lib.hid (show inWay x a = true by rw [inWay_eq]; simp [e1, e2, e3])
              clear e1 e2 e3
              go_wp2_with fail
              go_meet
              exact ⟨by rw [HV.out], rfl⟩
            · have d3 : (a.mode == 2) = false := by simpa using e3
              by_cases e4 : x.mode = 2
              · have d4 : (x.mode == 2) = true := by simpa using e4
                have HV := Lib.hid (show inWay x a = true by rw [inWay_eq]; simp [e1, e2, e4])
                clear e1 e2 e3 e4
                go_wp2_with fail
                go_meet
                exact ⟨by rw [HV.out], rfl⟩
              · have d4 : (x.mode == 2) = false := by simpa using e4
                have HV := Lib.hid (show inWay x a = false by rw [inWay_eq]; simp [e3, e4])
                clear e1 e2 e3 e4
                go_wp2_with fail
                go_meet
                exact ⟨by rw [HV.out], rfl⟩
        · have d1 : (a.key == s.toList) = false := by rw [toList_sx, beq_eq_false_iff_ne]; exact fun e => e1 (e.trans hs)
          have HV := Lib.hid (show inWay x a = false by rw [inWay_eq]; simp [e1])
          clear e1
          go_wp2_with fail
          go_meet
          exact ⟨by rw [HV.out], rfl⟩
      case rest =>
        obtain ⟨hu38, hwx⟩ := hcut
        subst hu38 hwx
        rcases hin : inWay x a with _ | _
        · have hrel9 : FlRel (inWay x) H w0 u5 (.int .i64 ((i + 1 : Nat) : Int)) wc := by
            refine ⟨i + 1, rfl, by omega, ?_, HB1.out⟩
            rw [(take_filter HX.out).trans (if_neg (by rw [hin]; decide))]
            exact HO1.out
          have HR := Lib.hid hrel9; clear hrel9
          go_wp2_with fail
          go_roundw
          case rel => exact HR.out
          case measure => simp [intOf]; omega
        · have htf := (take_filter (p := inWay x) HX.out).trans (if_pos hin)
          have HTF := Lib.hid htf; clear htf
          have a0 := HA1.out.cell 0
          have al := HA1.out.lt
          simp only [List.getElem?_toArray, List.getElem?_cons_zero] at a0
          go_wp2_with (at_builtin; refine stop ?_)
          refine back ?_
          refine wpList_append1 _ _ rfl (.tmp 39) (.tmp 42) 32 rfl w0.heap.size 3 (.int .i64 0) 1 8 Tryz.underlying32 int_infoL rfl (by decide) _ _ _ #[.int .i64 a.tx] rfl HO1.out 1 rfl _ rfl rfl (by simp [Value.oneCell']) ?_ ?_ ?_ ?_
          · have := HSL.out; unfold maxLen; omega
          · have := HSL.out; omega
          · have := HSZ.out; have := HS1.out; omega
          intro v' w9 hown9 hmv
          have hrel9 : FlRel (inWay x) H w0 v' (.int .i64 ((i + 1 : Nat) : Int)) w9 := by
            refine ⟨i + 1, rfl, by omega, ?_, HB1.out.trans (hmv.below (fun b hb => (HO1.out.lt b hb).1) (by have := HSZ.out; have := HS1.out; omega))⟩
            rw [HTF.out]
            simpa using hown9
          have HR := Lib.hid hrel9; clear hrel9 hown9 hmv
          go_wp2_with fail
          go_roundw
          case rel => exact HR.out
          case measure => simp [intOf]; omega
    · obtain rfl : i = H.length := by omega
      rw [List.take_length] at hown
      have hs := sortInts_any w0.heap.size _ u5 ((H.filter (inWay x)).map (·.tx)) wr hown rfl (by have := FlRel.size (p := inWay x) hi; rw [List.take_length] at this; omega)
      have HS := Lib.hid hs; clear hs
      have HBB := Lib.hid hb; clear hb
      have HOW := Lib.hid hown; clear hown
      go_wp2_with fail
      refine HS.out.mono ?_
      rintro e w9 ⟨rfl, hown9, hf9⟩
      have hfin : FlPost (wayR H x) w (.returned u5) w9 := by
        obtain ⟨V, e, h1, h2⟩ := FlRel.done hown9 HBB.out (hf9.below (fun b hb => (HOW.out.lt b hb).1) HBB.out.size)
        injection e with e
        subst e
        exact ⟨u5, rfl, own_base h1 hsz0, HBX.out.trans (h2.mono hsz0)⟩
      have HF := Lib.hid hfin; clear hfin hown9 hf9
      go_wp2_with fail
      go_ret
      exact HF.out
end Go.Proofs.YtopmehbncidpnaaGreatDoor
