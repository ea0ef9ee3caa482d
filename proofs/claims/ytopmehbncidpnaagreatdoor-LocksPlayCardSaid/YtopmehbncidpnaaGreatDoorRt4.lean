/- chainmailref.Table: may. -/
import Derived.Test.YtopmehbncidpnaaGreatDoorRt3
namespace Go.Proofs.YtopmehbncidpnaaGreatDoor
open Go.RowKit
theorem elderB_eq (x a : Ak) : elderB x a = (decide (a.key = x.key) && (decide (a.tx < x.tx) && (decide (a.mode = 2) || decide (x.mode = 2)))) := by
  unfold elderB clash
  rw [Bool.and_assoc]
def MyRel (x : Ak) (L : List Ak) (w : World) (v21 : Value) (wr : World) : Prop := ∃ i : Nat, v21 = .int .i64 i ∧ i ≤ L.length ∧ (∀ b ∈ L.take i, ¬ elderB x b = true) ∧ Below w.heap.size w wr
theorem mayR_elder {H W : List Ak} {x a : Ak} (h1 : ¬ x.mode ≤ howR H x.tx x.key) (ha : a ∈ W) (h : elderB x a = true) : mayR H W x = false := by
  unfold mayR
  rw [decide_eq_false h1, List.any_eq_true.2 ⟨a, ha, h⟩]
  rfl
theorem mayR_last {H W : List Ak} {x : Ak} (h1 : ¬ x.mode ≤ howR H x.tx x.key) (h : ∀ b ∈ W, ¬ elderB x b = true) : mayR H W x = (((wayR H x).length : Int) == 0) := by
  unfold mayR
  rw [decide_eq_false h1, List.any_eq_false.2 (fun b hb => h b hb)]
  cases wayR H x with
  | nil => rfl
  | cons a l => simp; omega
set_option maxRecDepth 100000 in
set_option maxHeartbeats 4000000 in
theorem may_any (base g : Nat) (VH VW : Value) (H Wt : List Ak) (x : Ak) (s : ByteArray) (w : World) (hs : sx s = x.key) (hI : RtI w base g VH VW H Wt) (hn : H.length ≤ 1000000) (hnw : Wt.length ≤ 1000000) :
    Calls Tryz.prog 17 #[.pointer (some ⟨g, 0, none⟩), .agg #[.int .i64 x.tx, .string s, .int .i64 x.mode]] w fun e w' => e = .returned (.bool (mayR H Wt x)) ∧ Below w.heap.size w w' := by
  have hbx0 : Below w.heap.size w (w.alloc (.cells #[.int .i64 x.tx, .string s, .int .i64 x.mode] 37)) := (Below.refl _ _).alloc (Nat.le_refl _) _
  have hB : Blk (w.alloc (.cells #[.int .i64 x.tx, .string s, .int .i64 x.mode] 37)) w.heap.size 37 #[.int .i64 x.tx, .string s, .int .i64 x.mode] := Blk.new w _ _
  have hI1 := hI.tall hbx0
  obtain ⟨A, c, rfl, _, _⟩ := own_slice hI1.rowW
  have HI1 := Lib.hid hI1; clear hI1 hI
  have HB := Lib.hid hB; clear hB
  have HBX := Lib.hid hbx0; clear hbx0
  go_enter Tryz.func17, Tryz.ntmps17
  go_upto_region 1 with (fail)
  generalize hw0 : w.alloc (.cells #[.int .i64 x.tx, .string s, .int .i64 x.mode] 37) = w0 at *
  have HSZ0 := Lib.hid HBX.out.size
  clear hw0
  have hcar : ∀ W, Below w0.heap.size w0 W → W.cell? ⟨w.heap.size, 0, none⟩ = some (.int .i64 x.tx) ∧ W.cell? ⟨w.heap.size, 1, none⟩ = some (.string s) ∧ W.cell? ⟨w.heap.size, 2, none⟩ = some (.int .i64 x.mode) := fun W hW => by
    have hb := HB.out.below hW HB.out.lt
    have k0 := hb.cell 0
    have k1 := hb.cell 1
    have k2 := hb.cell 2
    simp only [List.getElem?_toArray, List.getElem?_cons_zero, List.getElem?_cons_succ] at k0 k1 k2
    exact ⟨k0, k1, k2⟩
  have HCAR := Lib.hid hcar; clear hcar
  go_cut [15] (fun s15 wx => s15 = .bool (decide (x.mode ≤ howR H x.tx x.key)) ∧ Below w0.heap.size w0 wx)
  case first =>
    --{r1
    have hho := how_any base g VH _ H Wt x.tx s w0.drew (HI1.out.tall (Below.refl _ _).drew) hn
    rw [hs] at hho
    have HHO := Lib.hid hho; clear hho
    refine wp_region_any (by kernel_rfl) ?_
    change wpAny _ _ _ _ _ _ _ (World.drew _)
    refine nplainQ (fun w' => w'.cell? ⟨w.heap.size, 0, none⟩ = some (.int .i64 x.tx) ∧ w'.cell? ⟨w.heap.size, 1, none⟩ = some (.string s) ∧ w'.cell? ⟨w.heap.size, 2, none⟩ = some (.int .i64 x.mode)) 9 (fun _ _ _ _ _ h => h) (fun HQP => ?_)
    have HCC := HCAR.out w0.drew (Below.refl _ _).drew
    refine ntakeW 0 rfl rfl (by kernel_rfl) (by kernel_rfl) (by kernel_rfl) (by kernel_rfl) (fun _ _ _ h => HQP _ _ _ _ _ h) (by kernel_rfl) HCC (fun w' hw' => by go_simp; rfl) ?_
    refine ntakeW 1 rfl rfl (by kernel_rfl) (by kernel_rfl) (by kernel_rfl) (by kernel_rfl) (fun _ _ _ h => HQP _ _ _ _ _ h) (by kernel_rfl) HCC (fun w' hw' => by go_simp; rfl) ?_
    refine ntakeW 2 rfl rfl (by kernel_rfl) (by kernel_rfl) (by kernel_rfl) (by kernel_rfl) (fun _ _ _ h => HQP _ _ _ _ _ h) (by kernel_rfl) HCC (fun w' hw' => by obtain ⟨h0, h1, h2⟩ := hw'; go_simp; rfl) ?_
    refine ntakeW 3 rfl rfl (by kernel_rfl) (by kernel_rfl) (by kernel_rfl) (by kernel_rfl) (fun _ _ _ h => HQP _ _ _ _ _ h) (by kernel_rfl) HCC (fun w' hw' => by go_simp; rfl) ?_
    refine ntakeW 4 rfl rfl (by kernel_rfl) (by kernel_rfl) (by kernel_rfl) (by kernel_rfl) (fun _ _ _ h => HQP _ _ _ _ _ h) (by kernel_rfl) HCC (fun w' hw' => by obtain ⟨h0, h1, h2⟩ := hw'; go_simp; rfl) ?_
    refine ntakeW 6 rfl rfl (by kernel_rfl) (by kernel_rfl) (by kernel_rfl) (by kernel_rfl) (fun _ _ _ h => HQP _ _ _ _ _ h) (by kernel_rfl) HCC (fun w' hw' => by go_simp; rfl) ?_
    refine ntakeW 7 rfl rfl (by kernel_rfl) (by kernel_rfl) (by kernel_rfl) (by kernel_rfl) (fun _ _ _ h => HQP _ _ _ _ _ h) (by kernel_rfl) HCC (fun w' hw' => by obtain ⟨h0, h1, h2⟩ := hw'; go_simp; rfl) ?_
    refine nonly 5 (by kernel_rfl) rfl (by kernel_rfl) (fun K hK => ?_)
    go_simp
    refine HHO.out.mono ?_
    rintro e w2 ⟨rfl, hb2⟩
    have hB2 : Below w0.heap.size w0 w2 := (Below.refl _ _).drew.trans hb2
    have HB2 := Lib.hid hB2; clear hB2 hb2
    have HCC2 := HCAR.out w2 HB2.out
    clear HCC
    go_simp
    refine hK _ _ (fun _ => HCC2) ?_
    clear hK K
    refine nonly 8 (by kernel_rfl) rfl (by kernel_rfl) (fun K hK => ?_)
    go_simp
    refine hK _ _ (fun _ => HCC2) ?_
    clear hK K
    refine ndone (by kernel_rfl) ?_ _
    clear HQP HCC2
    go_wp2_with fail
    go_meet
    exact ⟨rfl, HB2.out⟩
    --}r1
  case rest =>
    obtain ⟨hu15, hb15⟩ := hcut
    subst hu15
    by_cases h1 : x.mode ≤ howR H x.tx x.key
    · have d1 : decide (x.mode ≤ howR H x.tx x.key) = true := decide_eq_true h1
      have HF := Lib.hid (show mayR H Wt x = true by unfold mayR; rw [d1]; rfl)
      have HBB := Lib.hid (HBX.out.trans (hb15.mono HSZ0.out)); clear hb15
      go_wp2_with fail
      go_ret
      rw [HF.out]
      exact ⟨rfl, HBB.out⟩
    · have d1 : decide (x.mode ≤ howR H x.tx x.key) = false := decide_eq_false h1
      have H1 := Lib.hid h1
      have hI2 := HI1.out.tall hb15
      have c1 := hI2.blk.cell 1
      have hgl := hI2.blk.lt
      simp only [List.getElem?_toArray, List.getElem?_cons_zero, List.getElem?_cons_succ] at c1
      have HI2 := Lib.hid hI2; clear hI2
      have HRD := Lib.hid (Rd.of_own HI2.out.rowW)
      have HB15 := Lib.hid hb15; clear hb15
      rename World => w2
      go_wp2_with fail
      clear d1 c1 h1
      go_loopw [21] (MyRel x Wt w2) (fun v _ => Wt.length - (intOf v).toNat)
      case atStart => exact ⟨0, rfl, Nat.zero_le _, (fun b hb => by simp at hb), Below.refl _ _⟩
      case round =>
        obtain ⟨i, rfl, hi, hno, hb⟩ := hrel
        by_cases hlt : (i : Int) < Wt.length
        · --{elder
          obtain ⟨g', o', a, rfl, hga, hx, h0, h1, h2⟩ := (HRD.out.below hb).cellsA rfl (j := i) (by omega)
          have hgw : g' < wr.heap.size := Nat.lt_of_lt_of_le hga hb.size
          have hb1 : Below w2.heap.size w2 (wr.alloc (.cells #[.int .i64 a.tx, .string ⟨a.key.toArray⟩, .int .i64 a.mode] 37)) := hb.alloc hb.size _
          have ha1 : Blk (wr.alloc (.cells #[.int .i64 a.tx, .string ⟨a.key.toArray⟩, .int .i64 a.mode] 37)) wr.heap.size 37 #[.int .i64 a.tx, .string ⟨a.key.toArray⟩, .int .i64 a.mode] := Blk.new _ _ _
          have hck := HCAR.out _ (HB15.out.trans (hb1.mono HB15.out.size))
          have HX := Lib.hid hx; clear hx
          have HNO := Lib.hid hno; clear hno
          have HA1 := Lib.hid ha1; clear ha1
          have HB1 := Lib.hid hb1; clear hb1 hb
          have HCK := Lib.hid hck; clear hck
          go_upto_region 6 with (fail)
          clear h0 h1 h2
          generalize hw1 : wr.alloc (.cells #[.int .i64 a.tx, .string ⟨a.key.toArray⟩, .int .i64 a.mode] 37) = w1 at *
          clear hw1
          go_cut [46] (fun s46 wx => s46 = .bool (elderB x a) ∧ wx = w1)
          case first =>
            obtain ⟨k0, k1, k2⟩ := HCK.out
            have a0 := HA1.out.cell 0
            have a1 := HA1.out.cell 1
            have a2 := HA1.out.cell 2
            have al := HA1.out.lt
            have kl : w.heap.size < w1.heap.size := World.block_lt_of_cell? w1 _ k0
            simp only [List.getElem?_toArray, List.getElem?_cons_zero, List.getElem?_cons_succ] at a0 a1 a2
            by_cases e1 : a.key = x.key
            · have d1 : (a.key == s.toList) = true := by rw [toList_sx, beq_iff_eq]; exact e1.trans hs.symm
              by_cases e2 : ¬ a.tx < x.tx
              · have d2 : decide (a.tx < x.tx) = false := by simpa using e2
                have HV := Lib.hid (show elderB x a = false by rw [elderB_eq]; simp [e1, e2])
                clear e1 e2
                go_wp2_with fail
                go_meet
                exact ⟨by rw [HV.out], rfl⟩
              · have e2 : a.tx < x.tx := Classical.not_not.1 e2
                have d2 : decide (a.tx < x.tx) = true := by simpa using e2
                by_cases e3 : a.mode = 2
                · have d3 : (a.mode == 2) = true := by simpa using e3
                  have HV := Lib.hid (show elderB x a = true by rw [elderB_eq]; simp [e1, e2, e3])
                  clear e1 e2 e3
                  go_wp2_with fail
                  go_meet
                  exact ⟨by rw [HV.out], rfl⟩
                · have d3 : (a.mode == 2) = false := by simpa using e3
                  by_cases e4 : x.mode = 2
                  · have d4 : (x.mode == 2) = true := by simpa using e4
                    have HV := Lib.hid (show elderB x a = true by rw [elderB_eq]; simp [e1, e2, e4])
                    clear e1 e2 e3 e4
                    go_wp2_with fail
                    go_meet
                    exact ⟨by rw [HV.out], rfl⟩
                  · have d4 : (x.mode == 2) = false := by simpa using e4
                    have HV := Lib.hid (show elderB x a = false by rw [elderB_eq]; simp [e3, e4])
                    clear e1 e2 e3 e4
                    go_wp2_with fail
                    go_meet
                    exact ⟨by rw [HV.out], rfl⟩
            · have d1 : (a.key == s.toList) = false := by rw [toList_sx, beq_eq_false_iff_ne]; exact fun e => e1 (e.trans hs)
              have HV := Lib.hid (show elderB x a = false by rw [elderB_eq]; simp [e1])
              clear e1
              go_wp2_with fail
              go_meet
              exact ⟨by rw [HV.out], rfl⟩
          case rest =>
            obtain ⟨hu46, hwx⟩ := hcut
            subst hu46 hwx
            rcases hin : elderB x a with _ | _
            · have hrel9 : MyRel x Wt w2 (.int .i64 ((i + 1 : Nat) : Int)) wc := ⟨i + 1, rfl, by omega, take_no (p := fun b => elderB x b = true) HX.out HNO.out (by rw [hin]; decide), HB1.out⟩
              have HR := Lib.hid hrel9; clear hrel9
              go_wp2_with fail
              go_roundw
              case rel => exact HR.out
              case measure => simp [intOf]; omega
            · have HF := Lib.hid (mayR_elder (Int.not_le.2 H1.out) (List.mem_of_getElem? HX.out) hin)
              have HBB := Lib.hid (HBX.out.trans ((HB15.out.trans (HB1.out.mono HB15.out.size)).mono HSZ0.out))
              go_wp2_with fail
              go_ret
              rw [HF.out]
              exact ⟨rfl, HBB.out⟩
          --}elder
        · --{end
          obtain rfl : i = Wt.length := by omega
          rw [List.take_length] at hno
          have HF := Lib.hid (mayR_last (Int.not_le.2 H1.out) hno); clear hno
          have hwy := way_any base g VH _ H Wt x s wr hs (HI2.out.tall hb) hn
          have HWY := Lib.hid hwy; clear hwy
          obtain ⟨k0, k1, k2⟩ := HCAR.out wr (HB15.out.trans (hb.mono HB15.out.size))
          have kl : w.heap.size < wr.heap.size := World.block_lt_of_cell? wr _ k0
          have HBR := Lib.hid (HBX.out.trans ((HB15.out.trans (hb.mono HB15.out.size)).mono HSZ0.out)); clear hb
          go_wp2_with fail
          refine HWY.out.mono ?_
          rintro e w9 ⟨V, rfl, hrow, hb9⟩
          obtain ⟨A9, c9, rfl, _, _⟩ := own_slice hrow
          have HB9 := Lib.hid (HBR.out.trans (hb9.mono HBR.out.size)); clear hb9 hrow k0 k1 k2
          go_wp2_with fail
          go_ret
          rw [HF.out]
          exact ⟨rfl, HB9.out⟩
          --}end
end Go.Proofs.YtopmehbncidpnaaGreatDoor
