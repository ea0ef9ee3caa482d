/- chainmailref.Table: has. -/
import Derived.Test.YtopmehbncidpnaaGreatDoorRt4
import Derived.StillTailTactics
namespace Go.Proofs.YtopmehbncidpnaaGreatDoor
open Go.RowKit
theorem a_info : (Tryz.prog.info? 37).map (fun i => (i.zero, i.size, i.bytes)) = some (some (.agg #[.int .i64 0, .string ⟨#[]⟩, .int .i64 0]), 3, 32) := by kernel_rfl
theorem set3 : ∀ (M : List Ak) (i : Nat) (a : Ak) (m : Int), M[i]? = some a → (M.flatMap akCells).set (i * 3 + 2) (.int .i64 m) = (M.set i { a with mode := m }).flatMap akCells
  | [], i, a, m, h => by simp at h
  | y :: M, 0, a, m, h => by
    simp at h
    subst h
    simp [akCells]
  | y :: M, i + 1, a, m, h => by
    have ih := set3 M i a m (by simpa using h)
    have e0 : (i + 1) * 3 + 2 = (i * 3 + 2) + 3 := by omega
    rw [e0, List.set_cons_succ, List.flatMap_cons, List.flatMap_cons, ← ih]
    simp [akCells]
theorem hasR_at : ∀ {H : List Ak} {i : Nat} {x a : Ak}, H[i]? = some a → (∀ b ∈ H.take i, ¬ (b.tx = x.tx ∧ b.key = x.key)) → a.tx = x.tx ∧ a.key = x.key → hasR H x = H.set i { a with mode := max a.mode x.mode }
  | [], i, x, a, h, _, _ => by simp at h
  | y :: H, 0, x, a, h, _, hy => by
    simp at h
    subst h
    unfold hasR
    rw [if_pos hy]
    rfl
  | y :: H, i + 1, x, a, h, hno, hy => by
    have h1 := hno y (by simp)
    unfold hasR
    rw [if_neg h1, List.set_cons_succ, hasR_at (i := i) (by simpa using h) (fun b hb => hno b (by simp [hb])) hy]
theorem hasR_new : ∀ {H : List Ak} {x : Ak}, (∀ b ∈ H, ¬ (b.tx = x.tx ∧ b.key = x.key)) → hasR H x = H ++ [x]
  | [], x, _ => rfl
  | y :: H, x, hno => by
    unfold hasR
    rw [if_neg (hno y (by simp)), hasR_new (fun b hb => hno b (by simp [hb]))]
    rfl
def mB (a x : Ak) : Bool := decide (a.tx = x.tx ∧ a.key = x.key)
def HsRel (H : List Ak) (x : Ak) (w : World) (v11 : Value) (wr : World) : Prop := ∃ i : Nat, v11 = .int .i64 i ∧ i ≤ H.length ∧ (∀ b ∈ H.take i, ¬ (b.tx = x.tx ∧ b.key = x.key)) ∧ Below w.heap.size w wr
def HsPost (base g : Nat) (VH VW : Value) (H Wt : List Ak) (x : Ak) (w : World) (e : Ending) (w' : World) : Prop :=
  ∃ VH', e = .returned (.tuple #[]) ∧ RtI w' base g VH' VW (hasR H x) Wt ∧ Fr (RFoot g VH VW) w w' ∧ ∀ b, VH'.ownBlock = some b → VH.ownBlock = some b ∨ w.heap.size ≤ b
set_option maxRecDepth 100000 in
set_option maxHeartbeats 8000000 in
theorem has_any (base g : Nat) (VH VW : Value) (H Wt : List Ak) (x : Ak) (s : ByteArray) (w : World) (hs : s = ⟨x.key.toArray⟩) (hI : RtI w base g VH VW H Wt) (hn : H.length ≤ 1000000) :
    Calls Tryz.prog 18 #[.pointer (some ⟨g, 0, none⟩), .agg #[.int .i64 x.tx, .string s, .int .i64 x.mode]] w (HsPost base g VH VW H Wt x w) := by
  have hsx : sx s = x.key := by rw [hs]
  have HSE := Lib.hid hs; clear hs
  have hbx0 : Below w.heap.size w (w.alloc (.cells #[.int .i64 x.tx, .string s, .int .i64 x.mode] 37)) := (Below.refl _ _).alloc (Nat.le_refl _) _
  have hB : Blk (w.alloc (.cells #[.int .i64 x.tx, .string s, .int .i64 x.mode] 37)) w.heap.size 37 #[.int .i64 x.tx, .string s, .int .i64 x.mode] := Blk.new w _ _
  have hI1 := hI.tall hbx0
  have hlt := fun b (hb : RFoot g VH VW b) => (hI.foot_lt hb).2
  obtain ⟨A, c, hVH, _, hAo⟩ := own_slice hI1.rowH
  have c0 := hI1.blk.cell 0
  have hgl := hI1.blk.lt
  simp only [List.getElem?_toArray, List.getElem?_cons_zero] at c0
  rw [hVH] at c0
  have HRD := Lib.hid (Rd.of_own (hVH ▸ hI1.rowH))
  have HVH := Lib.hid hVH; clear hVH
  have HI1 := Lib.hid hI1; clear hI1 hI
  have HLT := Lib.hid hlt; clear hlt
  have HB := Lib.hid hB; clear hB
  have HBX := Lib.hid hbx0; clear hbx0
  have HAO := Lib.hid hAo; clear hAo
  go_enter Tryz.func18, Tryz.ntmps18
  go_upto_region 1 with (fail)
  generalize hw0 : w.alloc (.cells #[.int .i64 x.tx, .string s, .int .i64 x.mode] 37) = w0 at *
  have hz0 : w0.heap.size = w.heap.size + 1 := by rw [← hw0]; simp
  have HZ0 := Lib.hid hz0; clear hz0 hw0
  go_wp2_with fail
  clear c0 hgl
  go_loopw [11] (HsRel H x w0) (fun v _ => H.length - (intOf v).toNat)
  case atStart => exact ⟨0, rfl, Nat.zero_le _, (fun b hb => by simp at hb), Below.refl _ _⟩
  case round =>
    obtain ⟨i, rfl, hi, hno, hb⟩ := hrel
    by_cases hlti : (i : Int) < H.length
    · --{one
      obtain ⟨g', o', a, hAe, hga, hx, h0, h1, h2⟩ := (HRD.out.below hb).cellsA rfl (j := i) (by omega)
      subst hAe
      have hgw : g' < wr.heap.size := Nat.lt_of_lt_of_le hga hb.size
      have hb1 : Below w0.heap.size w0 (wr.alloc (.cells #[.int .i64 a.tx, .string ⟨a.key.toArray⟩, .int .i64 a.mode] 37)) := hb.alloc hb.size _
      have ha1 : Blk (wr.alloc (.cells #[.int .i64 a.tx, .string ⟨a.key.toArray⟩, .int .i64 a.mode] 37)) wr.heap.size 37 #[.int .i64 a.tx, .string ⟨a.key.toArray⟩, .int .i64 a.mode] := Blk.new _ _ _
      have hbk := HB.out.below hb1 HB.out.lt
      have HX := Lib.hid hx; clear hx
      have HNO := Lib.hid hno; clear hno
      have HA1 := Lib.hid ha1; clear ha1
      have HB1 := Lib.hid hb1; clear hb1
      have HSW := Lib.hid hb.size; clear hb
      have HBK := Lib.hid hbk; clear hbk
      go_upto_region 4 with (fail)
      clear h0 h1 h2
      generalize hw1 : wr.alloc (.cells #[.int .i64 a.tx, .string ⟨a.key.toArray⟩, .int .i64 a.mode] 37) = w1 at *
      clear hw1
      have k0 := HBK.out.cell 0
      have k1 := HBK.out.cell 1
      have k2 := HBK.out.cell 2
      have a0 := HA1.out.cell 0
      have a1 := HA1.out.cell 1
      have a2 := HA1.out.cell 2
      have kl := HBK.out.lt
      have al := HA1.out.lt
      simp only [List.getElem?_toArray, List.getElem?_cons_zero, List.getElem?_cons_succ] at k0 k1 k2 a0 a1 a2
      go_cut [27] (fun s27 wx => s27 = .bool (mB a x) ∧ wx = w1)
      case first =>
        by_cases e1 : a.tx = x.tx
        · have d1 : (a.tx == x.tx) = true := by simpa using e1
          by_cases e2 : a.key = x.key
          · have d2 : (a.key == s.toList) = true := by rw [toList_sx, beq_iff_eq]; exact e2.trans hsx.symm
            have HV := Lib.hid (show mB a x = true from decide_eq_true ⟨e1, e2⟩)
            clear e1 e2
            go_wp2_with fail
            go_meet
            exact ⟨by rw [HV.out], rfl⟩
          · have d2 : (a.key == s.toList) = false := by rw [toList_sx, beq_eq_false_iff_ne]; exact fun e => e2 (e.trans hsx)
            have HV := Lib.hid (show mB a x = false from decide_eq_false (fun h => e2 h.2))
            clear e1 e2
            go_wp2_with fail
            go_meet
            exact ⟨by rw [HV.out], rfl⟩
        · have d1 : (a.tx == x.tx) = false := by simpa using e1
          have HV := Lib.hid (show mB a x = false from decide_eq_false (fun h => e1 h.1))
          clear e1
          go_wp2_with fail
          go_meet
          exact ⟨by rw [HV.out], rfl⟩
      case rest =>
        obtain ⟨hu27, hwx⟩ := hcut
        subst hu27 hwx
        rcases hm : mB a x with _ | _
        · have hyes : ¬ (a.tx = x.tx ∧ a.key = x.key) := of_decide_eq_false hm
          have hfin : HsRel H x w0 (.int .i64 ((i + 1 : Nat) : Int)) wc := ⟨i + 1, rfl, by omega, take_no (p := fun b : Ak => b.tx = x.tx ∧ b.key = x.key) HX.out HNO.out hyes, HB1.out⟩
          have HF := Lib.hid hfin; clear hfin hyes
          go_wp2_with fail
          go_roundw
          case rel => exact HF.out
          case measure => simp [intOf]; omega
        · have hyes : a.tx = x.tx ∧ a.key = x.key := of_decide_eq_true hm
          have hI2 := HI1.out.tall HB1.out
          have c0 := hI2.blk.cell 0
          have hgl := hI2.blk.lt
          simp only [List.getElem?_toArray, List.getElem?_cons_zero] at c0
          rw [HVH.out] at c0
          have hrow2 := hI2.rowH
          rw [HVH.out] at hrow2
          rcases hrow2.2 with ⟨e0, _⟩ | ⟨g2, cap, cur, e0, _⟩
          · cases e0
          obtain ⟨rfl, rfl, _⟩ : g' = g2 ∧ o' = 0 ∧ True := by injection e0 with e0; injection e0 with e0; injection e0 with h1 h2; exact ⟨h1, h2, trivial⟩
          have hst := hrow2.stored (i * 3 + 2) (.int .i64 (max a.mode x.mode))
          have cf := hrow2.frozenAt (i * 3 + 2)
          obtain ⟨g3, o3, a', e3, _, hx3, _, _, co⟩ := (Rd.of_own hrow2).cellsA rfl (j := i) (by omega)
          injection e3 with e3
          injection e3 with e3 e4
          subst e3 e4
          rw [Nat.zero_add] at co
          obtain rfl : a' = a := Option.some.inj (hx3.symm.trans HX.out)
          have hgne : g ≠ g' := fun e => own_blk_ne hrow2 hI2.blk (by decide) (by rw [e]; rfl)
          have hVo : VH.ownBlock = some g' := by rw [HVH.out]; rfl
          have hfin : HsPost base g VH VW H Wt x w (.returned (.tuple #[])) (wc.drew.setCell ⟨g', i * 3 + 2, none⟩ (.int .i64 (max a'.mode x.mode))) := by
            have hF : Fr (fun b => b = g') wc (wc.drew.setCell ⟨g', i * 3 + 2, none⟩ (.int .i64 (max a'.mode x.mode))) := ((Fr.refl (fun b => b = g') wc).drew).setCell (p := ⟨g', i * 3 + 2, none⟩) (.inl rfl) _
            have hBw : Below w.heap.size w wc := HBX.out.trans (HB1.out.mono HBX.out.size)
            refine ⟨VH, rfl, ⟨hF.blk hI2.blk hgne, ?_, hF.own hI2.rowW (fun b hb e => hI2.apart g' hVo (e ▸ hb)), hI2.apart, hI2.lo⟩, ?_, fun b hb => .inl hb⟩
            · rw [hasR_at HX.out HNO.out hyes, List.length_set, ← set3 H i a' _ HX.out, HVH.out]
              exact hst.1
            · exact ((show Fr (RFoot g VH VW) w wc from ⟨hBw.os, hBw.tape, hBw.output, hBw.size, fun k hk _ => hBw.block k hk⟩)).trans' hF (fun q _ (e : q = g') => by subst e; exact .inr (.inl hVo))
          have HFIN := Lib.hid hfin; clear hfin hst hrow2 hI2 e0 hx3
          go_upto_region 5 with (fail)
          refine wp_region_still_tail 12 (by kernel_rfl) (by kernel_rfl) ?_
          change wpStill _ _ (World.drew _) _ _ _
          simp only [List.take_succ_cons, List.take_zero, List.drop_succ_cons, List.drop_zero]
          repeat still_step
          refine wpStill_nil ?_
          change wpList _ _ _ _ _ (World.drew _)
          go_wp2_with fail
          refine bodyPost_ret (results_none rfl _ _ _) rfl ?_
          exact HFIN.out
      --}one
    · --{new
      obtain rfl : i = H.length := by omega
      rw [List.take_length] at hno
      have hnew := hasR_new hno; clear hno
      have hI2 := HI1.out.tall hb
      have hcar : ∀ W, Below wr.heap.size wr W → W.cell? ⟨g, 0, none⟩ = some (.slice A H.length c) ∧ W.cell? ⟨w.heap.size, 0, none⟩ = some (.int .i64 x.tx) ∧ W.cell? ⟨w.heap.size, 1, none⟩ = some (.string s) ∧ W.cell? ⟨w.heap.size, 2, none⟩ = some (.int .i64 x.mode) := fun W hW => by
        have c0 := (hI2.blk.below hW hI2.blk.lt).cell 0
        have hk := (HB.out.below hb HB.out.lt).below hW (by have := HB.out.lt; have := hb.size; omega)
        have k0 := hk.cell 0
        have k1 := hk.cell 1
        have k2 := hk.cell 2
        simp only [List.getElem?_toArray, List.getElem?_cons_zero, List.getElem?_cons_succ] at c0 k0 k1 k2
        rw [HVH.out] at c0
        exact ⟨c0, k0, k1, k2⟩
      have HCAR := Lib.hid hcar; clear hcar
      have HI2 := Lib.hid hI2; clear hI2
      have HNEW := Lib.hid hnew; clear hnew
      have HBR := Lib.hid hb; clear hb
      go_wp2_with fail
      refine wp_region_any (by kernel_rfl) ?_
      change wpAny _ _ _ _ _ _ _ (World.drew _)
      refine nplainQ (fun w' => w'.cell? ⟨g, 0, none⟩ = some (.slice A H.length c) ∧ w'.cell? ⟨w.heap.size, 0, none⟩ = some (.int .i64 x.tx) ∧ w'.cell? ⟨w.heap.size, 1, none⟩ = some (.string s) ∧ w'.cell? ⟨w.heap.size, 2, none⟩ = some (.int .i64 x.mode)) 8 (fun _ _ _ _ _ h => h) (fun HQP => ?_)
      have HCC := HCAR.out wr.drew (Below.refl _ _).drew
      refine ntakeW 0 rfl rfl (by kernel_rfl) (by kernel_rfl) (by kernel_rfl) (by kernel_rfl) (fun _ _ _ h => HQP _ _ _ _ _ h) (by kernel_rfl) HCC (fun w' hw' => by go_simp; rfl) ?_
      refine ntakeW 1 rfl rfl (by kernel_rfl) (by kernel_rfl) (by kernel_rfl) (by kernel_rfl) (fun _ _ _ h => HQP _ _ _ _ _ h) (by kernel_rfl) HCC (fun w' hw' => by go_simp; rfl) ?_
      refine ntakeW 2 rfl rfl (by kernel_rfl) (by kernel_rfl) (by kernel_rfl) (by kernel_rfl) (fun _ _ _ h => HQP _ _ _ _ _ h) (by kernel_rfl) HCC (fun w' hw' => by go_simp; rfl) ?_
      refine ntakeW 3 rfl rfl (by kernel_rfl) (by kernel_rfl) (by kernel_rfl) (by kernel_rfl) (fun _ _ _ h => HQP _ _ _ _ _ h) (by kernel_rfl) HCC (fun w' hw' => by go_simp; rfl) ?_
      refine ntakeW 4 rfl rfl (by kernel_rfl) (by kernel_rfl) (by kernel_rfl) (by kernel_rfl) (fun _ _ _ h => HQP _ _ _ _ _ h) (by kernel_rfl) HCC (fun w' hw' => by obtain ⟨q0, q1, q2, q3⟩ := hw'; go_simp; rfl) ?_
      refine ntakeW 5 rfl rfl (by kernel_rfl) (by kernel_rfl) (by kernel_rfl) (by kernel_rfl) (fun _ _ _ h => HQP _ _ _ _ _ h) (by kernel_rfl) HCC (fun w' hw' => by obtain ⟨q0, q1, q2, q3⟩ := hw'; go_simp; rfl) ?_
      refine nonly 6 (by kernel_rfl) rfl (by kernel_rfl) (fun K hK => ?_)
      go_simp
      refine hK _ _ (fun _ => HCAR.out _ ((Below.refl _ _).alloc (Nat.le_refl _) _).drew) ?_
      clear hK K HCC
      refine nonly 7 (by kernel_rfl) rfl (by kernel_rfl) (fun K hK => ?_)
      have hrow1 : wr.ownsRow base 37 3 (.slice A H.length c) H.length (H.flatMap akCells) := by rw [← HVH.out]; exact HI2.out.rowH
      have HROW := Lib.hid hrow1; clear hrow1
      refine wp_append1 wr.drew wr.heap.size rfl _ (.tmp 45) (.tmp 47) 27 rfl base 37 _ 3 32 Tryz.underlying27 a_info rfl (by decide) _ _ _ #[.int .i64 x.tx, .string s, .int .i64 x.mode] rfl HROW.out 1 rfl _ rfl rfl (by simp [Value.oneCell']) (by unfold maxLen; omega) (by omega) (by have := HI2.out.lo; have := HI2.out.blk.lt; show base ≤ wr.heap.size; omega) ?_
      intro V2 w4 hrow4 hm4
      obtain ⟨A4, c4, rfl, _, _⟩ := own_slice hrow4
      have hm4' : Moved wr w4 VH.ownBlock (Value.ownBlock (.slice A4 (H.length + 1) c4)) := by rw [HVH.out]; exact ⟨⟨hm4.1.os, hm4.1.tape, hm4.1.output, hm4.1.size, hm4.1.block⟩, hm4.2⟩
      have hhV : ¬ some g = VH.ownBlock := fun e => own_blk_ne HI2.out.rowH HI2.out.blk (by decide) e.symm
      have hxV : ¬ some w.heap.size = VH.ownBlock := fun e => by have := HLT.out w.heap.size (.inr (.inl e.symm)); omega
      have hb4 := hm4'.1.blk HI2.out.blk hhV
      have hbx4 := hm4'.1.blk (HB.out.below HBR.out HB.out.lt) hxV
      have y0 := hb4.cell 0
      have y1 := hb4.frozen 0
      have k0 := hbx4.cell 0
      have k1 := hbx4.cell 1
      have k2 := hbx4.cell 2
      simp only [List.getElem?_toArray, List.getElem?_cons_succ, List.getElem?_cons_zero] at y0 k0 k1 k2
      rw [HVH.out] at y0
      have HC4 := Lib.hid (And.intro y0 (And.intro k0 (And.intro k1 k2)))
      have hfin : HsPost base g VH VW H Wt x w (.returned (.tuple #[])) (w4.setCell ⟨g, 0, none⟩ (.slice A4 (H.length + 1) c4)) := by
        have hF := Fr.set1 g w4 0 (.slice A4 (H.length + 1) c4)
        have hrow5 : w4.ownsRow base 37 3 (.slice A4 (H.length + 1) c4) (hasR H x).length ((hasR H x).flatMap akCells) := by
          rw [HNEW.out, List.length_append, List.flatMap_append, List.flatMap_singleton]
          unfold akCells
          rw [← HSE.out]
          exact hrow4
        have hap : ∀ b, (Value.slice A4 (H.length + 1) c4).ownBlock = some b → VW.ownBlock ≠ some b := fun b hb => by
          rcases hm4'.2 with e | ⟨b', e, hb'⟩
          · exact HI2.out.apart b (e.symm.trans hb)
          · rw [hb] at e; injection e with e
            intro h
            have := (HI2.out.rowW.lt b h).2
            omega
        refine ⟨_, rfl, ⟨hb4.set_ 0 _, hF.own hrow5 (fun b hb e => own_blk_ne hrow5 hb4 (by decide) (e ▸ hb)), hF.own (hm4'.1.own HI2.out.rowW (fun b hb e => HI2.out.apart b e.symm hb)) (fun b hb e => own_blk_ne HI2.out.rowW HI2.out.blk (by decide) (e ▸ hb)), hap, HI2.out.lo⟩, ?_, fun b hb => ?_⟩
        · have hBw : Below w.heap.size w wr := HBX.out.trans (HBR.out.mono HBX.out.size)
          exact (((show Fr (RFoot g VH VW) w wr from ⟨hBw.os, hBw.tape, hBw.output, hBw.size, fun k hk _ => hBw.block k hk⟩)).trans' hm4'.1 (fun q _ e => .inr (.inl e.symm))).setCell (p := ⟨g, 0, none⟩) (.inl (.inl rfl)) _
        · rcases hm4'.2 with e | ⟨b', e, hb'⟩
          · exact .inl (e.symm.trans hb)
          · rw [hb] at e; injection e with e
            exact .inr (by have := HZ0.out; have := HBR.out.size; omega)
      have HFIN := Lib.hid hfin; clear hfin hrow4 hm4 hm4' hb4 hbx4 hhV hxV
      go_simp
      refine hK _ _ (fun _ => HC4.out) ?_
      clear hK K
      refine nonly 8 (by kernel_rfl) rfl (by kernel_rfl) (fun K hK => ?_)
      go_simp
      refine hK _ _ (fun h => absurd h (by decide)) ?_
      clear hK K
      refine nonly 9 (by kernel_rfl) rfl (by kernel_rfl) (fun K hK => ?_)
      go_simp
      refine hK _ _ (fun h => absurd h (by decide)) ?_
      clear hK K
      refine nonly 10 (by kernel_rfl) rfl (by kernel_rfl) (fun K hK => ?_)
      go_simp
      refine hK _ _ (fun h => absurd h (by decide)) ?_
      clear hK K
      refine ndone (by kernel_rfl) ?_ _
      clear HQP y0 y1 k0 k1 k2
      go_wp2_with fail
      go_end0
      exact HFIN.out
      --}new
end Go.Proofs.YtopmehbncidpnaaGreatDoor
