/- chainmaillaw.MvPlays: the walk. -/
import Derived.Test.YtmgpdkecpobcaaaDoorMp1
namespace Go.Proofs.YtmgpdkecpobcaaaDoor
open Go.RowKit
structure SeR where
  what : Int
  tt : Int
  key : ByteArray
  val : ByteArray
  gone : Bool
def seCells (x : SeR) : List Value := [.int .i64 x.what, .int .i64 x.tt, .string x.key, .string x.val, .bool x.gone]
def SeOk (x : SeR) : Prop := (Lit.int .i64 x.tt).wf = true ∧ x.key.size ≤ maxLen
theorem flatSe : ∀ (l : List SeR) (j : Nat) (x : SeR), l[j]? = some x → ∀ i, i < 5 → (l.flatMap seCells)[j * 5 + i]? = (seCells x)[i]?
  | [], j, p, h, i, hi => by simp at h
  | q :: l, 0, p, h, i, hi => by
    simp at h
    subst h
    rw [List.flatMap_cons, List.getElem?_append_left (by show _ < 5; omega)]
    simp
  | q :: l, j + 1, p, h, i, hi => by
    have h' : l[j]? = some p := by simpa using h
    have e : (j + 1) * 5 + i = (j * 5 + i) + 5 := by omega
    have e3 : (seCells q).length = 5 := rfl
    rw [e, List.flatMap_cons, List.getElem?_append_right (by rw [e3]; omega), e3, Nat.add_sub_cancel]
    exact flatSe l j p h' i hi
theorem Rd.cellsSe {w : World} {B n j : Nat} {A : Option Addr} {l : List SeR} (h : Rd w B 5 A n (l.flatMap seCells)) (hl : l.length = n) (hj : j < n) : ∃ g off x, A = some ⟨g, off, none⟩ ∧ g < B ∧ l[j]? = some x ∧
    w.cell? ⟨g, off + j * 5, none⟩ = some (.int .i64 x.what) ∧ w.cell? ⟨g, off + j * 5 + 1, none⟩ = some (.int .i64 x.tt) ∧ w.cell? ⟨g, off + j * 5 + 2, none⟩ = some (.string x.key) ∧ w.cell? ⟨g, off + j * 5 + 3, none⟩ = some (.string x.val) ∧ w.cell? ⟨g, off + j * 5 + 4, none⟩ = some (.bool x.gone) := by
  obtain ⟨g, off, e, hb, hc⟩ := h.2 (by omega)
  have hx : l[j]? = some l[j] := List.getElem?_eq_getElem (by omega)
  have hf := flatSe l j _ hx
  exact ⟨g, off, l[j], e, hb, hx, hc (j * 5) _ (hf 0 (by omega)), hc (j * 5 + 1) _ (hf 1 (by omega)), hc (j * 5 + 2) _ (hf 2 (by omega)), hc (j * 5 + 3) _ (hf 3 (by omega)), hc (j * 5 + 4) _ (hf 4 (by omega))⟩
theorem flatPr : ∀ (l : List (Sx × Sx)) (j : Nat) (x : Sx × Sx), l[j]? = some x → ∀ i, i < 3 → (l.flatMap prC)[j * 3 + i]? = (prC x)[i]?
  | [], j, p, h, i, hi => by simp at h
  | q :: l, 0, p, h, i, hi => by
    simp at h
    subst h
    rw [List.flatMap_cons, List.getElem?_append_left (by show _ < 3; omega)]
    simp
  | q :: l, j + 1, p, h, i, hi => by
    have h' : l[j]? = some p := by simpa using h
    have e : (j + 1) * 3 + i = (j * 3 + i) + 3 := by omega
    have e3 : (prC q).length = 3 := rfl
    rw [e, List.flatMap_cons, List.getElem?_append_right (by rw [e3]; omega), e3, Nat.add_sub_cancel]
    exact flatPr l j p h' i hi
theorem Rd.cellsPr {w : World} {B n j : Nat} {A : Option Addr} {l : List (Sx × Sx)} (h : Rd w B 3 A n (l.flatMap prC)) (hl : l.length = n) (hj : j < n) : ∃ g off x, A = some ⟨g, off, none⟩ ∧ g < B ∧ l[j]? = some x ∧
    w.cell? ⟨g, off + j * 3, none⟩ = some (.string ⟨x.1.toArray⟩) ∧ w.cell? ⟨g, off + j * 3 + 1, none⟩ = some (.string ⟨x.2.toArray⟩) ∧ w.cell? ⟨g, off + j * 3 + 2, none⟩ = some (.bool false) := by
  obtain ⟨g, off, e, hb, hc⟩ := h.2 (by omega)
  have hx : l[j]? = some l[j] := List.getElem?_eq_getElem (by omega)
  have hf := flatPr l j _ hx
  exact ⟨g, off, l[j], e, hb, hx, hc (j * 3) _ (hf 0 (by omega)), hc (j * 3 + 1) _ (hf 1 (by omega)), hc (j * 3 + 2) _ (hf 2 (by omega))⟩
theorem atRR_len (l : List Rx) (low t : Int) : (atRR l low t).1.length ≤ l.length := by
  unfold atRR
  split
  · exact Nat.zero_le _
  · unfold atR
    refine Nat.le_trans (List.length_filterMap_le _ _) ?_
    unfold keysV sortS
    rw [List.length_mergeSort]
    have := vk_len l []
    simpa using this
/-- The two Stores, all of whose memory is the call's own. -/
def MpS (W : World) (n : Nat) (w : World) : Prop := ∃ mb loc K V l low, MpI w W.heap.size n W.heap.size (W.heap.size + 1) mb loc K V l low ∧ Below W.heap.size W w
def MpRel (W : World) (n : Nat) (v5 : Value) (wr : World) : Prop := ∃ i : Nat, v5 = .int .i64 i ∧ i ≤ n ∧ MpS W i wr
def CmRel (n : Nat) (w : World) (v : Value) (wr : World) : Prop := ∃ j : Nat, v = .int .i64 j ∧ j ≤ n ∧ Below w.heap.size w wr
theorem mp_start (W : World) : MpS W 0 ((W.alloc (.cells #[.map none, .int .i64 0] 25)).alloc (.cells #[.slice none 0 0, .int .i64 0] 50)) := by
  refine ⟨none, fun _ => .slice none 0 0, fun _ => [], .slice none 0 0, [], 0, ⟨⟨?_, fun x => rfl, fun x hx => absurd rfl hx, fun x y _ hx => absurd rfl hx, fun x hx => absurd rfl hx, fun x v hv => (nomatch hv), fun x => List.Pairwise.nil, fun x => Nat.le_refl _, Int.le_refl _, by decide, fun b hb => (nomatch hb), Nat.le_refl _⟩, ⟨?_, World.ownsRow_nil _ _ _ _, by omega⟩, StR.empty, Nat.le_refl _⟩, ((Below.refl _ _).alloc (Nat.le_refl _) _).alloc (by simp) _⟩
  · exact (Blk.new W _ _).alloc _
  · have := Blk.new (W.alloc (.cells #[.map none, .int .i64 0] 25)) 50 #[.slice none 0 0, .int .i64 0]
    simpa using this
section
variable {w w' : World} {W : World} {base n g h : Nat} {mb : Option Nat} {loc : Sx → Value} {K : Kp} {V : Value} {l : List Rx} {low : Int}
theorem MpI.belowSt (m : MpI w W.heap.size n g h mb loc K V l low) (hB : Below W.heap.size W w) (hf : Fr (SFr g mb loc K) w w') : Below W.heap.size W w' := hB.trans (hf.below (fun b hb => (m.st.foot_lt hb).1) hB.size)
theorem MpI.belowRs (hm : RsI w W.heap.size h V l low) (hB : Below W.heap.size W w) (hf : Fr (RsFoot h V) w w') : Below W.heap.size W w' := hB.trans (hf.below (fun b hb => (hm.foot_lt hb).1) hB.size)
end
set_option maxRecDepth 100000 in
set_option maxHeartbeats 40000000 in
theorem mvPlays_walk (L : List SeR) (n kc : Nat) (A : Option Addr) (W : World) (hr : Rd W W.heap.size 5 A n (L.flatMap seCells)) (hl : L.length = n) (hok : ∀ x ∈ L, SeOk x) (hld : Laid W) :
    Calls Tryd.prog 4 #[.slice A n kc] W fun e w' => e = .returned (.bool true) ∧ Below W.heap.size W w' := by
  have HR := Lib.hid hr; clear hr
  have HOK := Lib.hid hok; clear hok
  have HLD := Lib.hid hld; clear hld
  by_cases h100 : (n : Int) > 80
  · go_enter Tryd.func4, Tryd.ntmps4
    go_wp2_with fail
    go_ret
    exact ⟨rfl, Below.refl _ _⟩
  have HST := Lib.hid (show MpRel W n (.int .i64 (0 : Nat)) _ from ⟨0, rfl, Nat.zero_le _, mp_start W⟩)
  go_enter Tryd.func4, Tryd.ntmps4
  go_wp2_with fail
  go_loopw [5] (MpRel W n) (fun v _ => n - (intOf v).toNat)
  case atStart => exact HST.out
  case round =>
    clear HST
    obtain ⟨i, rfl, hi, mb, loc, K, V, l, low, hM, hB⟩ := hrel
    by_cases hlt : (i : Int) < n
    · --{round
      obtain ⟨gA, oA, x, rfl, hgA, hx, c0, c1, c2, c3, c4⟩ := (HR.out.below hB).cellsSe hl (j := i) (by omega)
      have hgw : gA < wr.heap.size := Nat.lt_of_lt_of_le hgA hB.size
      have hxo := HOK.out x (List.mem_of_getElem? hx)
      obtain ⟨what, tt, key, val, gone⟩ := x
      obtain ⟨htt, hky⟩ := hxo
      simp only at c0 c1 c2 c3 c4 htt hky
      have htm : tt < 9223372036854775808 := by
        simp only [Lit.wf, Bool.and_eq_true, decide_eq_true_eq] at htt
        have e2 : IntKind.i64.max = 9223372036854775807 := by decide
        rw [e2] at htt
        omega
      have hb0 : Below wr.heap.size wr (wr.alloc (.cells #[.int .i64 what, .int .i64 tt, .string key, .string val, .bool gone] 52)) := (Below.refl _ _).alloc (Nat.le_refl _) _
      have hM1 := hM.tall hb0
      have hB1 := hB.trans (hb0.mono hB.size)
      have hx1 : Blk (wr.alloc (.cells #[.int .i64 what, .int .i64 tt, .string key, .string val, .bool gone] 52)) wr.heap.size 52 #[.int .i64 what, .int .i64 tt, .string key, .string val, .bool gone] := Blk.new _ _ _
      have HX1 := Lib.hid hx1; clear hx1
      have HM1 := Lib.hid hM1; clear hM1 hM
      have HB1 := Lib.hid hB1; clear hB1 hB
      have HKY := Lib.hid hky; clear hky hx hb0 htt
      have hin : i < 80 := by omega
      go_upto_region 9 with (fail)
      clear c0 c1 c2 c3 c4 hgw
      generalize wr.alloc (.cells #[.int .i64 what, .int .i64 tt, .string key, .string val, .bool gone] 52) = w1 at *
      generalize wr.heap.size = hb at *
      have k0 := HX1.out.cell 0
      have kl := HX1.out.lt
      simp only [List.getElem?_toArray, List.getElem?_cons_zero] at k0
      have hcar : ∀ W', Below w1.heap.size w1 W' ∨ Blk W' hb 52 #[.int .i64 what, .int .i64 tt, .string key, .string val, .bool gone] → W'.cell? ⟨hb, 0, none⟩ = some (.int .i64 what) ∧ W'.cell? ⟨hb, 1, none⟩ = some (.int .i64 tt) ∧ W'.cell? ⟨hb, 2, none⟩ = some (.string key) ∧ W'.cell? ⟨hb, 3, none⟩ = some (.string val) ∧ W'.cell? ⟨hb, 4, none⟩ = some (.bool gone) := fun W' hW => by
        have hk : Blk W' hb 52 #[.int .i64 what, .int .i64 tt, .string key, .string val, .bool gone] := hW.elim (fun h => HX1.out.below h HX1.out.lt) id
        have k0 := hk.cell 0
        have k1 := hk.cell 1
        have k2 := hk.cell 2
        have k3 := hk.cell 3
        have k4 := hk.cell 4
        simp only [List.getElem?_toArray, List.getElem?_cons_zero, List.getElem?_cons_succ] at k0 k1 k2 k3 k4
        exact ⟨k0, k1, k2, k3, k4⟩
      have HCAR := Lib.hid hcar; clear hcar
      go_upto_block 2 with (fail)
      clear k0
      go_cut [] (fun wx => MpS W (i + 1) wx ∧ Blk wx hb 52 #[.int .i64 what, .int .i64 tt, .string key, .string val, .bool gone])
      case first =>
        by_cases e0 : what = 0
        · --{put
          have d0 : (what == 0) = true := by simpa using e0
          clear e0
          obtain ⟨lw1, lw2⟩ := put_same HM1.out.law low ⟨sx key, sx val, gone, tt⟩
          have HL2 := Lib.hid lw2; clear lw2
          have hP := put_any W.heap.size i W.heap.size mb loc K low key val gone tt w1.drew (HM1.out.st.tall (Below.refl _ _).drew) (by omega)
          have HP := Lib.hid hP; clear hP
          have HL1 := Lib.hid lw1; clear lw1
          go_wp2_with fail
          refine wp_region_any (by kernel_rfl) ?_
          change wpAny _ _ _ _ _ _ _ (World.drew _)
          refine nplainQ (fun w' => w'.cell? ⟨hb, 0, none⟩ = some (.int .i64 what) ∧ w'.cell? ⟨hb, 1, none⟩ = some (.int .i64 tt) ∧ w'.cell? ⟨hb, 2, none⟩ = some (.string key) ∧ w'.cell? ⟨hb, 3, none⟩ = some (.string val) ∧ w'.cell? ⟨hb, 4, none⟩ = some (.bool gone)) 13 (fun _ _ _ _ _ h => h) (fun HQP => ?_)
          have HCC := HCAR.out w1.drew (.inl (Below.refl _ _).drew)
          refine ntakeW 0 rfl rfl (by kernel_rfl) (by kernel_rfl) (by kernel_rfl) (by kernel_rfl) (fun _ _ _ h => HQP _ _ _ _ _ h) (by kernel_rfl) HCC (fun w' hw' => by go_simp; rfl) ?_
          refine ntakeW 1 rfl rfl (by kernel_rfl) (by kernel_rfl) (by kernel_rfl) (by kernel_rfl) (fun _ _ _ h => HQP _ _ _ _ _ h) (by kernel_rfl) HCC (fun w' hw' => by obtain ⟨q0, q1, q2, q3, q4⟩ := hw'; go_simp; rfl) ?_
          refine ntakeW 2 rfl rfl (by kernel_rfl) (by kernel_rfl) (by kernel_rfl) (by kernel_rfl) (fun _ _ _ h => HQP _ _ _ _ _ h) (by kernel_rfl) HCC (fun w' hw' => by go_simp; rfl) ?_
          refine ntakeW 3 rfl rfl (by kernel_rfl) (by kernel_rfl) (by kernel_rfl) (by kernel_rfl) (fun _ _ _ h => HQP _ _ _ _ _ h) (by kernel_rfl) HCC (fun w' hw' => by obtain ⟨q0, q1, q2, q3, q4⟩ := hw'; go_simp; rfl) ?_
          refine ntakeW 5 rfl rfl (by kernel_rfl) (by kernel_rfl) (by kernel_rfl) (by kernel_rfl) (fun _ _ _ h => HQP _ _ _ _ _ h) (by kernel_rfl) HCC (fun w' hw' => by go_simp; rfl) ?_
          refine ntakeW 6 rfl rfl (by kernel_rfl) (by kernel_rfl) (by kernel_rfl) (by kernel_rfl) (fun _ _ _ h => HQP _ _ _ _ _ h) (by kernel_rfl) HCC (fun w' hw' => by go_simp; rfl) ?_
          refine ntakeW 7 rfl rfl (by kernel_rfl) (by kernel_rfl) (by kernel_rfl) (by kernel_rfl) (fun _ _ _ h => HQP _ _ _ _ _ h) (by kernel_rfl) HCC (fun w' hw' => by obtain ⟨q0, q1, q2, q3, q4⟩ := hw'; go_simp; rfl) ?_
          refine ntakeW 8 rfl rfl (by kernel_rfl) (by kernel_rfl) (by kernel_rfl) (by kernel_rfl) (fun _ _ _ h => HQP _ _ _ _ _ h) (by kernel_rfl) HCC (fun w' hw' => by go_simp; rfl) ?_
          refine ntakeW 9 rfl rfl (by kernel_rfl) (by kernel_rfl) (by kernel_rfl) (by kernel_rfl) (fun _ _ _ h => HQP _ _ _ _ _ h) (by kernel_rfl) HCC (fun w' hw' => by obtain ⟨q0, q1, q2, q3, q4⟩ := hw'; go_simp; rfl) ?_
          clear HCC
          refine nonly 4 (by kernel_rfl) rfl (by kernel_rfl) (fun KK hK => ?_)
          go_simp
          refine HP.out.mono ?_
          rintro e w2 ⟨rfl, mb2, loc2, hI2, hf2, hft2⟩
          have hf2' : Fr (SFr W.heap.size mb loc K) w1 w2 := (Fr.refl _ w1).drew.trans hf2
          have hrs2 := HM1.out.rs.fr hf2' (fun b hb1 hb2 => HM1.out.apart hb1 hb2)
          have hx2 := hf2'.blk HX1.out (HM1.out.st.notBlk HX1.out (by decide) (by decide))
          have HB2 := Lib.hid (HM1.out.belowSt HB1.out hf2')
          have HX2 := Lib.hid hx2; clear hx2
          have HI2 := Lib.hid hI2; clear hI2 hf2 hf2' hft2 HP
          have HRS2 := Lib.hid hrs2; clear hrs2
          have HCC := HCAR.out w2 (.inr HX2.out)
          go_simp
          refine hK _ _ (fun _ => HCC) ?_
          clear hK KK
          have HRP := Lib.hid (rput_any W.heap.size (W.heap.size + 1) V l low key val gone tt w2 HRS2.out (by have := HM1.out.len; omega))
          clear HCC
          refine nonly 10 (by kernel_rfl) rfl (by kernel_rfl) (fun KK hK => ?_)
          go_simp
          refine HRP.out.mono ?_
          rintro e w3 ⟨rfl, V3, hrs3, hf3, hft3⟩
          have hx3 := hf3.blk HX2.out (HRS2.out.notBlk HX2.out (by decide) (by decide))
          have hI3 := HI2.out.fr hf3 (fun b hb1 hb2 => by
            obtain ⟨t, cs, hbk, e1, e2⟩ := HRS2.out.blks hb2
            exact HI2.out.notBlk hbk e1 e2 hb1)
          have HB3 := Lib.hid (MpI.belowRs HRS2.out HB2.out hf3)
          have hM3 : MpI w3 W.heap.size (i + 1) W.heap.size (W.heap.size + 1) mb2 loc2 (putS K low ⟨sx key, sx val, gone, tt⟩).2 V3 (rputS l low ⟨sx key, sx val, gone, tt⟩).2 low := ⟨hI3, hrs3, HL2.out, by
            have := HM1.out.len
            unfold rputS
            split
            · simp only; omega
            · split
              · simp only; omega
              · split
                · simp only; omega
                · split
                  · simp only; omega
                  · simp only [List.length_append, List.length_singleton]; omega⟩
          have HX3 := Lib.hid hx3; clear hx3
          have HM3 := Lib.hid hM3; clear hM3 hI3 hrs3 hf3 hft3 HRP
          have HCC := HCAR.out w3 (.inr HX3.out)
          rw [HL1.out]
          go_simp
          refine hK _ _ (fun _ => HCC) ?_
          clear hK KK
          generalize (putS K low ⟨sx key, sx val, gone, tt⟩).1 = er at *
          have hbare : Calls Tryd.prog 13 #[erV er, .int .i64 er] w3 _ := bare_any er er w3 (HLD.out.below HB3.out HLD.out.pos)
          have HBA := Lib.hid hbare; clear hbare
          refine nonly 11 (by kernel_rfl) rfl (by kernel_rfl) (fun KK hK => ?_)
          go_simp
          refine HBA.out.mono ?_
          rintro e w4 ⟨rfl, hb4⟩
          have hfin : MpS W (i + 1) w4 ∧ Blk w4 hb 52 #[.int .i64 what, .int .i64 tt, .string key, .string val, .bool gone] := ⟨⟨_, _, _, _, _, _, HM3.out.tall hb4, HB3.out.trans (hb4.mono HB3.out.size)⟩, HX3.out.below hb4 HX3.out.lt⟩
          have HF := Lib.hid hfin; clear hfin hb4 HCC HBA
          have HCC := HCAR.out w4 (.inr HF.out.2)
          go_simp
          refine hK _ _ (fun _ => HCC) ?_
          clear hK KK
          refine nonly 12 (by kernel_rfl) rfl (by kernel_rfl) (fun KK hK => ?_)
          go_simp
          refine hK _ _ (fun _ => HCC) ?_
          clear hK KK
          refine ndone (by kernel_rfl) ?_ _
          clear HQP HCC
          go_wp2_with fail
          go_meet
          exact HF.out
          --}put
        · have d0 : (what == 0) = false := by simpa using e0
          by_cases e1 : what = 1
          · --{trim
            have d1 : (what == 1) = true := by simpa using e1
            clear e1 e0
            obtain ⟨lw1, lw2, lw3⟩ := trim_same HM1.out.law low tt
            have HL2 := Lib.hid lw2; clear lw2
            have HL3 := Lib.hid lw3; clear lw3
            have hP := trim_any W.heap.size i W.heap.size mb loc K low tt w1.drew (HM1.out.st.tall (Below.refl _ _).drew) (by omega)
            have HP := Lib.hid hP; clear hP
            have HL1 := Lib.hid lw1; clear lw1
            go_wp2_with fail
            refine wp_region_any (by kernel_rfl) ?_
            change wpAny _ _ _ _ _ _ _ (World.drew _)
            refine nplainQ (fun w' => w'.cell? ⟨hb, 0, none⟩ = some (.int .i64 what) ∧ w'.cell? ⟨hb, 1, none⟩ = some (.int .i64 tt) ∧ w'.cell? ⟨hb, 2, none⟩ = some (.string key) ∧ w'.cell? ⟨hb, 3, none⟩ = some (.string val) ∧ w'.cell? ⟨hb, 4, none⟩ = some (.bool gone)) 9 (fun _ _ _ _ _ h => h) (fun HQP => ?_)
            have HCC := HCAR.out w1.drew (.inl (Below.refl _ _).drew)
            refine ntakeW 0 rfl rfl (by kernel_rfl) (by kernel_rfl) (by kernel_rfl) (by kernel_rfl) (fun _ _ _ h => HQP _ _ _ _ _ h) (by kernel_rfl) HCC (fun w' hw' => by go_simp; rfl) ?_
            refine ntakeW 1 rfl rfl (by kernel_rfl) (by kernel_rfl) (by kernel_rfl) (by kernel_rfl) (fun _ _ _ h => HQP _ _ _ _ _ h) (by kernel_rfl) HCC (fun w' hw' => by obtain ⟨q0, q1, q2, q3, q4⟩ := hw'; go_simp; rfl) ?_
            refine ntakeW 3 rfl rfl (by kernel_rfl) (by kernel_rfl) (by kernel_rfl) (by kernel_rfl) (fun _ _ _ h => HQP _ _ _ _ _ h) (by kernel_rfl) HCC (fun w' hw' => by go_simp; rfl) ?_
            refine ntakeW 4 rfl rfl (by kernel_rfl) (by kernel_rfl) (by kernel_rfl) (by kernel_rfl) (fun _ _ _ h => HQP _ _ _ _ _ h) (by kernel_rfl) HCC (fun w' hw' => by go_simp; rfl) ?_
            refine ntakeW 5 rfl rfl (by kernel_rfl) (by kernel_rfl) (by kernel_rfl) (by kernel_rfl) (fun _ _ _ h => HQP _ _ _ _ _ h) (by kernel_rfl) HCC (fun w' hw' => by obtain ⟨q0, q1, q2, q3, q4⟩ := hw'; go_simp; rfl) ?_
            clear HCC
            refine nonly 2 (by kernel_rfl) rfl (by kernel_rfl) (fun KK hK => ?_)
            go_simp
            refine HP.out.mono ?_
            rintro e w2 ⟨rfl, mb2, loc2, hI2, hf2, hft2⟩
            have hf2' : Fr (SFr W.heap.size mb loc K) w1 w2 := (Fr.refl _ w1).drew.trans hf2
            have hrs2 := HM1.out.rs.fr hf2' (fun b hb1 hb2 => HM1.out.apart hb1 hb2)
            have hx2 := hf2'.blk HX1.out (HM1.out.st.notBlk HX1.out (by decide) (by decide))
            have HB2 := Lib.hid (HM1.out.belowSt HB1.out hf2')
            have HX2 := Lib.hid hx2; clear hx2
            have HI2 := Lib.hid hI2; clear hI2 hf2 hf2' hft2 HP
            have HRS2 := Lib.hid hrs2; clear hrs2
            have HCC := HCAR.out w2 (.inr HX2.out)
            go_simp
            refine hK _ _ (fun _ => HCC) ?_
            clear hK KK
            have HRP := Lib.hid (rtrim_any W.heap.size (W.heap.size + 1) V l low tt w2 HRS2.out (by have := HM1.out.len; omega))
            clear HCC
            refine nonly 6 (by kernel_rfl) rfl (by kernel_rfl) (fun KK hK => ?_)
            go_simp
            refine HRP.out.mono ?_
            rintro e w3 ⟨rfl, V3, hrs3, hf3, hft3⟩
            have hx3 := hf3.blk HX2.out (HRS2.out.notBlk HX2.out (by decide) (by decide))
            have hI3 := HI2.out.fr hf3 (fun b hb1 hb2 => by
              obtain ⟨t, cs, hbk, e1, e2⟩ := HRS2.out.blks hb2
              exact HI2.out.notBlk hbk e1 e2 hb1)
            have HB3 := Lib.hid (MpI.belowRs HRS2.out HB2.out hf3)
            rw [HL3.out] at hrs3
            have hM3 : MpI w3 W.heap.size (i + 1) W.heap.size (W.heap.size + 1) mb2 loc2 (trimS K low tt).2.1 V3 (rtrimS l low tt).2.1 (trimS K low tt).2.2 := ⟨hI3.more (by omega), hrs3, HL2.out, by
              have := HM1.out.len
              unfold rtrimS
              split
              · simp only; omega
              · split
                · simp only; omega
                · have h5 := List.length_filter_le (fun v => !followsR l tt v && !(v.g && decide (v.t ≤ tt))) l
                  simp only
                  unfold trimR
                  omega⟩
            have HX3 := Lib.hid hx3; clear hx3
            have HM3 := Lib.hid hM3; clear hM3 hI3 hrs3 hf3 hft3 HRP
            have HCC := HCAR.out w3 (.inr HX3.out)
            rw [HL1.out]
            go_simp
            refine hK _ _ (fun _ => HCC) ?_
            clear hK KK
            generalize (trimS K low tt).1 = er at *
            have hbare : Calls Tryd.prog 13 #[erV er, .int .i64 er] w3 _ := bare_any er er w3 (HLD.out.below HB3.out HLD.out.pos)
            have HBA := Lib.hid hbare; clear hbare
            refine nonly 7 (by kernel_rfl) rfl (by kernel_rfl) (fun KK hK => ?_)
            go_simp
            refine HBA.out.mono ?_
            rintro e w4 ⟨rfl, hb4⟩
            have hfin : MpS W (i + 1) w4 ∧ Blk w4 hb 52 #[.int .i64 what, .int .i64 tt, .string key, .string val, .bool gone] := ⟨⟨_, _, _, _, _, _, HM3.out.tall hb4, HB3.out.trans (hb4.mono HB3.out.size)⟩, HX3.out.below hb4 HX3.out.lt⟩
            have HF := Lib.hid hfin; clear hfin hb4 HCC HBA
            have HCC := HCAR.out w4 (.inr HF.out.2)
            go_simp
            refine hK _ _ (fun _ => HCC) ?_
            clear hK KK
            refine nonly 8 (by kernel_rfl) rfl (by kernel_rfl) (fun KK hK => ?_)
            go_simp
            refine hK _ _ (fun _ => HCC) ?_
            clear hK KK
            refine ndone (by kernel_rfl) ?_ _
            clear HQP HCC
            go_wp2_with fail
            go_meet
            exact HF.out
            --}trim
          · --{none
            have d1 : (what == 1) = false := by simpa using e1
            clear e1 e0
            have hfin : MpS W (i + 1) w1 ∧ Blk w1 hb 52 #[.int .i64 what, .int .i64 tt, .string key, .string val, .bool gone] := ⟨⟨_, _, _, _, _, _, ⟨HM1.out.st.more (by omega), HM1.out.rs, HM1.out.law, by have := HM1.out.len; omega⟩, HB1.out⟩, HX1.out⟩
            have HF := Lib.hid hfin; clear hfin
            go_wp2_with fail
            go_meet
            exact HF.out
            --}none
      case rest =>
        --{tail
        obtain ⟨⟨mb2, loc2, K2, V2, l2, low2, hM2, hB2⟩, hx2⟩ := hcut
        clear HM1 HX1 HB1 HCAR kl
        rename World => w2
        have hn2 : i + 1 ≤ 100000 := by omega
        have k1 := hx2.cell 1
        have k2 := hx2.cell 2
        have kl := hx2.lt
        simp only [List.getElem?_toArray, List.getElem?_cons_zero, List.getElem?_cons_succ] at k1 k2
        have HG := Lib.hid (rget_uni hM2 key tt hn2)
        have HM2 := Lib.hid hM2; clear hM2
        have HB2 := Lib.hid hB2; clear hB2
        have HX2 := Lib.hid hx2; clear hx2
        go_wp2_with fail
        refine HG.out.mono ?_
        rintro e w3 ⟨rfl, hb3⟩
        clear HG k1 k2 kl
        have hM3 := HM2.out.tall hb3
        have hx3 := HX2.out.below hb3 HX2.out.lt
        have k1 := hx3.cell 1
        have k2 := hx3.cell 2
        have kl := hx3.lt
        simp only [List.getElem?_toArray, List.getElem?_cons_zero, List.getElem?_cons_succ] at k1 k2
        have HG := Lib.hid (get_uni hM3 key tt htm HKY.out hn2)
        have HM3 := Lib.hid hM3; clear hM3
        have HX3 := Lib.hid hx3; clear hx3
        have HB3 := Lib.hid (HB2.out.trans (hb3.mono HB2.out.size)); clear hb3
        go_wp2_with fail
        refine HG.out.mono ?_
        rintro e w4 ⟨rfl, hb4⟩
        clear HG k1 k2 kl
        have hM4 := HM3.out.tall hb4
        have hx4 := HX3.out.below hb4 HX3.out.lt
        have k1 := hx4.cell 1
        have kl := hx4.lt
        simp only [List.getElem?_toArray, List.getElem?_cons_zero, List.getElem?_cons_succ] at k1
        have HG := Lib.hid (rat_uni hM4 tt hn2)
        have HM4 := Lib.hid hM4; clear hM4
        have HX4 := Lib.hid hx4; clear hx4
        have HB4 := Lib.hid (HB3.out.trans (hb4.mono HB3.out.size)); clear hb4
        go_wp2_with fail
        refine HG.out.mono ?_
        rintro e w5 ⟨A5, c5, rfl, hrow5, hb5⟩
        clear HG k1 kl
        have hM5 := HM4.out.tall hb5
        have hx5 := HX4.out.below hb5 HX4.out.lt
        have k1 := hx5.cell 1
        have kl := hx5.lt
        simp only [List.getElem?_toArray, List.getElem?_cons_zero, List.getElem?_cons_succ] at k1
        have HG := Lib.hid (at_uni hM5 tt htm hn2)
        have HM5 := Lib.hid hM5; clear hM5
        have HX5 := Lib.hid hx5; clear hx5
        have HROW5 := Lib.hid hrow5; clear hrow5
        have HB5 := Lib.hid (HB4.out.trans (hb5.mono HB4.out.size)); clear hb5
        go_wp2_with fail
        refine HG.out.mono ?_
        rintro e w6 ⟨A6, c6, rfl, hrow6, hb6⟩
        clear HG k1 kl
        have hM6 := HM5.out.tall hb6
        have HROW5' := Lib.hid (own_belowV HROW5.out hb6)
        have HROW6 := Lib.hid hrow6; clear hrow6
        have HB6 := Lib.hid (HB5.out.trans (hb6.mono HB5.out.size)); clear hb6
        have HM6 := Lib.hid hM6; clear hM6
        have hpl : (atRR l2 low2 tt).1.length ≤ 1000000000 := by have := atRR_len l2 low2 tt; have := HM6.out.len; omega
        generalize hge : geR l2 low2 (sx key) tt = ge at *
        generalize hat : atRR l2 low2 tt = at_ at *
        clear hge hat
        obtain ⟨⟨gs, gf⟩, ger⟩ := ge
        obtain ⟨P, aer⟩ := at_
        simp only at *
        obtain ⟨AV, cV, hVV, _, _⟩ := own_slice HM6.out.rs.row
        have hcar : ∀ W', Below w6.heap.size w6 W' → W'.cell? ⟨W.heap.size + 1, 0, none⟩ = some (.slice AV l2.length cV) ∧ W'.cell? ⟨W.heap.size + 1, 1, none⟩ = some (.int .i64 low2) := fun W' hW => by
          have hk := HM6.out.rs.blk.below hW HM6.out.rs.blk.lt
          have k0 := hk.cell 0
          have k1 := hk.cell 1
          simp only [List.getElem?_toArray, List.getElem?_cons_zero, List.getElem?_cons_succ] at k0 k1
          rw [hVV] at k0
          exact ⟨k0, k1⟩
        have HCAR := Lib.hid hcar; clear hcar hVV
        have hlen2 : l2.length ≤ 100000 := by have := HM6.out.len; omega
        have hbare1 : Calls Tryd.prog 13 #[erV ger, .int .i64 ger] w6.drew _ := bare_any ger ger w6.drew (HLD.out.below HB6.out.drew HLD.out.pos)
        have HBA1 := Lib.hid hbare1; clear hbare1
        go_wp2_with fail
        refine wp_region_any (by kernel_rfl) ?_
        change wpAny _ _ _ _ _ _ _ (World.drew _)
        refine nplainQ (fun w' => w'.cell? ⟨W.heap.size + 1, 0, none⟩ = some (.slice AV l2.length cV) ∧ w'.cell? ⟨W.heap.size + 1, 1, none⟩ = some (.int .i64 low2)) 44 (fun _ _ _ _ _ h => h) (fun HQP => ?_)
        have HCC := HCAR.out w6.drew (Below.refl _ _).drew
        refine ntakeW 0 rfl rfl (by kernel_rfl) (by kernel_rfl) (by kernel_rfl) (by kernel_rfl) (fun _ _ _ h => HQP _ _ _ _ _ h) (by kernel_rfl) HCC (fun w' hw' => by go_simp; rfl) ?_
        refine ntakeW 1 rfl rfl (by kernel_rfl) (by kernel_rfl) (by kernel_rfl) (by kernel_rfl) (fun _ _ _ h => HQP _ _ _ _ _ h) (by kernel_rfl) HCC (fun w' hw' => by go_simp; rfl) ?_
        refine nonly 2 (by kernel_rfl) rfl (by kernel_rfl) (fun KK hK => ?_)
        go_simp
        refine HBA1.out.mono ?_
        rintro e w7 ⟨rfl, hb7⟩
        have HB7 := Lib.hid (show Below w6.heap.size w6 w7 from (Below.refl _ _).drew.trans hb7); clear hb7 HCC HBA1
        have HCC := HCAR.out w7 HB7.out
        go_simp
        refine hK _ _ (fun _ => HCC) ?_
        clear hK KK
        refine nonly 3 (by kernel_rfl) rfl (by kernel_rfl) (fun KK hK => ?_)
        go_simp
        refine hK _ _ (fun _ => HCC) ?_
        clear hK KK
        refine nonly 4 (by kernel_rfl) rfl (by kernel_rfl) (fun KK hK => ?_)
        go_simp
        refine hK _ _ (fun _ => HCC) ?_
        clear hK KK
        refine ntakeW 5 rfl rfl (by kernel_rfl) (by kernel_rfl) (by kernel_rfl) (by kernel_rfl) (fun _ _ _ h => HQP _ _ _ _ _ h) (by kernel_rfl) HCC (fun w' hw' => by go_simp; rfl) ?_
        refine ntakeW 6 rfl rfl (by kernel_rfl) (by kernel_rfl) (by kernel_rfl) (by kernel_rfl) (fun _ _ _ h => HQP _ _ _ _ _ h) (by kernel_rfl) HCC (fun w' hw' => by go_simp; rfl) ?_
        refine nonly 7 (by kernel_rfl) rfl (by kernel_rfl) (fun KK hK => ?_)
        go_simp
        refine hK _ _ (fun _ => HCC) ?_
        clear hK KK
        refine nonly 8 (by kernel_rfl) rfl (by kernel_rfl) (fun KK hK => ?_)
        go_simp
        refine hK _ _ (fun _ => HCC) ?_
        clear hK KK
        refine nonly 9 (by kernel_rfl) rfl (by kernel_rfl) (fun KK hK => ?_)
        go_simp
        refine hK _ _ (fun _ => HCC) ?_
        clear hK KK
        refine ntakeW 10 rfl rfl (by kernel_rfl) (by kernel_rfl) (by kernel_rfl) (by kernel_rfl) (fun _ _ _ h => HQP _ _ _ _ _ h) (by kernel_rfl) HCC (fun w' hw' => by go_simp; rfl) ?_
        refine ntakeW 11 rfl rfl (by kernel_rfl) (by kernel_rfl) (by kernel_rfl) (by kernel_rfl) (fun _ _ _ h => HQP _ _ _ _ _ h) (by kernel_rfl) HCC (fun w' hw' => by go_simp; rfl) ?_
        refine nonly 12 (by kernel_rfl) rfl (by kernel_rfl) (fun KK hK => ?_)
        go_simp
        refine hK _ _ (fun _ => HCC) ?_
        clear hK KK
        refine nonly 13 (by kernel_rfl) rfl (by kernel_rfl) (fun KK hK => ?_)
        go_simp
        refine hK _ _ (fun _ => HCC) ?_
        clear hK KK
        refine nonly 14 (by kernel_rfl) rfl (by kernel_rfl) (fun KK hK => ?_)
        go_simp
        refine hK _ _ (fun _ => HCC) ?_
        clear hK KK
        refine ntakeW 15 rfl rfl (by kernel_rfl) (by kernel_rfl) (by kernel_rfl) (by kernel_rfl) (fun _ _ _ h => HQP _ _ _ _ _ h) (by kernel_rfl) HCC (fun w' hw' => by go_simp; rfl) ?_
        refine ntakeW 16 rfl rfl (by kernel_rfl) (by kernel_rfl) (by kernel_rfl) (by kernel_rfl) (fun _ _ _ h => HQP _ _ _ _ _ h) (by kernel_rfl) HCC (fun w' hw' => by go_simp; rfl) ?_
        have hbare2 : Calls Tryd.prog 13 #[erV aer, .int .i64 aer] w7 _ := bare_any aer aer w7 (HLD.out.below (HB6.out.trans (HB7.out.mono HB6.out.size)) HLD.out.pos)
        have HBA2 := Lib.hid hbare2; clear hbare2
        refine nonly 17 (by kernel_rfl) rfl (by kernel_rfl) (fun KK hK => ?_)
        go_simp
        refine HBA2.out.mono ?_
        rintro e w8 ⟨rfl, hb8⟩
        have HB8 := Lib.hid (HB7.out.trans (hb8.mono HB7.out.size)); clear hb8 HCC HBA2
        have HCC := HCAR.out w8 HB8.out
        go_simp
        refine hK _ _ (fun _ => HCC) ?_
        clear hK KK
        refine nonly 18 (by kernel_rfl) rfl (by kernel_rfl) (fun KK hK => ?_)
        go_simp
        refine hK _ _ (fun _ => HCC) ?_
        clear hK KK
        refine nonly 19 (by kernel_rfl) rfl (by kernel_rfl) (fun KK hK => ?_)
        go_simp
        refine hK _ _ (fun _ => HCC) ?_
        clear hK KK
        refine nonly 20 (by kernel_rfl) rfl (by kernel_rfl) (fun KK hK => ?_)
        go_simp
        refine hK _ _ (fun _ => HCC) ?_
        clear hK KK
        refine ntakeW 21 rfl rfl (by kernel_rfl) (by kernel_rfl) (by kernel_rfl) (by kernel_rfl) (fun _ _ _ h => HQP _ _ _ _ _ h) (by kernel_rfl) HCC (fun w' hw' => by go_simp; rfl) ?_
        refine ntakeW 23 rfl rfl (by kernel_rfl) (by kernel_rfl) (by kernel_rfl) (by kernel_rfl) (fun _ _ _ h => HQP _ _ _ _ _ h) (by kernel_rfl) HCC (fun w' hw' => by go_simp; rfl) ?_
        refine ntakeW 22 rfl rfl (by kernel_rfl) (by kernel_rfl) (by kernel_rfl) (by kernel_rfl) (fun _ _ _ h => HQP _ _ _ _ _ h) (by kernel_rfl) HCC (fun w' hw' => by go_simp; rfl) ?_
        refine ntakeW 24 rfl rfl (by kernel_rfl) (by kernel_rfl) (by kernel_rfl) (by kernel_rfl) (fun _ _ _ h => HQP _ _ _ _ _ h) (by kernel_rfl) HCC (fun w' hw' => by go_simp; rfl) ?_
        refine nonly 25 (by kernel_rfl) rfl (by kernel_rfl) (fun KK hK => ?_)
        go_simp
        refine hK _ _ (fun _ => HCC) ?_
        clear hK KK
        refine nonly 26 (by kernel_rfl) rfl (by kernel_rfl) (fun KK hK => ?_)
        go_simp
        refine hK _ _ (fun _ => HCC) ?_
        clear hK KK
        refine nonly 27 (by kernel_rfl) rfl (by kernel_rfl) (fun KK hK => ?_)
        go_simp
        refine hK _ _ (fun _ => HCC) ?_
        clear hK KK
        refine ntakeW 29 rfl rfl (by kernel_rfl) (by kernel_rfl) (by kernel_rfl) (by kernel_rfl) (fun _ _ _ h => HQP _ _ _ _ _ h) (by kernel_rfl) HCC (fun w' hw' => by go_simp; rfl) ?_
        refine ntakeW 30 rfl rfl (by kernel_rfl) (by kernel_rfl) (by kernel_rfl) (by kernel_rfl) (fun _ _ _ h => HQP _ _ _ _ _ h) (by kernel_rfl) HCC (fun w' hw' => by go_simp; rfl) ?_
        refine ntakeW 31 rfl rfl (by kernel_rfl) (by kernel_rfl) (by kernel_rfl) (by kernel_rfl) (fun _ _ _ h => HQP _ _ _ _ _ h) (by kernel_rfl) HCC (fun w' hw' => by go_simp; rfl) ?_
        refine ntakeW 32 rfl rfl (by kernel_rfl) (by kernel_rfl) (by kernel_rfl) (by kernel_rfl) (fun _ _ _ h => HQP _ _ _ _ _ h) (by kernel_rfl) HCC (fun w' hw' => by obtain ⟨q0, q1⟩ := hw'; go_simp; rfl) ?_
        have HLO := Lib.hid (low_any W.heap.size (i + 1) W.heap.size mb2 loc2 K2 low2 w8 (HM6.out.tall HB8.out).st)
        refine nonly 28 (by kernel_rfl) rfl (by kernel_rfl) (fun KK hK => ?_)
        go_simp
        refine HLO.out.mono ?_
        rintro e w9 ⟨rfl, rfl⟩
        clear HLO
        go_simp
        refine hK _ _ (fun _ => HCC) ?_
        clear hK KK
        refine nonly 33 (by kernel_rfl) rfl (by kernel_rfl) (fun KK hK => ?_)
        go_simp
        refine hK _ _ (fun _ => HCC) ?_
        clear hK KK
        refine nonly 34 (by kernel_rfl) rfl (by kernel_rfl) (fun KK hK => ?_)
        go_simp
        refine hK _ _ (fun _ => HCC) ?_
        clear hK KK
        refine nonly 35 (by kernel_rfl) rfl (by kernel_rfl) (fun KK hK => ?_)
        go_simp
        refine hK _ _ (fun _ => HCC) ?_
        clear hK KK
        refine ntakeW 37 rfl rfl (by kernel_rfl) (by kernel_rfl) (by kernel_rfl) (by kernel_rfl) (fun _ _ _ h => HQP _ _ _ _ _ h) (by kernel_rfl) HCC (fun w' hw' => by go_simp; rfl) ?_
        refine ntakeW 38 rfl rfl (by kernel_rfl) (by kernel_rfl) (by kernel_rfl) (by kernel_rfl) (fun _ _ _ h => HQP _ _ _ _ _ h) (by kernel_rfl) HCC (fun w' hw' => by go_simp; rfl) ?_
        refine ntakeW 39 rfl rfl (by kernel_rfl) (by kernel_rfl) (by kernel_rfl) (by kernel_rfl) (fun _ _ _ h => HQP _ _ _ _ _ h) (by kernel_rfl) HCC (fun w' hw' => by go_simp; rfl) ?_
        refine ntakeW 40 rfl rfl (by kernel_rfl) (by kernel_rfl) (by kernel_rfl) (by kernel_rfl) (fun _ _ _ h => HQP _ _ _ _ _ h) (by kernel_rfl) HCC (fun w' hw' => by obtain ⟨q0, q1⟩ := hw'; go_simp; rfl) ?_
        refine ntakeW 41 rfl rfl (by kernel_rfl) (by kernel_rfl) (by kernel_rfl) (by kernel_rfl) (fun _ _ _ h => HQP _ _ _ _ _ h) (by kernel_rfl) HCC (fun w' hw' => by go_simp; rfl) ?_
        have HMA := Lib.hid (many_uni (HM6.out.tall HB8.out) hn2)
        refine nonly 36 (by kernel_rfl) rfl (by kernel_rfl) (fun KK hK => ?_)
        go_simp
        refine HMA.out.mono ?_
        rintro e w10 ⟨rfl, hb10⟩
        have HB10 := Lib.hid (HB8.out.trans (hb10.mono HB8.out.size)); clear hb10 HCC HMA
        have HCC := HCAR.out w10 HB10.out
        go_simp
        refine hK _ _ (fun _ => HCC) ?_
        clear hK KK
        refine nonly 42 (by kernel_rfl) rfl (by kernel_rfl) (fun KK hK => ?_)
        go_simp
        refine hK _ _ (fun _ => HCC) ?_
        clear hK KK
        refine nonly 43 (by kernel_rfl) rfl (by kernel_rfl) (fun KK hK => ?_)
        go_simp
        refine hK _ _ (fun _ => HCC) ?_
        clear hK KK
        refine ndone (by kernel_rfl) ?_ _
        clear HQP HCC
        have HRD5 := Lib.hid (Rd.of_own HROW5'.out)
        have HRD6 := Lib.hid (Rd.of_own HROW6.out)
        go_wp2_with fail
        go_loopw [17] (CmRel P.length w10) (fun v _ => P.length - (intOf v).toNat)
        case atStart => exact ⟨0, rfl, Nat.zero_le _, Below.refl _ _⟩
        case round =>
          rename World => wq
          obtain ⟨k, rfl, hk, hbq⟩ := hrel
          have hb6q := HB10.out.trans (hbq.mono HB10.out.size)
          by_cases hltk : (k : Int) < P.length
          · obtain ⟨g5, o5, p5, hA5, hg5, hp5, r0, r1, r2⟩ := (HRD5.out.below hb6q).cellsPr rfl (j := k) (by omega)
            obtain ⟨g6, o6, p6, hA6, hg6, hp6, s0, s1, s2⟩ := (HRD6.out.below hb6q).cellsPr rfl (j := k) (by omega)
            rw [hp5] at hp6
            obtain rfl : p5 = p6 := Option.some.inj hp6
            subst hA5 hA6
            have hz := hb6q.size
            have hgl5 : g5 < wq.heap.size := by omega
            have hgl6 : g6 < wq.heap.size := by omega
            have HBQ := Lib.hid hbq; clear hbq hb6q hp5 hp6 hz
            have heq := fun W => eqPair ⟨p5.1.toArray⟩ ⟨p5.2.toArray⟩ ⟨p5.1.toArray⟩ ⟨p5.2.toArray⟩ false false W
            simp only [beq_self_eq_true, Bool.and_self] at heq
            go_wp2_with fail
            go_quiet (fail)
            go_wp2_with fail
            go_roundw
            case rel => exact ⟨k + 1, rfl, by omega, ⟨HBQ.out.os, HBQ.out.tape, HBQ.out.output, HBQ.out.size, HBQ.out.block⟩⟩
            case measure => simp [intOf]; omega
          · have hfin : MpRel W n (.int .i64 ((i + 1 : Nat) : Int)) wq := ⟨i + 1, rfl, by omega, _, _, _, _, _, _, HM6.out.tall hb6q, HB6.out.trans (hb6q.mono HB6.out.size)⟩
            have HF := Lib.hid hfin; clear hfin hbq hb6q
            go_wp2_with fail
            go_roundw
            case rel => exact HF.out
            case measure => simp [intOf]; omega
        --}tail
      --}round
    · have HBB := Lib.hid hB; clear hB hM
      go_wp2_with fail
      go_ret
      exact ⟨rfl, HBB.out⟩
end Go.Proofs.YtmgpdkecpobcaaaDoor
