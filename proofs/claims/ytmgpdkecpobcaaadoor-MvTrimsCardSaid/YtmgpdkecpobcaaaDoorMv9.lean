/- mv: Trim, the way that trims. -/
import Derived.Test.YtmgpdkecpobcaaaDoorMv8
namespace Go.Proofs.YtmgpdkecpobcaaaDoor
open Go.RowKit
/-- Under way: those that are left are as they were, the others are trimmed. -/
def TrRel (base n g b : Nat) (loc : Sx → Value) (K : Kp) (tm : Int) (w : World) (r : Nat) (wr : World) : Prop :=
  ∃ (left : ByteArray → Bool) (cnt : Nat) (loc' : Sx → Value) (K' : Kp), RangeG kV wr b r n (vmap loc' K') left cnt ∧ StI wr base n g (some b) loc' K' tm ∧ (∀ x, K' x = if left (bx x) then K x else trimV tm (K x)) ∧
    Fr (SFr g (some b) loc K) w wr ∧ (∀ q, SFr g (some b) loc' K' q → SFr g (some b) loc K q ∨ w.heap.size ≤ q) ∧ w.heap.size ≤ r
def InRel (tm : Int) (l : List Vx) (w1 : World) (v7 : Value) (wr : World) : Prop := ∃ k : Nat, v7 = .int .i64 k ∧ k < l.length ∧ (∀ j (h : j < l.length), 0 < j → j ≤ k → l[j].t ≤ tm) ∧ wr = w1
section
variable {wr w1 : World} {base n g b r cnt : Nat} {loc' : Sx → Value} {K' : Kp} {tm : Int} {left : ByteArray → Bool}
theorem range_notFoot (hrg : RangeG kV wr b r n (vmap loc' K') left cnt) (hI : StI wr base n g (some b) loc' K' tm) {q : Nat} (hq : SFr g (some b) loc' K' q) : ¬ q = r := by
  rintro rfl
  rcases hq with hq | hq | ⟨x, hx, hq⟩
  · exact hrg.notBlk hI.blk hq
  · injection hq with hq; exact hrg.ne hq.symm
  · obtain ⟨_, _, cs, hk⟩ := (hI.rows x hx).block hq
    exact hrg.notBlk hk rfl
end
/-- What of a key's versions is left: from the q-th on. -/
def CutRel (l : List Vx) (tm : Int) (g1 o1 : Nat) (v6 : Value) : Prop := ∃ o2 c2 q, v6 = .slice (some ⟨g1, o2, none⟩) (trimV tm l).length c2 ∧ (trimV tm l).length ≤ c2 ∧ trimV tm l = l.drop q ∧ (0 < (trimV tm l).length → o2 = o1 + q * 3 ∧ q < l.length)
theorem tr_keys {K K' : Kp} {left : ByteArray → Bool} {o : ByteArray} {tm : Int} (inst : ∀ y, Decidable (y = o)) (hK : ∀ x, K' x = if left (bx x) then K x else trimV tm (K x)) (hl : left o = true) (x : Sx) :
    putK K' (sx o) (trimV tm (K (sx o))) x = if (left (bx x) && !@decide (bx x = o) (inst _)) then K x else trimV tm (K x) := by
  unfold putK
  by_cases e : x = sx o
  · subst e
    rw [if_pos rfl, bx_sx]
    simp
  · have hne : bx x ≠ o := fun e2 => e (by rw [← e2, sx_bx])
    rw [if_neg e, hK x]
    simp [hne]
set_option maxRecDepth 100000 in
set_option maxHeartbeats 16000000 in
theorem trim_some (base n g b : Nat) (loc : Sx → Value) (K : Kp) (low tm : Int) (w : World) (hI : StI w base n g (some b) loc K low) (h : ¬ tm < low) (h2 : ¬ 1099511627776 < tm) (hn : n ≤ 100000) : Calls Tryd.prog 9 #[.pointer (some ⟨g, 0, none⟩), .int .i64 tm] w (TrPost base n g (some b) loc K low tm w) := by
  have hI1 := hI.setLow (tm := tm) (by have := hI.low0; omega) (by omega)
  have hM1 : MapG kV (w.setCell ⟨g, 1, none⟩ (.int .i64 tm)) b n (vmap loc K) := hI1.map
  have hsz : (w.setCell ⟨g, 1, none⟩ (.int .i64 tm)).heap.size = w.heap.size := by simp [World.setCell]
  have hf1 : Fr (SFr g (some b) loc K) w (w.setCell ⟨g, 1, none⟩ (.int .i64 tm)) := (Fr.set1 g w 1 _).mono (fun i _ e => .inl e)
  have c0 := hI1.blk.cell 0
  have hgl1 := hI1.blk.lt
  have c1 := hI.blk.cell 1
  have f1 := hI.blk.frozen 1
  have hgl := hI.blk.lt
  simp only [List.getElem?_toArray, List.getElem?_cons_zero, List.getElem?_cons_succ] at c0 c1
  have d1 : decide (tm < low) = false := decide_eq_false h
  have d2 : decide (tm > 1099511627776) = false := decide_eq_false h2
  have HPO := Lib.hid (show ∀ (w' : World), StP base n g (some b) loc K (fun x => trimV tm (K x)) tm w w' → TrPost base n g (some b) loc K low tm w (.returned .nilIface) w' from fun w' hp => by
    unfold TrPost trimS
    rw [if_neg h, if_neg h2]
    exact ⟨rfl, hp⟩)
  have hsm := hI.small
  have HSM := Lib.hid hsm; clear hsm
  have HI1 := Lib.hid hI1; clear hI1 hI h h2
  have HM1 := Lib.hid hM1; clear hM1
  have HF1 := Lib.hid hf1; clear hf1
  go_enter Tryd.func9, Tryd.ntmps9
  go_wp2_with (at_range; refine stop ?_)
  refine back ?_
  clear c1 f1 hgl d1 d2
  generalize w.setCell ⟨g, 1, none⟩ (.int .i64 tm) = w1 at *
  refine wpList_rangeG rfl _ 23 63 rfl Tryd.underlying23 rfl HM1.out ?_
  intro w2 cnt2 hrg2 hf2 hs2
  have hst : TrRel base n g b loc K tm w w1.heap.size w2 := by
    refine ⟨_, cnt2, loc, K, hrg2, HI1.out.fr hf2 (fun _ _ h => h), fun x => ?_, HF1.out.trans' hf2 (fun _ _ h => h.elim), fun q hq => .inl hq, HF1.out.size⟩
    unfold vmap
    rw [sx_bx]
    rcases e : K x with _ | ⟨a, l⟩
    · rfl
    · rfl
  have HST := Lib.hid hst; clear hst hrg2 hf2 hs2
  clear c0 hgl1 hsz
  generalize w1.heap.size = r at *
  go_wp2_with fail
  go_frame
  go_loopw [7] (fun _ wr => TrRel base n g b loc K tm w r wr) (fun _ wr => wr.rangeLeft b r)
  case atStart => exact HST.out
  case round =>
    clear HST
    obtain ⟨left, cnt, loc', K', hrg, hIr, hK, hfr, hft, hrw⟩ := hrel
    have HRG := Lib.hid hrg; clear hrg
    have HIR := Lib.hid hIr; clear hIr
    have HK := Lib.hid hK; clear hK
    have HFR := Lib.hid hfr; clear hfr
    have HFT := Lib.hid hft; clear hft
    go_wp2_with (at_next; refine wpList_nextG rfl _ rfl rfl HRG.out ?_ ?_)
    · --{done
      intro hl0
      have hfin : StP base n g (some b) loc K (fun x => trimV tm (K x)) tm w wr := by
        have hKe : K' = fun x => trimV tm (K x) := by
          funext x
          rw [HK.out x]
          rcases e : K x with _ | ⟨a, l⟩
          · split <;> rfl
          · rw [if_neg]
            rw [hl0 (bx x) (by
              have := HSM.out x (by rw [e]; simp)
              show (bx x).size ≤ maxLen
              rw [size_sx, sx_bx]; unfold maxLen; omega)]
            decide
        rw [← hKe]
        exact ⟨some b, loc', HIR.out, HFR.out, HFT.out⟩
      have HF := Lib.hid (HPO.out _ hfin); clear hfin
      go_wp2_with fail
      go_ret
      exact HF.out
      --}done
    · --{key
      intro o v w3 cnt3 hox hlx hmx hrg3 hlt hf3 hs3 hen
      obtain ⟨hKo, rfl⟩ := vmap_some hmx
      have hKoe : K' (sx o) = K (sx o) := by rw [HK.out (sx o), if_pos (by rw [bx_sx]; exact hlx)]
      have hl0 : 0 < (K' (sx o)).length := List.length_pos_iff.2 hKo
      have hI3 := HIR.out.fr hf3 (fun q hq e => range_notFoot HRG.out HIR.out hq e)
      have hos : (sx o).length ≤ 20 := hI3.small _ hKo
      obtain ⟨g1, o1, c, hV, hc⟩ := (hI3.rows _ hKo).some hl0
      have hrow : VRow w3 base (.slice (some ⟨g1, o1, none⟩) (K' (sx o)).length c) (K' (sx o)) := hV ▸ hI3.rows _ hKo
      have hown : ∀ q, (loc' (sx o)).ownBlock = some q ↔ q = g1 := fun q => by rw [hV]; exact ⟨fun e => by injection e with e; exact e.symm, fun e => by rw [e]; rfl⟩
      have hlen := Nat.le_trans (hI3.len (sx o)) hn
      have hfr3 : Fr (SFr g (some b) loc K) w w3 := HFR.out.trans' hf3 (fun i hi (e : i = r) => by omega)
      have hms : ∀ (W : World) (c' : Nat) (m' : ByteArray → Option Value) (lf : ByteArray → Bool), RangeG kV W b r n m' lf c' → c' ≤ cnt3 → W.rangeLeft b r < wr.rangeLeft b r := fun W c' m' lf hR hc' => by
        rw [hR.left_eq, HRG.out.left_eq]; omega
      rw [hV] at hen ⊢
      rw [show kV.val o = Value.string o from rfl] at hen ⊢
      have HMS := Lib.hid hms; clear hms hlt hs3
      have HRG3 := Lib.hid hrg3; clear hrg3
      have HI3 := Lib.hid hI3; clear hI3 hf3
      have HROW := Lib.hid hrow; clear hrow
      have HOWN := Lib.hid hown; clear hown
      have HFR3 := Lib.hid hfr3; clear hfr3
      have HV := Lib.hid hV; clear hV hmx
      have HKO := Lib.hid hKo; clear hKo
      have HKE := Lib.hid hKoe; clear hKoe
      have HLX := Lib.hid hlx; clear hlx
      have HRD := Lib.hid HROW.out.rd
      generalize hl : K' (sx o) = l at *
      go_upto_block 2 with (fail)
      go_cut [7] (fun s7 wx => s7 = .int .i64 (trimN tm l : Nat) ∧ wx = w3)
      case first =>
        --{n
        go_wp2_with fail
        go_loopw [7] (InRel tm l w3) (fun v _ => l.length - (intOf v).toNat)
        case atStart => exact ⟨0, rfl, hl0, fun j h h0 h1 => by omega, rfl⟩
        case round =>
          obtain ⟨k, rfl, hk, hpre, rfl⟩ := hrel
          by_cases hk1 : (k : Int) + 1 < l.length
          · obtain ⟨g', o', a, hA, hga, hx, h0, h1, h2⟩ := HRD.out.cellsV rfl (j := k + 1) (by omega)
            injection hA with hA
            injection hA with hA1 hA2
            subst hA1 hA2
            obtain ⟨_, hxe⟩ := List.getElem?_eq_some_iff.1 hx
            by_cases ht : a.t ≤ tm
            · have hfin : InRel tm l wr (.int .i64 ((k + 1 : Nat) : Int)) wr := ⟨k + 1, rfl, by omega, fun j h h0 hj => by
                rcases Nat.lt_or_eq_of_le hj with hj | rfl
                · exact hpre j h h0 (by omega)
                · rw [hxe]; exact ht, rfl⟩
              have HF := Lib.hid hfin; clear hfin hpre hx hxe
              have dt : decide (a.t ≤ tm) = true := decide_eq_true ht
              clear h1 h2
              go_wp2_with fail
              go_roundw
              case rel => exact HF.out
              case measure => simp [intOf]; omega
            · have hN := trimN_eq (tm := tm) hk hpre (fun h => by rw [hxe]; exact ht)
              have HN := Lib.hid hN; clear hN hpre hx hxe
              have dt : decide (a.t ≤ tm) = false := decide_eq_false ht
              clear h1 h2
              go_wp2_with fail
              go_meet
              exact ⟨by rw [HN.out], rfl⟩
          · have hN := trimN_eq (tm := tm) hk hpre (fun h => absurd h (by omega))
            have HN := Lib.hid hN; clear hN hpre
            go_wp2_with fail
            go_meet
            exact ⟨by rw [HN.out], rfl⟩
        --}n
      case rest =>
        obtain ⟨hu7, hwx⟩ := hcut
        subst hu7 hwx
        rename World => w3
        have hkl : trimN tm l < l.length := by have := trimN_le tm l; omega
        obtain ⟨a, ha⟩ : ∃ a, l[trimN tm l]? = some a := ⟨l[trimN tm l], List.getElem?_eq_getElem hkl⟩
        have hcg := cutG_at (tm := tm) ha
        have htv : trimV tm l = cutG tm (l.drop (trimN tm l)) := rfl
        rw [hcg] at htv
        have HTV := Lib.hid htv; clear htv hcg
        generalize trimN tm l = k at *
        obtain ⟨g', o', a', hA, hga, hx, h0, h1, h2⟩ := HRD.out.cellsV rfl (j := k) hkl
        injection hA with hA
        injection hA with hA1 hA2
        subst hA1 hA2
        obtain rfl : a' = a := Option.some.inj (hx.symm.trans ha)
        have s1 := fun W => slice_fromO (P := Tryd.prog) 63 v_und v_elem v_size W g1 o1 l.length c k (k : Int) rfl (by omega)
        rw [if_neg (show ¬ c = k by omega)] at s1
        have dlen : decide (((l.length - k : Nat) : Int) > 0) = true := decide_eq_true (by omega)
        have hd : (l.drop k).length = l.length - k := List.length_drop
        have hd1 : (l.drop (k + 1)).length = l.length - k - 1 := by rw [List.length_drop]; omega
        clear hx h1
        have hgw : g1 < w3.heap.size := hga
        go_upto_region 13 with (fail)
        clear s1
        go_cut [68] (fun s68 wx => s68 = .bool (a'.g && decide (a'.t ≤ tm)) ∧ wx = w3)
        case first =>
          rcases hg : a'.g with _ | _
          · rw [hg] at h2
            have HG := Lib.hid hg; clear hg
            go_wp2_with fail
            go_meet
            exact ⟨by rw [HG.out]; rfl, rfl⟩
          · rw [hg] at h2
            have HG := Lib.hid hg; clear hg
            by_cases ht : a'.t ≤ tm
            · have dt : decide (a'.t ≤ tm) = true := decide_eq_true ht
              have HDT := Lib.hid dt
              go_wp2_with fail
              go_meet
              exact ⟨by rw [HG.out, HDT.out]; rfl, rfl⟩
            · have dt : decide (a'.t ≤ tm) = false := decide_eq_false ht
              have HDT := Lib.hid dt
              go_wp2_with fail
              go_meet
              exact ⟨by rw [HG.out, HDT.out]; rfl, rfl⟩
        case rest =>
        obtain ⟨hu68, hwx⟩ := hcut
        subst hu68 hwx
        rename World => w3
        have htv := HTV.out
        clear h0 h2 dlen
        generalize (a'.g && decide (a'.t ≤ tm)) = bq at *
        have HTQ := Lib.hid htv; clear htv HTV
        go_upto_if 68 with (fail)
        go_cut [6] (fun s6 wx => CutRel l tm g1 o1 s6 ∧ wx = w3)
        case first =>
          --{cut
          rcases bq with _ | _
          · have hfin : CutRel l tm g1 o1 (.slice (some ⟨g1, o1 + k * 3, none⟩) (l.length - k) (c - k)) := by
              have e := HTQ.out
              rw [if_neg (by decide)] at e
              exact ⟨_, _, k, by rw [e, hd], by rw [e, hd]; omega, e, fun _ => ⟨rfl, hkl⟩⟩
            have HF := Lib.hid hfin; clear hfin hd hd1
            go_wp2_with fail
            go_meet
            exact ⟨HF.out, rfl⟩
          · have s2 := fun W => slice_fromO (P := Tryd.prog) 63 v_und v_elem v_size W g1 (o1 + k * 3) (l.length - k) (c - k) 1 (1 : Int) rfl (by omega)
            have hfin : CutRel l tm g1 o1 (.slice (some ⟨g1, if c - k = 1 then o1 + k * 3 else o1 + k * 3 + 1 * 3, none⟩) (l.length - k - 1) (c - k - 1)) := by
              have e := HTQ.out
              rw [if_pos rfl] at e
              refine ⟨_, _, k + 1, by rw [e, hd1], by rw [e, hd1]; omega, e, fun h => ?_⟩
              rw [e, hd1] at h
              refine ⟨?_, by omega⟩
              rw [if_neg (by omega)]
              omega
            have HF := Lib.hid hfin; clear hfin hd hd1
            generalize (if c - k = 1 then o1 + k * 3 else o1 + k * 3 + 1 * 3) = o2 at *
            go_wp2_with fail
            go_meet
            exact ⟨HF.out, rfl⟩
          --}cut
        case rest =>
          --{store
          obtain ⟨⟨o2, c2, q, hu6, hc2, hdq, hoq⟩, hwx⟩ := hcut
          subst hu6 hwx
          rename World => w3
          have HKT := Lib.hid (tr_keys (fun _ => Classical.propDecidable _) HK.out HLX.out)
          have c0 := HI3.out.blk.cell 0
          have hgl3 := HI3.out.blk.lt
          simp only [List.getElem?_toArray, List.getElem?_cons_zero] at c0
          have HDQ := Lib.hid hdq; clear hdq
          have hml : (trimV tm l).length ≤ 100000 := Nat.le_trans (trimV_len tm l) hlen
          by_cases hz : (trimV tm l).length = 0
          · --{del
            have hnil : trimV tm l = [] := List.eq_nil_of_length_eq_zero hz
            have dz : (((trimV tm l).length : Int) == 0) = true := by rw [hz]; rfl
            have HNIL := Lib.hid hnil; clear hnil hz hoq
            generalize (trimV tm l).length = m at *
            obtain ⟨w4, cnt4, hrun4, hrg4, hle4, hf4⟩ := HRG3.out.drop Tryd.underlying23 hox 0
            rw [show kV.val o = Value.string o from rfl] at hrun4
            have hfin : TrRel base n g b loc K tm w r w4 := by
              have hI4 := HI3.out.dropK hrg4.owns hf4
              refine ⟨_, cnt4, loc', _, by rw [← vmap_drop]; exact hrg4, hI4, fun x => ?_, HFR3.out.trans' hf4 (fun i hi (e : i = b) => HFT.out i (.inr (.inl (by rw [e]))) |>.elim id (fun h => by omega)), fun p hp => ?_, hrw⟩
              · have := HKT.out x
                rw [← HKE.out, HNIL.out] at this
                rw [this]
                by_cases e : left (bx x) = true
                · by_cases e2 : bx x = o <;> simp [e, e2]
                · simp [e]
              · refine HFT.out p ?_
                rcases hp with hp | hp | ⟨x, hx, hp⟩
                · exact .inl hp
                · exact .inr (.inl hp)
                · refine .inr (.inr ⟨x, ?_, hp⟩)
                  unfold putK at hx
                  split at hx
                  · exact absurd rfl hx
                  · exact hx
            have HF := Lib.hid hfin; clear hfin
            have HM4 := Lib.hid (HMS.out w4 cnt4 _ _ hrg4 hle4); clear hrg4 hle4 hf4
            go_wp2_with fail
            go_roundw
            case rel => exact HF.out
            case measure => exact HM4.out
            --}del
          · --{upd
            obtain ⟨rfl, hql⟩ := hoq (by omega)
            have dz : (((trimV tm l).length : Int) == 0) = false := by rw [beq_eq_false_iff_ne]; omega
            have hrow' := HROW.out.tail hql
            rw [← HDQ.out] at hrow'
            have HROW' := Lib.hid hrow'; clear hrow'
            have HNE := Lib.hid (show trimV tm l ≠ [] from fun e => hz (by rw [e]; rfl)); clear hz hoq
            have HCL := Lib.hid (clip_any g1 (o1 + q * 3) (trimV tm l).length c2 w3.drew hc2)
            go_wp2_with fail
            refine wp_region_any (by kernel_rfl) ?_
            change wpAny _ _ _ _ _ _ _ (World.drew _)
            refine nplainQ (fun W => W.cell? ⟨g, 0, none⟩ = some (.map (some b))) 7 (fun _ _ _ _ _ h => h) (fun HQP => ?_)
            have HCC : w3.drew.cell? ⟨g, 0, none⟩ = some (.map (some b)) := c0
            refine ntakeW 0 rfl rfl (by kernel_rfl) (by kernel_rfl) (by kernel_rfl) (by kernel_rfl) (fun _ _ _ h => HQP _ _ _ _ _ h) (by kernel_rfl) HCC (fun w' hw' => by go_simp; rfl) ?_
            refine ntakeW 1 rfl rfl (by kernel_rfl) (by kernel_rfl) (by kernel_rfl) (by kernel_rfl) (fun _ _ _ h => HQP _ _ _ _ _ h) (by kernel_rfl) HCC (fun w' hw' => by go_simp; rfl) ?_
            refine ntakeW 2 rfl rfl (by kernel_rfl) (by kernel_rfl) (by kernel_rfl) (by kernel_rfl) (fun _ _ _ h => HQP _ _ _ _ _ h) (by kernel_rfl) HCC (fun w' hw' => by go_simp; rfl) ?_
            refine ntakeW 3 rfl rfl (by kernel_rfl) (by kernel_rfl) (by kernel_rfl) (by kernel_rfl) (fun _ _ _ h => HQP _ _ _ _ _ h) (by kernel_rfl) HCC (fun w' hw' => by go_simp; rfl) ?_
            refine ntakeW 4 rfl rfl (by kernel_rfl) (by kernel_rfl) (by kernel_rfl) (by kernel_rfl) (fun _ _ _ h => HQP _ _ _ _ _ h) (by kernel_rfl) HCC (fun w' hw' => by go_simp; rfl) ?_
            refine ntakeW 5 rfl rfl (by kernel_rfl) (by kernel_rfl) (by kernel_rfl) (by kernel_rfl) (fun _ _ _ h => HQP _ _ _ _ _ h) (by kernel_rfl) HCC (fun w' hw' => by go_simp; rfl) ?_
            refine nonly 6 (by kernel_rfl) rfl (by kernel_rfl) (fun KK hK => ?_)
            go_simp
            refine HCL.out.mono ?_
            rintro e w4 ⟨rfl, rfl⟩
            go_simp
            refine hK _ _ (fun _ => HCC) ?_
            clear hK KK
            refine nonly 7 (by kernel_rfl) rfl (by kernel_rfl) (fun KK hK => ?_)
            refine wp_setR 23 63 Tryd.underlying23 (.tmp 82) (.tmp 83) (.tmp 85) rfl (by simp [Act.eval, Act.put]) (show RangeG kV w3.drew b r n _ _ cnt3 from HRG3.out.fr (Fr.refl (fun _ => False) w3).drew (fun h => h) (fun h => h)) (by unfold maxLen; omega) o (.slice (some ⟨g1, o1 + q * 3, none⟩) (trimV tm l).length (trimV tm l).length) (by simp [Act.eval, Act.put, kV, keyS]) (by simp [Act.eval, Act.put]) hox (by
              unfold vmap
              rw [hl]
              rcases hh : l with _ | ⟨p, l'⟩
              · rw [hh] at hl0; simp at hl0
              · rfl) ?_
            intro w5 hrg5 hf5
            have hf5' : Fr (fun k => k = b) w3 w5 := (Fr.refl _ w3).drew.trans hf5
            have hmv : Moved w3 w3 (stV loc' K' (sx o)).ownBlock (Value.slice (some ⟨g1, o1 + q * 3, none⟩) (trimV tm l).length (trimV tm l).length).ownBlock := by
              refine ⟨Fr.refl _ _, .inl ?_⟩
              unfold stV
              rw [hl]
              rcases hh : l with _ | ⟨p, l'⟩
              · rw [hh] at hl0; simp at hl0
              · rw [if_neg (by simp), HV.out]
                rfl
            have hfin : TrRel base n g b loc K tm w r w5 := by
              obtain ⟨s1, s2, s3⟩ := StI.setK (n2 := n) (Nat.le_refl _) HI3.out hos HNE.out (fun v hv => by
                rw [HDQ.out] at hv
                have := HI3.out.times (sx o) v (by rw [hl]; exact List.mem_of_mem_drop hv)
                exact this) (by have := HI3.out.sorted (sx o); rw [hl] at this; exact trimV_sorted tm this) (by have := HI3.out.len (sx o); rw [hl] at this; exact Nat.le_trans (trimV_len tm l) this) HROW'.out hmv hrg5.owns hf5'
              refine ⟨_, cnt3, _, _, by rw [← vmap_put _ _ HNE.out]; exact hrg5, s1, fun x => ?_, HFR3.out.trans' s2 (fun i hi h => (HFT.out i h).elim id (fun h => by omega)), fun p hp => (s3 p hp).elim (fun h => HFT.out p h) (fun h => .inr (Nat.le_trans HFR3.out.size h)), hrw⟩
              have := HKT.out x
              rw [← HKE.out] at this
              exact this
            have HF := Lib.hid hfin; clear hfin
            have HM5 := Lib.hid (HMS.out w5 cnt3 _ _ hrg5 (Nat.le_refl _)); clear hrg5 hf5 hf5' hmv
            go_simp
            refine hK _ _ (fun h => absurd h (by decide)) ?_
            clear hK KK HCC
            refine ndone (by kernel_rfl) ?_ _
            clear HQP
            go_wp2_with fail
            go_roundw
            case rel => exact HF.out
            case measure => exact HM5.out
            --}upd
          --}store
      --}key
theorem trim_any (base n g : Nat) (mb : Option Nat) (loc : Sx → Value) (K : Kp) (low tm : Int) (w : World) (hI : StI w base n g mb loc K low) (hn : n ≤ 100000) : Calls Tryd.prog 9 #[.pointer (some ⟨g, 0, none⟩), .int .i64 tm] w (TrPost base n g mb loc K low tm w) := by
  by_cases h : tm < low
  · exact trim_order base n g mb loc K low tm w hI h
  · by_cases h2 : 1099511627776 < tm
    · exact trim_range base n g mb loc K low tm w hI h h2
    · rcases mb with _ | b
      · exact trim_nil base n g loc K low tm w hI h h2
      · exact trim_some base n g b loc K low tm w hI h h2 hn
end Go.Proofs.YtmgpdkecpobcaaaDoor
