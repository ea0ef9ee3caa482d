/- chainmailref.Fits: its contract, by a walk. -/
import Derived.Test.YtnahkpfamocnfaaDoorChk7
namespace Go.Proofs.YtnahkpfamocnfaaDoor
open Go.RowKit
def thereA (n : Nat) (o : List Nat) : Array Value := ((List.range n).map fun k : Nat => Value.int .i64 (posP o k : Nat)).toArray
theorem thereA_at (n i : Nat) (o : List Nat) : (thereA n o)[i]? = if i < n then some (.int .i64 (posP o i : Nat)) else none := by
  unfold thereA
  by_cases h : i < n <;> simp [h]
theorem thereA_size (n : Nat) (o : List Nat) : (thereA n o).size = n := by unfold thereA; simp
theorem posP_push {o : List Nat} {k x : Nat} (hk : k ∉ o) : posP (o ++ [k]) x = if x = k then o.length + 1 else posP o x := by
  unfold posP
  by_cases e : x = k
  · subst e
    rw [if_pos (by simp), if_pos rfl, idxOf_snoc_new hk]
  · rw [if_neg e]
    by_cases h : x ∈ o
    · rw [if_pos (by simp [h]), if_pos h, idxOf_snoc_old h]
    · rw [if_neg (by simp [h, e]), if_neg h]
theorem thereA_push {n k : Nat} {o : List Nat} (hk : k ∉ o) : (thereA n o).setIfInBounds k (.int .i64 ((o.length : Int) + 1)) = thereA n (o ++ [k]) := by
  apply Array.ext_getElem?
  intro i
  rw [Array.getElem?_setIfInBounds, thereA_at, thereA_at, thereA_size, posP_push hk]
  by_cases e : i = k
  · subst e
    rw [if_pos rfl, if_pos rfl]
    simp
  · rw [if_neg (fun h => e h.symm), if_neg e]
theorem posP_zero {o : List Nat} {k : Nat} (h : k ∉ o) : posP o k = 0 := by unfold posP; rw [if_neg h]
theorem made_there (n : Nat) : madeCells (Value.int .i64 0).cells n = thereA n [] := by
  apply Array.ext_getElem?
  intro i
  rw [thereA_at]
  unfold madeCells
  by_cases hi : i < n <;> simp [Value.cells, hi, Nat.mod_one, posP]
theorem make_there (n : Nat) (hn : n ≤ 1000) (w : World) : (Instr.makeSlice 47 (.int .i64 (n : Int)) (.int .i64 (n : Int))).run Tryd.prog w = .ok (.slice (some ⟨w.heap.size, 0, none⟩) n n) (w.alloc (.cells (thereA n []) 3)) := by
  obtain ⟨i, hi, hz, hs, hb⟩ := info_parts int_info
  have h := run_make_rowN 47 3 i _ Tryd.underlying47 hi hz .i64 .i64 n n (Nat.le_refl _) (by rw [hb]; omega) (by omega) w
  rw [hs, Nat.mul_one, made_there] at h
  exact h
/-- The first loop: places. -/
def PlaceRel (order : List Nat) (n : Nat) (w : World) (v : Value) (wr : World) : Prop :=
  ∃ j : Nat, v = .int .i64 j ∧ j ≤ order.length ∧ (order.take j).Nodup ∧ (∀ k ∈ order.take j, k < n) ∧ Blk wr w.heap.size 3 (thereA n (order.take j)) ∧ Below w.heap.size w wr
/-- What the second loop asks of one. -/
def TimeOk (L : List TxP) (order : List Nat) (i : Nat) : Prop := (0 ≤ toA L i → i ∈ order) ∧ ∀ k, k < L.length → ¬ (0 ≤ toA L i ∧ toA L i < fromA L k ∧ 0 < posP order k ∧ posP order k < posP order i)
def TimeRel (L : List TxR) (order : List Nat) (n : Nat) (w : World) (v : Value) (wr : World) : Prop :=
  ∃ j : Nat, v = .int .i64 j ∧ j ≤ n ∧ (∀ i, i < j → TimeOk (tsOf L) order i) ∧ Blk wr w.heap.size 3 (thereA n order) ∧ Below w.heap.size w wr
def Time2Rel (L : List TxR) (order : List Nat) (n i g9 : Nat) (x : TxR) (w : World) (v : Value) (wr : World) : Prop :=
  ∃ j : Nat, v = .int .i64 j ∧ j ≤ n ∧ (∀ k, k < j → ¬ (0 ≤ toA (tsOf L) i ∧ toA (tsOf L) i < fromA (tsOf L) k ∧ 0 < posP order k ∧ posP order k < posP order i)) ∧ Blk wr w.heap.size 3 (thereA n order) ∧
    Blk wr g9 108 #[.slice x.A x.n x.c, .int .i64 x.t.from_, .int .i64 x.t.to_] ∧ Below w.heap.size w wr
def Play1Rel (L : List TxR) (order : List Nat) (gm : Nat) (w : World) (v : Value) (wr : World) : Prop :=
  ∃ (j nm : Nat) (m : Mp), v = .int .i64 j ∧ j ≤ order.length ∧ playsP Mp.empty ((order.take j).flatMap (opsA (tsOf L))) = some m ∧ nm ≤ 1000 * j ∧ MapV wr gm nm m ∧ Below w.heap.size w wr
def Play2Rel (ops : List OpP) (n gm nm0 : Nat) (m0 : Mp) (w : World) (v : Value) (wr : World) : Prop :=
  ∃ (j : Nat) (m : Mp), v = .int .i64 j ∧ j ≤ n ∧ playsP m0 (ops.take j) = some m ∧ MapV wr gm (nm0 + j) m ∧ Below w.heap.size w wr
theorem take_snoc {α : Type} (l : List α) (j : Nat) (x : α) (h : l[j]? = some x) : l.take (j + 1) = l.take j ++ [x] := by rw [List.take_add_one, h]; rfl
theorem flat_step {L : List TxP} {order : List Nat} {j k : Nat} {m : Mp} (hp : playsP Mp.empty ((order.take j).flatMap (opsA L)) = some m) (hk : order[j]? = some k) : playsP Mp.empty ((order.take (j + 1)).flatMap (opsA L)) = playsP m (opsA L k) := by
  rw [take_snoc order j k hk, List.flatMap_append, playsP_append, hp]
  simp
theorem flat_none {L : List TxP} {order : List Nat} {j k : Nat} {m : Mp} (hp : playsP Mp.empty ((order.take j).flatMap (opsA L)) = some m) (hk : order[j]? = some k) (h0 : playsP m (opsA L k) = none) : playsP Mp.empty (order.flatMap (opsA L)) = none := by
  have h1 := flat_step hp hk
  rw [h0] at h1
  have h2 : order.flatMap (opsA L) = (order.take (j + 1)).flatMap (opsA L) ++ (order.drop (j + 1)).flatMap (opsA L) := by
    rw [← List.flatMap_append, List.take_append_drop]
  rw [h2, playsP_append, h1]
  rfl
theorem Play2Rel.step {ops : List OpP} {n gm nm0 nm' j : Nat} {m0 mj m' : Mp} {w w1 : World} {o : OpP} (hp : playsP m0 (ops.take j) = some mj) (ho : ops[j]? = some o) (h0 : op1 mj o = some m') (hj : j < n) (hm : MapV w1 gm nm' m') (hn : nm' ≤ nm0 + (j + 1)) (hb : Below w.heap.size w w1) :
    Play2Rel ops n gm nm0 m0 w (.int .i64 ((j : Int) + 1)) w1 := ⟨j + 1, m', rfl, hj, by rw [plays_take hp ho, h0], hm.mono hn, hb⟩
set_option maxRecDepth 100000 in
set_option maxHeartbeats 4000000 in
theorem fits_any (L : List TxR) (order : List Nat) (B n c no co : Nat) (A Ao : Option Addr) (w : World) (h : ReadsT w B A n L) (hB : B ≤ w.heap.size) (hn : n ≤ 100) (hs : ∀ x ∈ L, x.n ≤ 1000) (ho : Rd w B 1 Ao no (intsV order)) (hno : no ≤ 100) :
    Calls Tryd.prog 43 #[.slice A n c, .slice Ao no co] w (BoolPost (decide (FitsP (tsOf L) order)) w) := by
  have hlo : order.length = no := by have := ho.1; rw [intsV_len] at this; omega
  have hlen : (tsOf L).length = n := by rw [tsOf_len]; exact h.1
  have hmt := fun W => make_there n (by omega) W
  have hmm := @run_makeMap Tryd.prog
  have HMM := Lib.hid hmm; clear hmm
  have HLO := Lib.hid hlo; clear hlo
  have HLEN := Lib.hid hlen; clear hlen
  have H := Lib.hid h; clear h
  have HO := Lib.hid ho; clear ho
  have HS := Lib.hid hs; clear hs
  go_enter Tryd.func43, Tryd.ntmps43
  go_wp2_with fail
  clear hmt
  go_loopw [24] (PlaceRel order n w) (fun v _ => no - (intOf v).toNat)
  case atStart => exact ⟨0, rfl, Nat.zero_le _, by simp, by simp, Blk.new _ _ _, (Below.refl _ _).alloc (Nat.le_refl _) _⟩
  case round =>
    obtain ⟨j, rfl, hj, hnd, hrg, hbk, hbw⟩ := hrel
    have HND := Lib.hid hnd; clear hnd
    have HRG := Lib.hid hrg; clear hrg
    have hj' : j ≤ no := by rw [← HLO.out]; exact hj
    clear hj
    by_cases hlt : (j : Int) < no
    · obtain ⟨g, off, u, hA, hg, hx, hc⟩ := (HO.out.below (hbw.mono hB)).at1 (k := j) (by omega)
      obtain ⟨k, hk, rfl⟩ : ∃ k : Nat, order[j]? = some k ∧ u = .int .i64 (k : Int) := by
        unfold intsV at hx
        rw [List.getElem?_map] at hx
        rcases hh : order[j]? with _ | k
        · rw [hh] at hx; simp at hx
        · rw [hh] at hx; simp at hx; exact ⟨k, rfl, hx.symm⟩
      subst hA
      have hsz := hbw.size
      have hgl : g < wr.heap.size := by omega
      have htl := hbk.lt
      have htk := take_snoc order j k hk
      have HTK := Lib.hid htk; clear htk hx
      have HK := Lib.hid hk; clear hk
      have d0 : decide ((k : Int) < 0) = false := by simp
      by_cases hkn : (k : Int) < n
      · have d1 : decide ((n : Int) ≤ k) = false := by simp; omega
        have hcell := (hbk.cell k).trans (by rw [thereA_at, if_pos (by omega)])
        by_cases hin : k ∈ order.take j
        · have d2 : 0 < posP (order.take j) k := posP_pos.2 hin
          generalize posP (order.take j) k = q at hcell d2
          have hf : decide (FitsP (tsOf L) order) = false := by
            simp only [decide_eq_false_iff_not]
            intro hf
            have := hf.1
            have h2 := this.sublist (List.take_sublist (j + 1) order)
            rw [HTK.out, List.nodup_append] at h2
            exact h2.2.2 k hin k (by simp) rfl
          have HF := Lib.hid hf; clear hf hin
          have HBK := Lib.hid hbk; clear hbk
          go_wp2_with fail
          go_ret
          rw [HF.out]
          exact ⟨rfl, hbw⟩
        · rw [posP_zero hin] at hcell
          simp only [Int.natCast_zero] at hcell
          have hfz := hbk.frozen k
          have hnew := hbk.set_ k (.int .i64 ((j : Int) + 1))
          have hjl : (order.take j).length = j := by rw [List.length_take, HLO.out]; omega
          have hpush := thereA_push (n := n) hin
          rw [hjl] at hpush
          rw [hpush, ← HTK.out] at hnew
          have hrel : PlaceRel order n w (.int .i64 ((j : Int) + 1)) (wr.setCell ⟨w.heap.size, k, none⟩ (.int .i64 ((j : Int) + 1))) := by
            refine ⟨j + 1, rfl, by rw [HLO.out]; omega, ?_, ?_, hnew, hbw.setCell (p := ⟨w.heap.size, k, none⟩) (Nat.le_refl _) _⟩
            · rw [HTK.out, List.nodup_append]
              exact ⟨HND.out, by simp, fun a ha b hb => by rw [List.mem_singleton.1 hb]; exact fun e => hin (e ▸ ha)⟩
            · rw [HTK.out]
              intro x hx
              rcases List.mem_append.1 hx with hx | hx
              · exact HRG.out x hx
              · rw [List.mem_singleton.1 hx]; omega
          have HREL := Lib.hid hrel; clear hrel hnew hpush hjl hin
          have HBK := Lib.hid hbk; clear hbk
          go_wp2_with fail
          go_roundw
          case rel => exact HREL.out
          case measure => simp [intOf]; omega
      · have d1 : decide ((n : Int) ≤ k) = true := by simp; omega
        have hf : decide (FitsP (tsOf L) order) = false := by
          simp only [decide_eq_false_iff_not]
          intro hf
          have := hf.2.1 k (List.mem_of_getElem? HK.out)
          rw [HLEN.out] at this
          omega
        have HF := Lib.hid hf; clear hf
        have HBK := Lib.hid hbk; clear hbk
        go_wp2_with fail
        go_ret
        rw [HF.out]
        exact ⟨rfl, hbw⟩
    · have hjn : j = order.length := by rw [HLO.out]; omega
      rw [hjn, List.take_length] at hbk
      have hnd : order.Nodup := by have := HND.out; rw [hjn, List.take_length] at this; exact this
      have hrg : ∀ k ∈ order, k < n := by have := HRG.out; rw [hjn, List.take_length] at this; exact this
      clear hjn HND HRG
      have HND := Lib.hid hnd; clear hnd
      have HRG := Lib.hid hrg; clear hrg
      have HBK := Lib.hid hbk; clear hbk
      have HBW := Lib.hid hbw; clear hbw
      go_wp2_with fail
      go_loopw [52] (TimeRel L order n w) (fun v _ => n - (intOf v).toNat)
      case atStart => exact ⟨0, rfl, Nat.zero_le _, fun i hi => absurd hi (by omega), HBK.out, HBW.out⟩
      case round =>
        clear HBK HBW
        obtain ⟨i, rfl, hi, hti, hbk, hbw⟩ := hrel
        have HTI := Lib.hid hti; clear hti
        by_cases hlt : (i : Int) < n
        · obtain ⟨g, off, x, hA, hg, hx, k0, k1, k2, _⟩ := (H.out.below (hbw.mono hB)).at_ (k := i) (by omega)
          have hto := toA_of hx
          have hsz := hbw.size
          have hgl : g < wr.heap.size := by omega
          have hgw : g < w.heap.size := by omega
          have htl := hbk.lt
          have hcell := (hbk.cell i).trans (by rw [thereA_at, if_pos (by omega)])
          have HTO := Lib.hid hto; clear hto
          have HX := Lib.hid hx; clear hx
          have HAA := Lib.hid hA
          rw [hA]
          clear hA
          have hwp : ∀ o, Blk (wr.alloc o) w.heap.size 3 (thereA n order) := fun o => hbk.alloc o
          have HWP := Lib.hid hwp; clear hwp
          have HBK := Lib.hid hbk; clear hbk
          have hgood : (0 ≤ x.t.to_ → i ∈ order) → RowKit.Hid (0 ≤ toA (tsOf L) i → i ∈ order) := fun h h0 => h (by rw [HTO.out] at h0; exact h0)
          by_cases hbad : 0 ≤ x.t.to_ ∧ i ∉ order
          · have d1 : decide (0 ≤ x.t.to_) = true := by simpa using hbad.1
            rw [posP_zero hbad.2] at hcell
            simp only [Int.natCast_zero] at hcell
            have hf : decide (FitsP (tsOf L) order) = false := by
              simp only [decide_eq_false_iff_not]
              intro hf
              exact hbad.2 ((hf.2.2.1 i (by rw [HLEN.out]; omega)).1 (by rw [HTO.out]; exact hbad.1))
            have HF := Lib.hid hf; clear hf hbad hgood
            go_wp2_with fail
            go_ret
            rw [HF.out]
            exact ⟨rfl, hbw.alloc hsz _⟩
          · have hin : 0 ≤ toA (tsOf L) i → i ∈ order := fun h0 => by
              rw [HTO.out] at h0
              rcases Decidable.em (i ∈ order) with h | h
              · exact h
              · exact absurd ⟨h0, h⟩ hbad
            have HIN := Lib.hid hin; clear hin hgood
            have hst : Time2Rel L order n i wr.heap.size x w (.int .i64 0) (wr.alloc (.cells #[.slice x.A x.n x.c, .int .i64 x.t.from_, .int .i64 x.t.to_] 108)) :=
              ⟨0, rfl, Nat.zero_le _, fun k hk => absurd hk (by omega), HWP.out _, Blk.new _ _ _, hbw.alloc hsz _⟩
            have HST := Lib.hid hst; clear hst hbad
            go_upto_region 12 with (fail)
            go_cut [66] (fun s66 wx => s66 = .bool false ∧ wr.alloc (.cells #[.slice x.A x.n x.c, .int .i64 x.t.from_, .int .i64 x.t.to_] 108) = wx)
            case first =>
              by_cases h0 : 0 ≤ x.t.to_
              · have d1 : decide (0 ≤ x.t.to_) = true := by simpa using h0
                have hpos := posP_pos.2 (HIN.out (by rw [HTO.out]; exact h0))
                generalize posP order i = q at hcell hpos
                have d2 : ((q : Int) == 0) = false := by simp; omega
                go_wp2_with fail
                go_meet
                exact ⟨rfl, rfl⟩
              · have d1 : decide (0 ≤ x.t.to_) = false := by simpa using h0
                go_wp2_with fail
                go_meet
                exact ⟨rfl, rfl⟩
            case rest =>
              obtain ⟨rfl, rfl⟩ := hcut
              clear k0 k1 k2 hcell
              go_wp2_with fail
              obtain ⟨wo, rfl⟩ : ∃ wo : World, wo = wr := ⟨_, rfl⟩
              go_loopw [69] (Time2Rel L order n i wo.heap.size x w) (fun v _ => n - (intOf v).toNat)
              case atStart => exact HST.out
              case round =>
                clear HST HWP HBK
                obtain ⟨k, rfl, hk, hno2, hbk2, hb9, hbw2⟩ := hrel
                have HNO := Lib.hid hno2; clear hno2
                by_cases hltk : (k : Int) < n
                · obtain ⟨g', off', y, hA', hg', hy, q0, q1, q2, _⟩ := (H.out.below (hbw2.mono hB)).at_ (k := k) (by omega)
                  rw [HAA.out] at hA'
                  injection hA' with hA'
                  injection hA' with e1 e2
                  subst e1 e2
                  have hfr := fromA_of hy
                  have HFR := Lib.hid hfr; clear hfr hy
                  have hsz2 := hbw2.size
                  have hgl2 : g < wr.heap.size := by omega
                  have htl2 := hbk2.lt
                  have hb9l := hb9.lt
                  have hc2 := hb9.cell 2
                  simp only [List.getElem?_toArray, List.getElem?_cons_succ, List.getElem?_cons_zero] at hc2
                  have hci := (hbk2.cell i).trans (by rw [thereA_at, if_pos (by omega)])
                  have hck := (hbk2.cell k).trans (by rw [thereA_at, if_pos (by omega)])
                  have hgoon : ¬ (0 ≤ toA (tsOf L) i ∧ toA (tsOf L) i < fromA (tsOf L) k ∧ 0 < posP order k ∧ posP order k < posP order i) → ∀ o nq, Time2Rel L order n i wo.heap.size x w (.int .i64 ((k : Int) + 1)) ((wr.alloc o).drewN nq) := fun hne o nq =>
                    ⟨k + 1, rfl, by omega, fun k' hk' => by
                      by_cases e : k' = k
                      · rw [e]; exact hne
                      · exact HNO.out k' (by omega), (hbk2.alloc o).drewN nq, (hb9.alloc o).drewN nq, below_drewN (hbw2.alloc hsz2 o) nq⟩
                  have hstop : (0 ≤ toA (tsOf L) i ∧ toA (tsOf L) i < fromA (tsOf L) k ∧ 0 < posP order k ∧ posP order k < posP order i) → decide (FitsP (tsOf L) order) = false := fun h => by
                    simp only [decide_eq_false_iff_not]
                    intro hf
                    exact (hf.2.2.1 i (by rw [HLEN.out]; omega)).2 k (by rw [HLEN.out]; omega) h
                  rw [HTO.out, HFR.out] at hgoon hstop
                  have HBK2 := Lib.hid hbk2; clear hbk2
                  have HB9 := Lib.hid hb9; clear hb9
                  generalize posP order i = pi at hci hgoon hstop
                  generalize posP order k = pk at hck hgoon hstop
                  have HGO := Lib.hid hgoon; clear hgoon
                  have HSTOP := Lib.hid hstop; clear hstop
                  by_cases c1 : 0 ≤ x.t.to_
                  · have d1 : decide (0 ≤ x.t.to_) = true := by simpa using c1
                    by_cases c2 : x.t.to_ < y.t.from_
                    · have d2 : decide (x.t.to_ < y.t.from_) = true := by simpa using c2
                      rcases Nat.eq_zero_or_pos pk with c3 | c3
                      · subst c3
                        simp only [Int.natCast_zero] at hck
                        have hg2 := HGO.out (by omega)
                        have HG2 := Lib.hid hg2; clear hg2
                        go_wp2_with fail
                        go_quiet (fail)
                        go_wp2_with fail
                        go_roundw
                        case rel => exact HG2.out _ _
                        case measure => simp [intOf]; omega
                      · by_cases c4 : pk < pi
                        · have hst := HSTOP.out ⟨c1, c2, c3, c4⟩
                          have HST2 := Lib.hid hst; clear hst
                          go_wp2_with fail
                          go_quiet (fail)
                          go_wp2_with fail
                          go_ret
                          rw [HST2.out]
                          exact ⟨rfl, below_drewN (hbw2.alloc hsz2 _) _⟩
                        · have d4 : decide (pk < pi) = false := by simpa using c4
                          have hg2 := HGO.out (by omega)
                          have HG2 := Lib.hid hg2; clear hg2
                          go_wp2_with fail
                          go_quiet (fail)
                          go_wp2_with fail
                          go_roundw
                          case rel => exact HG2.out _ _
                          case measure => simp [intOf]; omega
                    · have d2 : decide (x.t.to_ < y.t.from_) = false := by simpa using c2
                      have hg2 := HGO.out (by omega)
                      have HG2 := Lib.hid hg2; clear hg2
                      go_wp2_with fail
                      go_quiet (fail)
                      go_wp2_with fail
                      go_roundw
                      case rel => exact HG2.out _ _
                      case measure => simp [intOf]; omega
                  · have d1 : decide (0 ≤ x.t.to_) = false := by simpa using c1
                    have hg2 := HGO.out (by omega)
                    have HG2 := Lib.hid hg2; clear hg2
                    go_wp2_with fail
                    go_quiet (fail)
                    go_wp2_with fail
                    go_roundw
                    case rel => exact HG2.out _ _
                    case measure => simp [intOf]; omega
                · have hrel2 : TimeRel L order n w (.int .i64 ((i : Int) + 1)) wr :=
                    ⟨i + 1, rfl, by omega, fun i' hi' => by
                      by_cases e : i' = i
                      · rw [e]; exact ⟨HIN.out, fun k' hk' => HNO.out k' (by rw [HLEN.out] at hk'; omega)⟩
                      · exact HTI.out i' (by omega), hbk2, hbw2⟩
                  have HREL := Lib.hid hrel2; clear hrel2 hbk2 hb9
                  go_wp2_with fail
                  go_roundw
                  case rel => exact HREL.out
                  case measure => simp [intOf]; omega
        · have hin' : i = n := by omega
          have hall : ∀ i, i < n → TimeOk (tsOf L) order i := fun k hk => HTI.out k (by omega)
          have HALL := Lib.hid hall; clear hall HTI
          have hmm := HMM.out
          go_wp2_with fail
          clear hmm
          obtain ⟨wo, rfl⟩ : ∃ wo : World, wo = wr := ⟨_, rfl⟩
          have hgmw : w.heap.size ≤ wo.heap.size := hbw.size
          have hst : Play1Rel L order wo.heap.size w (.int .i64 0) (wo.alloc (.map #[] 0)) := ⟨0, 0, Mp.empty, rfl, Nat.zero_le _, rfl, Nat.zero_le _, MapV.made wo, hbw.alloc hgmw _⟩
          have HST := Lib.hid hst; clear hst hbk hbw
          go_loopw [107] (Play1Rel L order wo.heap.size w) (fun v _ => no - (intOf v).toNat)
          case atStart => exact HST.out
          case round =>
            clear HST
            obtain ⟨j, nm, m, rfl, hj, hpl, hnm, hmap, hbw⟩ := hrel
            have HPL := Lib.hid hpl; clear hpl
            have hj' : j ≤ no := by rw [← HLO.out]; exact hj
            clear hj
            by_cases hlt : (j : Int) < no
            · obtain ⟨g, off, u, hA, hg, hx, hc⟩ := (HO.out.below (hbw.mono hB)).at1 (k := j) (by omega)
              obtain ⟨k, hk, rfl⟩ : ∃ k : Nat, order[j]? = some k ∧ u = .int .i64 (k : Int) := by
                unfold intsV at hx
                rw [List.getElem?_map] at hx
                rcases hh : order[j]? with _ | k
                · rw [hh] at hx; simp at hx
                · rw [hh] at hx; simp at hx; exact ⟨k, rfl, hx.symm⟩
              clear hx
              have hkn := HRG.out k (List.mem_of_getElem? hk)
              obtain ⟨g2, off2, x, hA2, hg2, hx, k0, k1, k2, hro, hfine⟩ := (H.out.below (hbw.mono hB)).at_ (k := k) hkn
              have hops := opsA_of hx
              have hxn := HS.out x (List.mem_of_getElem? hx)
              have hkn' : (k : Int) < n := by omega
              have hsz := hbw.size
              have HXM := Lib.hid (List.mem_of_getElem? hx)
              have HOPS := Lib.hid hops; clear hops hx
              have HK := Lib.hid hk; clear hk
              rw [hA, hA2]
              have HA := Lib.hid hA; clear hA
              have HA2 := Lib.hid hA2; clear hA2
              have hst : Play2Rel x.t.ops x.n wo.heap.size nm m w (.int .i64 0) wr := ⟨0, m, rfl, Nat.zero_le _, rfl, hmap, hbw⟩
              have HST := Lib.hid hst; clear hst hmap
              have HRO := Lib.hid (H.out.2.2 x HXM.out).1; clear hro
              have HFINE := Lib.hid hfine; clear hfine
              go_wp2_with fail
              obtain ⟨w7, rfl⟩ : ∃ w7 : World, w7 = wr := ⟨_, rfl⟩
              clear k0 k1 k2 hc hbw
              go_loopw [117] (Play2Rel x.t.ops x.n wo.heap.size nm m w) (fun v _ => x.n - (intOf v).toNat)
              case atStart => exact HST.out
              case round =>
                clear HST
                obtain ⟨jj, mj, rfl, hjj, hpj, hmap, hbw⟩ := hrel
                have HPJ := Lib.hid hpj; clear hpj
                by_cases hltj : (jj : Int) < x.n
                · obtain ⟨g3, off3, o, hA3, hg3, ho, q0, q1, q2, q3⟩ := (HRO.out.below (hbw.mono hB)).at_ (k := jj) (by omega)
                  rw [hA3]
                  clear hA3
                  have hof := HFINE.out o (List.mem_of_getElem? ho)
                  have hsz3 := hbw.size
                  have hgl3 : g3 < wr.heap.size := by omega
                  obtain ⟨kd, key, val, found⟩ := o
                  simp only at q0 q1 q2 q3
                  have hlook := ((hmap.alloc (.cells #[.int .i64 kd, .string key, .string val, .bool found] 111)).look key hof.1)
                  have HO3 := Lib.hid ho; clear ho
                  have HOF := Lib.hid hof; clear hof
                  have hmn : ∀ o, MapV (wr.alloc o) wo.heap.size (nm + jj) mj := fun o => hmap.alloc o
                  have hbn : ∀ o, Below w.heap.size w (wr.alloc o) := fun o => hbw.alloc hsz3 o
                  have HMN := Lib.hid hmn; clear hmn hmap
                  have HBN := Lib.hid hbn; clear hbn hbw
                  have hbadp : op1 mj ⟨kd, key, val, found⟩ = none → decide (FitsP (tsOf L) order) = false := fun h0 => by
                    simp only [decide_eq_false_iff_not]
                    intro hf
                    have h1 := hf.2.2.2
                    rw [flat_none HPL.out HK.out (by rw [HOPS.out]; exact plays_stop HPJ.out HO3.out h0)] at h1
                    cases h1
                  have HBADP := Lib.hid hbadp; clear hbadp
                  generalize hq : mj key = q at hlook
                  have HQ := Lib.hid hq; clear hq
                  by_cases h1 : kd = 1
                  · have d1 : (kd == 1) = true := by simpa using h1
                    have hop : op1 mj ⟨kd, key, val, found⟩ = if getOk mj ⟨kd, key, val, found⟩ then some mj else none := by unfold op1; rw [if_pos h1]
                    have HOP := Lib.hid hop; clear hop h1
                    have hgo : getOk mj ⟨kd, key, val, found⟩ ↔ (q.isSome = found ∧ ∀ v, q = some v → v = val) := by unfold getOk; rw [← HQ.out]
                    have HGO := Lib.hid hgo; clear hgo
                    have hgood : getOk mj ⟨kd, key, val, found⟩ → ∀ o, Play2Rel x.t.ops x.n wo.heap.size nm m w (.int .i64 ((jj : Int) + 1)) (wr.alloc o) := fun hg o =>
                      Play2Rel.step HPJ.out HO3.out (by rw [HOP.out, if_pos hg]) (by omega) (HMN.out o) (by omega) (HBN.out o)
                    have HGOOD := Lib.hid hgood; clear hgood
                    have hbad : ¬ getOk mj ⟨kd, key, val, found⟩ → decide (FitsP (tsOf L) order) = false := fun hg => HBADP.out (by rw [HOP.out, if_neg hg])
                    have HBAD := Lib.hid hbad; clear hbad
                    rcases q with _ | v
                    · cases found
                      · have hok := HGO.out.2 ⟨rfl, fun v h => by cases h⟩
                        have HOK := Lib.hid hok; clear hok
                        go_wp2_with fail
                        go_roundw
                        case rel => exact HGOOD.out HOK.out _
                        case measure => simp [intOf]; omega
                      · have hok : ¬ getOk mj ⟨kd, key, val, true⟩ := fun h => by have := (HGO.out.1 h).1; simp at this
                        have HOK := Lib.hid hok; clear hok
                        go_wp2_with fail
                        go_ret
                        rw [HBAD.out HOK.out]
                        exact ⟨rfl, HBN.out _⟩
                    · cases found
                      · have hok : ¬ getOk mj ⟨kd, key, val, false⟩ := fun h => by have := (HGO.out.1 h).1; simp at this
                        have HOK := Lib.hid hok; clear hok
                        go_wp2_with fail
                        go_ret
                        rw [HBAD.out HOK.out]
                        exact ⟨rfl, HBN.out _⟩
                      · by_cases hv : v = val
                        · subst hv
                          have hok := HGO.out.2 ⟨rfl, fun u h => by injection h with h; exact h.symm⟩
                          have HOK := Lib.hid hok; clear hok
                          go_wp2_with fail
                          go_roundw
                          case rel => exact HGOOD.out HOK.out _
                          case measure => simp [intOf]; omega
                        · have hok : ¬ getOk mj ⟨kd, key, val, true⟩ := fun h => hv ((HGO.out.1 h).2 v rfl)
                          have HOK := Lib.hid hok; clear hok
                          have dv := str_ne hv
                          have HV := Lib.hid hv; clear hv
                          go_wp2_with fail
                          go_ret
                          rw [HBAD.out HOK.out]
                          exact ⟨rfl, HBN.out _⟩
                  · have d1 : (kd == 1) = false := by simpa using h1
                    by_cases h2 : kd = 2
                    · have d2 : (kd == 2) = true := by simpa using h2
                      have hop : op1 mj ⟨kd, key, val, found⟩ = some (mj.set key (some val)) := by unfold op1; rw [if_neg h1, if_pos h2]
                      have HOP := Lib.hid hop; clear hop h1 h2
                      go_wp2_with (at_mapUpdate; refine stop ?_)
                      clear hlook
                      refine back ?_
                      refine wpList_setSS rfl (.tmp 147) (.tmp 149) (.tmp 151) rfl wo.heap.size (nm + jj) mj rfl (HMN.out _) (by unfold maxLen; omega) key val rfl rfl HOF.out.1 HOF.out.2 ?_
                      intro w1 hmv hfr
                      have hb1 : Below w.heap.size w w1 := (HBN.out _).trans (hfr.below (fun i e => e ▸ hgmw) (by simp; omega))
                      have hrel : Play2Rel x.t.ops x.n wo.heap.size nm m w (.int .i64 ((jj : Int) + 1)) w1 := Play2Rel.step HPJ.out HO3.out HOP.out (by omega) hmv (by omega) hb1
                      have HREL := Lib.hid hrel; clear hrel hmv hfr hb1
                      go_wp2_with fail
                      go_roundw
                      case rel => exact HREL.out
                      case measure => simp [intOf]; omega
                    · have d2 : (kd == 2) = false := by simpa using h2
                      by_cases h3 : kd = 3
                      · have d3 : (kd == 3) = true := by simpa using h3
                        have hop : op1 mj ⟨kd, key, val, found⟩ = some (mj.set key none) := by unfold op1; rw [if_neg h1, if_neg h2, if_pos h3]
                        have HOP := Lib.hid hop; clear hop h1 h2 h3
                        go_wp2_with (at_delete; refine stop ?_)
                        clear hlook
                        refine back ?_
                        refine wpList_delSS rfl (.tmp 154) (.tmp 156) rfl wo.heap.size (nm + jj) mj rfl (HMN.out _) key rfl HOF.out.1 ?_
                        intro w1 hmv hfr
                        have hb1 : Below w.heap.size w w1 := (HBN.out _).trans (hfr.below (fun i e => e ▸ hgmw) (by simp; omega))
                        have hrel : Play2Rel x.t.ops x.n wo.heap.size nm m w (.int .i64 ((jj : Int) + 1)) w1 := Play2Rel.step HPJ.out HO3.out HOP.out (by omega) hmv (by omega) hb1
                        have HREL := Lib.hid hrel; clear hrel hmv hfr hb1
                        go_wp2_with fail
                        go_roundw
                        case rel => exact HREL.out
                        case measure => simp [intOf]; omega
                      · have d3 : (kd == 3) = false := by simpa using h3
                        have hop : op1 mj ⟨kd, key, val, found⟩ = some mj := by unfold op1; rw [if_neg h1, if_neg h2, if_neg h3]
                        have hgood : ∀ o, Play2Rel x.t.ops x.n wo.heap.size nm m w (.int .i64 ((jj : Int) + 1)) (wr.alloc o) := fun o =>
                          Play2Rel.step HPJ.out HO3.out hop (by omega) (HMN.out o) (by omega) (HBN.out o)
                        have HGOOD := Lib.hid hgood; clear hgood hop h1 h2 h3
                        go_wp2_with fail
                        go_roundw
                        case rel => exact HGOOD.out _
                        case measure => simp [intOf]; omega
                · have hrel2 : Play1Rel L order wo.heap.size w (.int .i64 ((j : Int) + 1)) wr := by
                    refine ⟨j + 1, nm + jj, mj, rfl, by rw [HLO.out]; omega, ?_, by omega, hmap, hbw⟩
                    rw [flat_step HPL.out HK.out, HOPS.out, ← HPJ.out, List.take_of_length_le (by have := HRO.out.1; omega)]
                  have HREL := Lib.hid hrel2; clear hrel2 hmap
                  go_wp2_with fail
                  go_roundw
                  case rel => exact HREL.out
                  case measure => simp [intOf]; omega
            · have hf : decide (FitsP (tsOf L) order) = true := by
                simp only [decide_eq_true_eq]
                refine ⟨HND.out, by rw [HLEN.out]; exact HRG.out, fun i hi => HALL.out i (by rw [HLEN.out] at hi; exact hi), ?_⟩
                have := HPL.out
                rw [List.take_of_length_le (by rw [HLO.out]; omega)] at this
                rw [this]; rfl
              have HF := Lib.hid hf; clear hf hmap
              go_wp2_with fail
              go_ret
              rw [HF.out]
              exact ⟨rfl, hbw⟩
end Go.Proofs.YtnahkpfamocnfaaDoor
