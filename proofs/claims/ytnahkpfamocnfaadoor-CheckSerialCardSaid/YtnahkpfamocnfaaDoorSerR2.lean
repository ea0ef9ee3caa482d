/- chainmailref.starts: its contract. -/
import Derived.Test.YtnahkpfamocnfaaDoorSerR
import Derived.Test.YtnahkpfamocnfaaDoorOwn
namespace Go.Proofs.YtnahkpfamocnfaaDoor
open Go.RowKit
structure StI (w wr : World) (L : List TxR) (order : List Nat) (n cx gx i : Nat) : Prop where
  row : wr.ownsRow w.heap.size 108 3 (.slice (some ⟨gx, 0, none⟩) n cx) n ((cutX L order i).flatMap txCells)
  ok : ∀ q, q < i → q ∉ order → 0 ≤ toA (tsOf L) q → ∀ k ∈ order, ¬ toA (tsOf L) q < fromA (tsOf L) k
  below : Below w.heap.size w wr
def StRel (w : World) (L : List TxR) (order : List Nat) (n cx gx : Nat) (v : Value) (wr : World) : Prop := ∃ i : Nat, v = .int .i64 i ∧ i ≤ n ∧ StI w wr L order n cx gx i
def InOrd (order : List Nat) (i no : Nat) (w : World) (v7 v22 : Value) (wr : World) : Prop := ∃ q : Nat, v22 = .int .i64 q ∧ q ≤ no ∧ v7 = .bool (decide (i ∈ order.take q)) ∧ wr = w
def StIn (L : List TxR) (order : List Nat) (i no : Nat) (w : World) (v : Value) (wr : World) : Prop :=
  ∃ q m : Nat, v = .int .i64 q ∧ q ≤ no ∧ (∀ k ∈ order.take q, ¬ toA (tsOf L) i < fromA (tsOf L) k) ∧ wr = w.drewN m
theorem mem_take_step {l : List Nat} {q k i : Nat} (h : l[q]? = some k) : decide (i ∈ l.take (q + 1)) = (decide (i ∈ l.take q) || decide (k = i)) := by
  rw [take_snoc l q k h, Bool.eq_iff_iff]
  simp only [List.mem_append, List.mem_singleton, decide_eq_true_eq, Bool.or_eq_true]
  exact ⟨fun h => h.imp id Eq.symm, fun h => h.imp id Eq.symm⟩
set_option maxRecDepth 100000 in
set_option maxHeartbeats 4000000 in
theorem starts_any (L : List TxR) (order : List Nat) (B n c no co : Nat) (A Ao : Option Addr) (w : World) (h : ReadsT w B A n L) (hB : B ≤ w.heap.size) (hn : n ≤ 100) (hs : ∀ x ∈ L, x.n ≤ 1000) (ho : Rd w B 1 Ao no (intsV order)) (hno : no ≤ 100) (hin : ∀ k ∈ order, k < n) :
    Calls Tryd.prog 44 #[.slice A n c, .slice Ao no co] w (BoolPost (decide (StartsP (tsOf L) order)) w) := by
  have hlo := ints_len ho
  have hlen : (tsOf L).length = n := by rw [tsOf_len]; exact h.1
  have HLO := Lib.hid hlo; clear hlo
  have HLEN := Lib.hid hlen; clear hlen
  have H := Lib.hid h; clear h
  have HO := Lib.hid ho; clear ho
  have HS := Lib.hid hs; clear hs
  have HIN := Lib.hid hin; clear hin
  go_enter Tryd.func44, Tryd.ntmps44
  go_wp2_with (at_builtin; refine stop ?_)
  refine back ?_
  have hbm : Below w.heap.size w (w.alloc (.cells #[] 108)) := (Below.refl _ _).alloc (Nat.le_refl _) _
  have how : (w.alloc (.cells #[] 108)).ownsRow w.heap.size 108 3 (.slice (some ⟨w.heap.size, 0, none⟩) 0 0) 0 [] := World.ownsRow_lit (base := w.heap.size) (e := 108) (size := 3) w #[] 0 (Nat.le_refl _) (by unfold maxLen; omega) rfl
  have hrd := H.out.2.1.below (hbm.mono hB)
  refine wpList_appendR _ rfl (.tmp 12) (.tmp 13) 52 rfl w.heap.size 108 _ 3 40 Tryd.underlying52 rtx_info rfl (by decide) _ 0 [] rfl how B A n c (L.flatMap txCells) rfl hrd.reads (txc_one L) (by unfold maxLen; omega) (by omega) (by simp) ?_
  intro v5 w2 ho2 hm2
  have hb2 : Below w.heap.size w w2 := hbm.trans (hm2.below (fun g hg => by have e : w.heap.size = g := Option.some.inj hg; omega) (by simp))
  obtain ⟨gx, hgx⟩ : ∃ gx, v5.ownBlock = some gx := by
    rcases hm2.2 with e | ⟨g, e, _⟩
    · exact ⟨_, e⟩
    · exact ⟨g, e⟩
  obtain ⟨cx, rfl⟩ := own_some ho2 hgx
  have hst : StI w w2 L order n cx gx 0 := ⟨by rw [cutX_zero]; simpa using ho2, fun q hq => absurd hq (by omega), hb2⟩
  have HST := Lib.hid hst; clear hst how hrd ho2 hm2 hbm hgx hb2
  simp only [Nat.zero_add]
  go_wp2_with fail
  go_loopw [17] (StRel w L order n cx gx) (fun v _ => n - (intOf v).toNat)
  case atStart => exact ⟨0, rfl, Nat.zero_le _, HST.out⟩
  case round =>
    clear HST
    obtain ⟨i, rfl, hi, hI⟩ := hrel
    obtain ⟨wo, rfl⟩ : ∃ wo : World, wo = wr := ⟨_, rfl⟩
    by_cases hlt : (i : Int) < n
    · obtain ⟨x, hx⟩ : ∃ x, L[i]? = some x := ⟨_, List.getElem?_eq_getElem (by have := H.out.1; omega)⟩
      have hto := toA_of hx
      have hXi := cutX_at (order := order) hx (Nat.le_refl i)
      have hfl := flat_at 3 txCells (fun _ => rfl) _ i x hXi
      have hk2 : wo.cell? ⟨gx, i * 3 + 2, none⟩ = some (.int .i64 x.t.to_) := (hI.row.cellAt (i * 3 + 2) (by omega)).trans (hfl 2 (by omega))
      have hgl : gx < wo.heap.size := (hI.row.lt gx rfl).2
      have hord := HO.out.below (hI.below.mono hB)
      have HORD := Lib.hid hord; clear hord hfl
      have HX := Lib.hid hx; clear hx
      have HXI := Lib.hid hXi; clear hXi
      have HTO := Lib.hid hto; clear hto
      have HI := Lib.hid hI; clear hI
      have hbz := HI.out.below.size
      go_wp2_with fail
      go_loopw [7, 22] (InOrd order i no wo) (fun _ v _ => no - (intOf v).toNat)
      case atStart => exact ⟨0, rfl, Nat.zero_le _, by simp, rfl⟩
      case round =>
        obtain ⟨q, rfl, hq, rfl, rfl⟩ := hrel
        by_cases hltq : (q : Int) < no
        · obtain ⟨g, off, k, hA, hg, hk, hc⟩ := ints_at HORD.out (k := q) (by omega)
          subst hA
          have hgl2 : g < wr.heap.size := by omega
          have hms := mem_take_step (i := i) hk
          have HMS := Lib.hid hms; clear hms hk
          by_cases h1 : i ∈ order.take q
          · rw [decide_eq_true h1]
            have h2 := HMS.out
            rw [decide_eq_true h1, Bool.true_or] at h2
            have H2 := Lib.hid h2; clear h2 h1
            go_wp2_with fail
            go_roundw
            case rel => exact ⟨q + 1, rfl, by omega, by rw [H2.out], rfl⟩
            case measure => simp [intOf]; omega
          · rw [decide_eq_false h1]
            have h2 := HMS.out
            rw [decide_eq_false h1, Bool.false_or] at h2
            by_cases h3 : (k : Int) = i
            · have h4 : k = i := by omega
              rw [decide_eq_true h4] at h2
              have d1 : ((k : Int) == i) = true := by simpa using h3
              have H2 := Lib.hid h2; clear h2 h1 h3 h4
              go_wp2_with fail
              go_roundw
              case rel => exact ⟨q + 1, rfl, by omega, by rw [H2.out], rfl⟩
              case measure => simp [intOf]; omega
            · have h4 : ¬ k = i := by omega
              rw [decide_eq_false h4] at h2
              have d1 : ((k : Int) == i) = false := by simpa using h3
              have H2 := Lib.hid h2; clear h2 h1 h3 h4
              go_wp2_with fail
              go_roundw
              case rel => exact ⟨q + 1, rfl, by omega, by rw [H2.out], rfl⟩
              case measure => simp [intOf]; omega
        · have hq' : order.take q = order := List.take_of_length_le (by have := HLO.out; omega)
          have hlx : L.length = n := H.out.1
          rw [hq']
          clear hq'
          have hsame : ¬ (i ∉ order ∧ 0 ≤ x.t.to_) → StRel w L order n cx gx (.int .i64 ((i : Int) + 1)) wr := fun hne =>
            ⟨i + 1, rfl, by omega, by rw [cutX_same HX.out hne]; exact HI.out.row, fun q hq hqn h0 k hk => by
              by_cases e : q = i
              · subst e; rw [HTO.out] at h0; exact absurd ⟨hqn, h0⟩ hne
              · exact HI.out.ok q (by omega) hqn h0 k hk, HI.out.below⟩
          have HSAME := Lib.hid hsame; clear hsame
          by_cases h1 : i ∈ order
          · rw [decide_eq_true h1]
            have hr := HSAME.out (fun h => h.1 h1)
            have HR := Lib.hid hr; clear hr h1
            go_wp2_with fail
            go_roundw
            case rel => exact HR.out
            case measure => simp [intOf]; omega
          · rw [decide_eq_false h1]
            have H1 := Lib.hid h1; clear h1
            by_cases h0 : 0 ≤ x.t.to_
            · have d0 : decide (0 ≤ x.t.to_) = true := by simpa using h0
              have hX' : wr = wr := rfl
              clear hX'
              go_wp2_with fail
              obtain ⟨w9, rfl⟩ : ∃ w9 : World, w9 = wr := ⟨_, rfl⟩
              go_loopw [45] (StIn L order i no w9) (fun v _ => no - (intOf v).toNat)
              case atStart => exact ⟨0, 0, rfl, Nat.zero_le _, by simp, rfl⟩
              case round =>
                obtain ⟨q2, m2, rfl, hq2, hok, rfl⟩ := hrel
                have HOK := Lib.hid hok; clear hok
                by_cases hlt2 : (q2 : Int) < no
                · obtain ⟨g, off, k, hA, hg, hk, hc⟩ := ints_at HORD.out (k := q2) (by omega)
                  subst hA
                  have hgl2 : g < w9.heap.size := by omega
                  have hkn := HIN.out k (List.mem_of_getElem? hk)
                  obtain ⟨y, hy⟩ : ∃ y, L[k]? = some y := ⟨_, List.getElem?_eq_getElem (by omega)⟩
                  obtain ⟨z, hz, hzf⟩ := cutX_from (order := order) (i := i) hy
                  have hfl := flat_at 3 txCells (fun _ => rfl) _ k z hz
                  have hc1 : w9.cell? ⟨gx, k * 3 + 1, none⟩ = some (.int .i64 z.t.from_) := (HI.out.row.cellAt (k * 3 + 1) (by omega)).trans (hfl 1 (by omega))
                  rw [hzf] at hc1
                  have hfr := fromA_of hy
                  have hkn' : (k : Int) < n := by omega
                  have htk := take_snoc order q2 k hk
                  have HTK := Lib.hid htk; clear htk
                  have HK := Lib.hid hk; clear hk hfl hz hzf hy
                  have HFR := Lib.hid hfr; clear hfr
                  by_cases hb : x.t.to_ < y.t.from_
                  · have d1 : decide (x.t.to_ < y.t.from_) = true := by simpa using hb
                    have hf : decide (StartsP (tsOf L) order) = false := by
                      simp only [decide_eq_false_iff_not]
                      intro hst
                      exact hst.1 i (by rw [HLEN.out]; omega) H1.out (by rw [HTO.out]; exact h0) k (List.mem_of_getElem? HK.out) (by rw [HTO.out, HFR.out]; exact hb)
                    have HF := Lib.hid hf; clear hf hb
                    go_wp2_with fail
                    go_quiet (fail)
                    go_wp2_with fail
                    go_ret
                    rw [HF.out]
                    exact ⟨rfl, below_drewN (below_drewN HI.out.below _) _⟩
                  · have d1 : decide (x.t.to_ < y.t.from_) = false := by simpa using hb
                    have HB2 := Lib.hid hb; clear hb
                    go_wp2_with fail
                    go_quiet (fail)
                    go_wp2_with fail
                    go_roundw
                    case rel =>
                      refine ⟨q2 + 1, _, rfl, by omega, fun k' hk' => ?_, rfl⟩
                      rw [HTK.out] at hk'
                      rcases List.mem_append.1 hk' with hk' | hk'
                      · have := HOK.out k' hk'; omega
                      · rw [List.mem_singleton.1 hk', HTO.out, HFR.out]; have := HB2.out; omega
                    case measure => simp [intOf]; omega
                · have hall : ∀ k ∈ order, ¬ toA (tsOf L) i < fromA (tsOf L) k := fun k hk => HOK.out k (by rw [List.take_of_length_le (by have := HLO.out; omega)]; exact hk)
                  have hrow := own_set HI.out.row (i * 3 + 2) (.int .i64 (-1))
                  rw [flat_set 3 txCells (fun _ => rfl) 2 _ (by omega) _ i x ⟨⟨x.t.ops, x.t.from_, -1⟩, x.A, x.n, x.c⟩ HXI.out rfl, ← cutX_step HX.out H1.out h0] at hrow
                  have hfz := HI.out.row.frozenAt (i * 3 + 2)
                  have hrel2 : ∀ w', w' = (w9.drewN m2).setCell ⟨gx, i * 3 + 2, none⟩ (.int .i64 (-1)) → StRel w L order n cx gx (.int .i64 ((i : Int) + 1)) w' := fun w' e => by
                    subst e
                    refine ⟨i + 1, rfl, by omega, hrow, fun q hq hqn h0 k hk => ?_, (below_drewN HI.out.below m2).setCell (p := ⟨gx, i * 3 + 2, none⟩) (HI.out.row.lt gx rfl).1 _⟩
                    by_cases e : q = i
                    · subst e; exact hall k hk
                    · exact HI.out.ok q (by omega) hqn h0 k hk
                  have HREL := Lib.hid hrel2; clear hrel2 hrow hall
                  go_wp2_with fail
                  go_roundw
                  case rel => exact HREL.out _ rfl
                  case measure => simp [intOf]; omega
            · have d0 : decide (0 ≤ x.t.to_) = false := by simpa using h0
              have hr := HSAME.out (fun h => h0 h.2)
              have HR := Lib.hid hr; clear hr
              go_wp2_with fail
              go_roundw
              case rel => exact HR.out
              case measure => simp [intOf]; omega
    · have hin' : i = n := by omega
      subst hin'
      have hts := cutX_ts L order i (by rw [H.out.1]; exact Nat.le_refl _)
      have hrT : ReadsT wo wo.heap.size (some ⟨gx, 0, none⟩) i (cutX L order i) := by
        refine ⟨by rw [cutX_len]; exact H.out.1, Rd.of_own hI.row, fun y hy => ?_⟩
        obtain ⟨x, hx, e1, e2, e3, e4⟩ := cutX_mem hy
        rw [e1, e2, e4]
        obtain ⟨hro, hfi⟩ := H.out.2.2 x hx
        exact ⟨⟨hro.1, ((hro.2.below (hI.below.mono hB)).more (Nat.le_trans hB hI.below.size))⟩, hfi⟩
      have hfa := fits_any (cutX L order i) order wo.heap.size i cx no co (some ⟨gx, 0, none⟩) Ao wo hrT (Nat.le_refl _) hn (fun y hy => by
        obtain ⟨x, hx, _, e2, _, _⟩ := cutX_mem hy
        rw [e2]; exact HS.out x hx) ((HO.out.below (hI.below.mono hB)).more (Nat.le_trans hB hI.below.size)) hno
      rw [hts] at hfa
      have hdec : decide (FitsP (cutP (tsOf L) order) order) = decide (StartsP (tsOf L) order) := by
        rw [decide_eq_decide]
        exact ⟨fun hf => ⟨fun q hq hqn h0 k hk => hI.ok q (by rw [HLEN.out] at hq; exact hq) hqn h0 k hk, hf⟩, fun hf => hf.2⟩
      rw [hdec] at hfa
      have hbw := hI.below
      have HFA := Lib.hid hfa; clear hfa hts hdec hI hrT
      go_wp2_with fail
      refine HFA.out.mono ?_
      rintro e w3 ⟨rfl, hb3⟩
      have hbf := hbw.trans (hb3.mono hbw.size)
      go_wp2_with fail
      go_ret
      exact ⟨rfl, hbf⟩
end Go.Proofs.YtnahkpfamocnfaaDoor
