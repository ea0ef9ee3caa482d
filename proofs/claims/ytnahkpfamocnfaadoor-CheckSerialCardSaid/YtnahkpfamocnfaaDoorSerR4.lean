/- chainmailref.Serial: its contract; what it calls again and again, by induction. -/
import Derived.Test.YtnahkpfamocnfaaDoorSerR3
import Derived.Laws.EntriesVeiled
import Derived.Deep.DeepCutAuto
namespace Go.Proofs.YtnahkpfamocnfaaDoor
open Go.RowKit
section
variable {P : Program} {ops : Array Oper} {Q : Exit → Act → World → Prop} {md : Region.Mode}
theorem rtwoH {S : World → Prop} (i j : Nat) {o o' : Oper} {fuel : Nat} {listed : Array Bool} {a : Act} {w : World} (hr : Region.ready md ops listed = [i, j]) (ho : ops[i]? = some o) (ho' : ops[j]? = some o')
    (hw : Region.wanted o (yielded ops a.tmps) = true) (hw' : Region.wanted o' (yielded ops a.tmps) = true)
    (h : ∀ K' : Act → World → Prop, (∀ a w, S w → wpAnyH P md ops Q S fuel (listed.setIfInBounds i true) a w → K' a w) → Oper.wp P o a w K' Q)
    (h' : ∀ K' : Act → World → Prop, (∀ a w, S w → wpAnyH P md ops Q S fuel (listed.setIfInBounds j true) a w → K' a w) → Oper.wp P o' a w K' Q) : wpAnyH P md ops Q S (fuel + 1) listed a w :=
  wpAnyH_all hr (by simp) (fun k hk => by
    rcases (by simpa using hk : k = i ∨ k = j) with rfl | rfl
    · exact wpOp_step ho (fun K' hK => by rw [if_pos hw]; exact h K' (fun a w hs ha => hK a w ⟨hs, ha⟩))
    · exact wpOp_step ho' (fun K' hK => by rw [if_pos hw']; exact h' K' (fun a w hs ha => hK a w ⟨hs, ha⟩)))
theorem rskipH {S : World → Prop} (i : Nat) {oi : Oper} {fuel : Nat} {listed : Array Bool} {a : Act} {w : World} (hi : ops[i]? = some oi)
    (hs : Region.noSelect ops = true) (hf : Region.free md ops listed i = true) (hr : (Region.ready md ops listed).contains i = true)
    (hQ : ∀ c a w, Q (.panic c) (a.put oi.dst undef) w → Q (.panic c) a w) (hw : Region.wanted oi (yielded ops a.tmps) = false) (hS : S w)
    (h : wpAnyH P md ops Q S fuel (listed.setIfInBounds i true) (a.put oi.dst undef) w) : wpAnyH P md ops Q S (fuel + 1) listed a w :=
  wpAnyH_take hi hs hf hr hQ (.inr ⟨hw, rfl⟩) hS h
end
/- Plain: tryP, one step at a time. -/
def nextT (l : List TxP) (order : List Nat) (i : Nat) : Nat → Option (List Nat)
  | 0 => none
  | f' + 1 => tryP l f' (order ++ [i])
def tailT (l : List TxP) (f : Nat) (order : List Nat) (i : Nat) : Option (List Nat) := if i ∈ order ∨ ¬ StartsP l (order ++ [i]) then none else nextT l order i f
theorem tryP_eq {l : List TxP} {f : Nat} {order : List Nat} (hd : order.Nodup) (hl : ∀ x ∈ order, x < l.length) (hf : order.length + f = l.length) :
    tryP l f order = if FitsP l order then some order else (List.range l.length).findSome? (tailT l f order) := by
  cases f with
  | zero =>
    unfold tryP
    have : (List.range l.length).findSome? (tailT l 0 order) = none := by
      rw [List.findSome?_eq_none_iff]
      intro i hi
      have hi := List.mem_range.1 hi
      unfold tailT
      by_cases hin : i ∈ order
      · rw [if_pos (.inl hin)]
      · have := order_free hd hl hi hin; omega
    rw [this]
  | succ f =>
    unfold tryP
    rfl
def TryPost (o : Option (List Nat)) (w : World) (e : Ending) (w' : World) : Prop :=
  ∃ A k c, e = .returned (.tuple #[.slice A k c, .bool o.isSome]) ∧ k = (o.getD []).length ∧ Rd w' w'.heap.size 1 A k (intsV (o.getD [])) ∧ Below w.heap.size w w'
def fnV (pl pt : Nat) : Value := .func (.func 42) #[] #[.pointer (some ⟨pl, 0, none⟩), .pointer (some ⟨pt, 0, none⟩)]
def TryRel (l : List TxP) (f : Nat) (order : List Nat) (n : Nat) (w : World) (v : Value) (wr : World) : Prop :=
  ∃ j : Nat, v = .int .i64 j ∧ j ≤ n ∧ (List.range j).findSome? (tailT l f order) = none ∧ Below w.heap.size w wr
def InOrd2 (order : List Nat) (i no : Nat) (w : World) (v7 v25 : Value) (wr : World) : Prop := ∃ q : Nat, v25 = .int .i64 q ∧ q ≤ no ∧ v7 = .bool (decide (i ∈ order.take q)) ∧ wr = w
theorem ReadsT.more {w : World} {B B' n : Nat} {A : Option Addr} {l : List TxR} (h : ReadsT w B A n l) (hB : B ≤ B') : ReadsT w B' A n l := ⟨h.1, h.2.1.more hB, fun x hx => ⟨⟨(h.2.2 x hx).1.1, (h.2.2 x hx).1.2.more hB⟩, (h.2.2 x hx).2⟩⟩
theorem ints_one (l : List Nat) : ∀ u ∈ intsV l, u.oneCell' = true := by
  intro u hu
  unfold intsV at hu
  obtain ⟨x, _, rfl⟩ := List.mem_map.1 hu
  rfl
set_option maxRecDepth 100000 in
set_option maxHeartbeats 8000000 in
theorem try_any (L : List TxR) (B n c pl pt : Nat) (A : Option Addr) (hn : n ≤ 8) (hs : ∀ x ∈ L, x.n ≤ 1000) : ∀ (f : Nat) (order : List Nat) (w : World) (Bo co : Nat) (Ao : Option Addr), w.cell? ⟨pl, 0, none⟩ = some (.slice A n c) → w.cell? ⟨pt, 0, none⟩ = some (fnV pl pt) →
    ReadsT w B A n L → B ≤ w.heap.size → order.Nodup → (∀ k ∈ order, k < n) → order.length + f = n → Rd w Bo 1 Ao order.length (intsV order) → Bo ≤ w.heap.size →
    Calls Tryd.prog 42 #[.slice Ao order.length co, .pointer (some ⟨pl, 0, none⟩), .pointer (some ⟨pt, 0, none⟩)] w (TryPost (tryP (tsOf L) f order) w) := by
  intro f
  induction f using Nat.strongRecOn with
  | ind f ih =>
  intro order w Bo co Ao hpl hpt h hB hd hl hf ho hBo
  have hlen : (tsOf L).length = n := by rw [tsOf_len]; exact h.1
  have hte : tryP (tsOf L) f order = if FitsP (tsOf L) order then some order else (List.range n).findSome? (tailT (tsOf L) f order) := by
    rw [← hlen]; exact tryP_eq hd (by rw [hlen]; exact hl) (by rw [hlen]; exact hf)
  have hlo : order.length ≤ 8 := by omega
  have hpll := World.block_lt_of_cell? w _ hpl
  have hptl := World.block_lt_of_cell? w _ hpt
  have HTE := Lib.hid hte; clear hte
  have HLEN := Lib.hid hlen; clear hlen
  have IH := Lib.hid ih; clear ih
  have H := Lib.hid h; clear h
  have HD := Lib.hid hd; clear hd
  have HL := Lib.hid hl; clear hl
  have HF0 := Lib.hid hf; clear hf
  have HS := Lib.hid hs; clear hs
  have HO := Lib.hid ho; clear ho
  have HPT := Lib.hid hpt; clear hpt
  have hfi := fits_any L order w.heap.size n c order.length co A Ao w (H.out.more hB) (Nat.le_refl _) (by omega) HS.out (HO.out.more hBo) (by omega)
  have HFI := Lib.hid hfi; clear hfi
  generalize hno : order.length = no at *
  have HNO := Lib.hid hno; clear hno
  go_enter Tryd.func42, Tryd.ntmps42
  go_wp2_with fail
  refine HFI.out.mono ?_
  rintro e w1 ⟨rfl, hb1⟩
  by_cases hfit : FitsP (tsOf L) order
  · rw [decide_eq_true hfit]
    have hte2 : tryP (tsOf L) f order = some order := by rw [HTE.out, if_pos hfit]
    have HTE2 := Lib.hid hte2; clear hte2 hfit
    have how : (w1.alloc (.cells #[] 3)).ownsRow w.heap.size 3 1 (.slice (some ⟨w1.heap.size, 0, none⟩) 0 0) 0 [] := World.ownsRow_lit (base := w.heap.size) (e := 3) (size := 1) w1 #[] 0 hb1.size (by unfold maxLen; omega) rfl
    have hbm : Below w.heap.size w (w1.alloc (.cells #[] 3)) := hb1.alloc hb1.size _
    have hrd := HO.out.below (hbm.mono hBo)
    go_wp2_with (at_builtin; refine stop ?_)
    refine back ?_
    refine wpList_appendR _ rfl (.tmp 15) (.tmp 16) 47 rfl w.heap.size 3 (.int .i64 0) 1 8 Tryd.underlying47 int_info rfl (by decide) _ 0 [] rfl how Bo Ao no co (intsV order) rfl hrd.reads (ints_one order) (by unfold maxLen; omega) (by omega) (by have := hb1.size; simp; omega) ?_
    intro v4 w2 ho2 hm2
    have hb2 : Below w.heap.size w w2 := hbm.trans (hm2.below (fun g hg => by have e : w1.heap.size = g := Option.some.inj hg; have := hb1.size; omega) (by have := hb1.size; simp; omega))
    simp only [Nat.zero_add, List.nil_append] at ho2
    obtain ⟨A4, c4, rfl, _, _⟩ := own_slice ho2
    have hrd4 := Rd.of_own ho2
    have HR4 := Lib.hid hrd4; clear hrd4 ho2 hm2 hrd hbm how
    go_wp2_with fail
    go_ret2
    rw [HTE2.out]
    exact ⟨A4, no, c4, rfl, HNO.out.symm, HR4.out, hb2⟩
  · rw [decide_eq_false hfit]
    have hte2 : tryP (tsOf L) f order = (List.range n).findSome? (tailT (tsOf L) f order) := by rw [HTE.out, if_neg hfit]
    have HTE2 := Lib.hid hte2; clear hte2 hfit HTE
    have hpl1 : w1.cell? ⟨pl, 0, none⟩ = some (.slice A n c) := (hb1.cell (p := ⟨pl, 0, none⟩) hpll).trans hpl
    have hpll1 : pl < w1.heap.size := by have := hb1.size; omega
    go_wp2_with fail
    clear hpl1 hpll1
    go_loopw [20] (TryRel (tsOf L) f order n w) (fun v _ => n - (intOf v).toNat)
    case atStart => exact ⟨0, rfl, Nat.zero_le _, rfl, hb1⟩
    case round =>
      clear hb1
      obtain ⟨i, rfl, hi, hfind, hbw⟩ := hrel
      obtain ⟨wo, rfl⟩ : ∃ wo : World, wo = wr := ⟨_, rfl⟩
      have HFIND := Lib.hid hfind; clear hfind
      by_cases hlt : (i : Int) < n
      · have hin : i < n := by omega
        have hord := HO.out.below (hbw.mono hBo)
        have HORD := Lib.hid hord; clear hord
        have hbz := hbw.size
        have hplo : wo.cell? ⟨pl, 0, none⟩ = some (.slice A n c) := (hbw.cell (p := ⟨pl, 0, none⟩) hpll).trans hpl
        have hpto : wo.cell? ⟨pt, 0, none⟩ = some (fnV pl pt) := (hbw.cell (p := ⟨pt, 0, none⟩) hptl).trans HPT.out
        have HPTO := Lib.hid hpto; clear hpto
        go_wp2_with fail
        go_loopw [7, 25] (InOrd2 order i no wo) (fun _ v _ => no - (intOf v).toNat)
        case atStart => exact ⟨0, rfl, Nat.zero_le _, by simp, rfl⟩
        case round =>
          obtain ⟨q, rfl, hq, rfl, rfl⟩ := hrel
          by_cases hltq : (q : Int) < no
          · obtain ⟨g, off, k, hA, hg, hk, hc⟩ := ints_at HORD.out (k := q) (by omega)
            subst hA
            have hgl2 : g < wr.heap.size := by omega
            have hms := mem_take_step (i := i) hk
            have HMS := Lib.hid hms; clear hms hk
            by_cases h1 : i ∈ order.take q
            · rw [decide_eq_true h1]
              have h2 := HMS.out
              rw [decide_eq_true h1, Bool.true_or] at h2
              have H2 := Lib.hid h2; clear h2 h1
              go_wp2_with fail
              go_roundw
              case rel => exact ⟨q + 1, rfl, by omega, by rw [H2.out], rfl⟩
              case measure => simp [intOf]; omega
            · rw [decide_eq_false h1]
              have h2 := HMS.out
              rw [decide_eq_false h1, Bool.false_or] at h2
              by_cases h3 : (k : Int) = i
              · have h4 : k = i := by omega
                rw [decide_eq_true h4] at h2
                have d1 : ((k : Int) == i) = true := by simpa using h3
                have H2 := Lib.hid h2; clear h2 h1 h3 h4
                go_wp2_with fail
                go_roundw
                case rel => exact ⟨q + 1, rfl, by omega, by rw [H2.out], rfl⟩
                case measure => simp [intOf]; omega
              · have h4 : ¬ k = i := by omega
                rw [decide_eq_false h4] at h2
                have d1 : ((k : Int) == i) = false := by simpa using h3
                have H2 := Lib.hid h2; clear h2 h1 h3 h4
                go_wp2_with fail
                go_roundw
                case rel => exact ⟨q + 1, rfl, by omega, by rw [H2.out], rfl⟩
                case measure => simp [intOf]; omega
          · have hq' : order.take q = order := List.take_of_length_le (by have := HNO.out; omega)
            rw [hq']
            clear hq'
            have HBW := Lib.hid hbw; clear hbw
            have hplr : pl < wr.heap.size := by omega
            have hBow : Bo ≤ wr.heap.size := by omega
            have hLr : ReadsT wr wr.heap.size A n L := (H.out.below (HBW.out.mono hB)).more (by omega)
            have HLr := Lib.hid hLr; clear hLr
            have hin8 : ∀ k ∈ order ++ [i], k < n := fun k hk => by
              rcases List.mem_append.1 hk with hk | hk
              · exact HL.out k hk
              · rw [List.mem_singleton.1 hk]; exact hin
            have HIN8 := Lib.hid hin8; clear hin8
            generalize hbb : decide (i ∈ order) = b
            have HBB := Lib.hid hbb; clear hbb
            go_upto_region 12 with (fail)
            go_cut [47] (fun s47 wx => s47 = .bool (b || !decide (StartsP (tsOf L) (order ++ [i]))) ∧ Below wr.heap.size wr wx)
            case first =>
              have hS0 : Below wr.heap.size wr wr.drew := (Below.refl _ _).drew
              rcases b with _ | _
              rotate_left
              · refine wp_region_any (by kernel_rfl) ?_
                change wpAny _ _ _ _ _ _ _ (World.drew _)
                refine rheld (fun w' => Below wr.heap.size wr w') ?_
                refine rtakeH 0 rfl (by kernel_rfl) (by kernel_rfl) (by kernel_rfl) (fun _ _ _ h => h) (by kernel_rfl) hS0 (fun w' hw' => by go_simp; rfl) ?_
                refine rtakeH 1 rfl (by kernel_rfl) (by kernel_rfl) (by kernel_rfl) (fun _ _ _ h => h) (by kernel_rfl) hS0 (fun w' hw' => by go_simp; rfl) ?_
                refine rskipH 2 rfl (by kernel_rfl) (by kernel_rfl) (by kernel_rfl) (fun _ _ _ h => h) (by kernel_rfl) hS0 ?_
                refine rskipH 3 rfl (by kernel_rfl) (by kernel_rfl) (by kernel_rfl) (fun _ _ _ h => h) (by kernel_rfl) hS0 ?_
                refine rskipH 4 rfl (by kernel_rfl) (by kernel_rfl) (by kernel_rfl) (fun _ _ _ h => h) (by kernel_rfl) hS0 ?_
                refine rskipH 6 rfl (by kernel_rfl) (by kernel_rfl) (by kernel_rfl) (fun _ _ _ h => h) (by kernel_rfl) hS0 ?_
                refine rskipH 5 rfl (by kernel_rfl) (by kernel_rfl) (by kernel_rfl) (fun _ _ _ h => h) (by kernel_rfl) hS0 ?_
                refine rskipH 7 rfl (by kernel_rfl) (by kernel_rfl) (by kernel_rfl) (fun _ _ _ h => h) (by kernel_rfl) hS0 ?_
                refine rskipH 8 rfl (by kernel_rfl) (by kernel_rfl) (by kernel_rfl) (fun _ _ _ h => h) (by kernel_rfl) hS0 ?_
                refine rskipH 9 rfl (by kernel_rfl) (by kernel_rfl) (by kernel_rfl) (fun _ _ _ h => h) (by kernel_rfl) hS0 ?_
                refine rskipH 10 rfl (by kernel_rfl) (by kernel_rfl) (by kernel_rfl) (fun _ _ _ h => h) (by kernel_rfl) hS0 ?_
                refine rtakeH 11 rfl (by kernel_rfl) (by kernel_rfl) (by kernel_rfl) (fun _ _ _ h => h) (by kernel_rfl) hS0 (fun w' hw' => by go_simp; rfl) ?_
                refine wpAnyH_done (by kernel_rfl) ?_ _
                go_wp2_with fail
                go_meet
                exact ⟨rfl, hS0⟩
              · refine wp_region_any (by kernel_rfl) ?_
                change wpAny _ _ _ _ _ _ _ (World.drew _)
                refine rheld (fun w' => Below wr.heap.size wr w') ?_
                refine rtakeH 0 rfl (by kernel_rfl) (by kernel_rfl) (by kernel_rfl) (fun _ _ _ h => h) (by kernel_rfl) hS0 (fun w' hw' => by go_simp; rfl) ?_
                refine rtakeH 1 rfl (by kernel_rfl) (by kernel_rfl) (by kernel_rfl) (fun _ _ _ h => h) (by kernel_rfl) hS0 (fun w' hw' => by go_simp; rfl) ?_
                refine rtakeH 2 rfl (by kernel_rfl) (by kernel_rfl) (by kernel_rfl) (fun _ _ _ h => h) (by kernel_rfl) hS0 (fun w' hw' => by have hcp := (hw'.cell (p := ⟨pl, 0, none⟩) hplr).trans hplo; go_simp; rfl) ?_
                refine rtakeH 4 rfl (by kernel_rfl) (by kernel_rfl) (by kernel_rfl) (fun _ _ _ h => h) (by kernel_rfl) hS0 (fun w' hw' => by go_simp; rfl) ?_
                refine rtakeH 6 rfl (by kernel_rfl) (by kernel_rfl) (by kernel_rfl) (fun _ _ _ h => h) (by kernel_rfl) hS0 (fun w' hw' => by go_simp; rfl) ?_
                refine rtwoH 3 7 (by kernel_rfl) rfl rfl (by kernel_rfl) (by kernel_rfl) (fun K hK => ?ordP) (fun K hK => ?ordQ)
                case' ordP =>
                  go_simp
                  refine hK _ _ (((Below.refl _ _).alloc (Nat.le_refl _) _).drew) ?_
                  clear hK K
                  refine rtwoH 5 7 (by kernel_rfl) rfl rfl (by kernel_rfl) (by kernel_rfl) (fun K hK => ?ordR) (fun K hK => ?ordS)
                case' ordR =>
                  have hbA : Below wr.heap.size wr ((wr.alloc (.cells #[] 3)).drew) := ((Below.refl _ _).alloc (Nat.le_refl _) _).drew
                  have hoA : World.ownsRow ((wr.alloc (.cells #[] 3)).drew) wr.heap.size 3 1 (.slice (some ⟨wr.heap.size, 0, none⟩) 0 0) 0 [] := World.ownsRow_lit (base := wr.heap.size) (e := 3) (size := 1) wr #[] 0 (Nat.le_refl _) (by unfold maxLen; omega) rfl
                  have hrA := HORD.out.below (hbA.mono hBow)
                  refine wp_appendR ((wr.alloc (.cells #[] 3)).drew) (.tmp 39) (.tmp 40) 47 rfl wr.heap.size 3 (.int .i64 0) 1 8 Tryd.underlying47 int_info rfl (by decide) _ 0 [] rfl hoA Bo Ao no co (intsV order) rfl hrA.reads (ints_one order) (by unfold maxLen; omega) (by omega) hbA.size ?_
                  intro v41 w5 ho5 hm5
                  simp only [Nat.zero_add, List.nil_append] at ho5
                  obtain ⟨A5, c5, rfl, _, _⟩ := own_slice ho5
                  have hS5 : Below wr.heap.size wr w5 := hbA.trans (hm5.below (fun g hg => by have e : wr.heap.size = g := Option.some.inj hg; omega) hbA.size)
                  clear hrA hoA hm5
                  go_simp
                  refine hK _ _ hS5 ?_
                  clear hK K
                  refine ronlyH 7 (by kernel_rfl) rfl (by kernel_rfl) (fun K hK => ?_)
                  go_simp
                  refine hK _ _ (hS5.alloc hS5.size _) ?_
                  clear hK K
                  have hown : World.ownsRow (w5.alloc (.cells #[.int .i64 (i : Int)] 3)) wr.heap.size 3 1 (.slice A5 no c5) no (intsV order) := ho5.alloc _
                  have h43 : Rd (w5.alloc (.cells #[.int .i64 (i : Int)] 3)) ((w5.alloc (.cells #[.int .i64 (i : Int)] 3))).heap.size 1 (some ⟨w5.heap.size, 0, none⟩) 1 (intsV [i]) := by have h := Rd.lit w5 #[.int .i64 (i : Int)] 3 1 1 rfl; simpa [intsV] using h
                  have hSt : Below wr.heap.size wr (w5.alloc (.cells #[.int .i64 (i : Int)] 3)) := hS5.alloc hS5.size _
                  obtain ⟨wt, hwt⟩ : ∃ wt : World, wt = (w5.alloc (.cells #[.int .i64 (i : Int)] 3)) := ⟨_, rfl⟩
                  rw [← hwt] at hown h43 hSt ⊢
                  clear hwt hS5 ho5 hbA
                case' ordS =>
                  go_simp
                  refine hK _ _ ((((Below.refl _ _).alloc (Nat.le_refl _) _).alloc (by simp) _).drew) ?_
                  clear hK K
                  refine ronlyH 5 (by kernel_rfl) rfl (by kernel_rfl) (fun K hK => ?_)
                  have hbA : Below wr.heap.size wr (((wr.alloc (.cells #[] 3)).alloc (.cells #[.int .i64 (i : Int)] 3)).drew) := (((Below.refl _ _).alloc (Nat.le_refl _) _).alloc (by simp) _).drew
                  have hoA : World.ownsRow (((wr.alloc (.cells #[] 3)).alloc (.cells #[.int .i64 (i : Int)] 3)).drew) wr.heap.size 3 1 (.slice (some ⟨wr.heap.size, 0, none⟩) 0 0) 0 [] := (World.ownsRow_lit (base := wr.heap.size) (e := 3) (size := 1) wr #[] 0 (Nat.le_refl _) (by unfold maxLen; omega) rfl).alloc _
                  have hrA := HORD.out.below (hbA.mono hBow)
                  refine wp_appendR (((wr.alloc (.cells #[] 3)).alloc (.cells #[.int .i64 (i : Int)] 3)).drew) (.tmp 39) (.tmp 40) 47 rfl wr.heap.size 3 (.int .i64 0) 1 8 Tryd.underlying47 int_info rfl (by decide) _ 0 [] rfl hoA Bo Ao no co (intsV order) rfl hrA.reads (ints_one order) (by unfold maxLen; omega) (by omega) hbA.size ?_
                  intro v41 w5 ho5 hm5
                  simp only [Nat.zero_add, List.nil_append] at ho5
                  obtain ⟨A5, c5, rfl, _, _⟩ := own_slice ho5
                  have hS5 : Below wr.heap.size wr w5 := hbA.trans (hm5.below (fun g hg => by have e : wr.heap.size = g := Option.some.inj hg; omega) hbA.size)
                  have h43 : Rd w5 w5.heap.size 1 (some ⟨wr.heap.size + 1, 0, none⟩) 1 (intsV [i]) := by
                    have h := Rd.lit (wr.alloc (.cells #[] 3)) #[.int .i64 (i : Int)] 3 1 1 rfl
                    have e1 : (wr.alloc (.cells #[] 3)).heap.size = wr.heap.size + 1 := by simp
                    rw [e1] at h
                    have h2 := Rd.fr h ((((Fr.refl (fun k => some k = some wr.heap.size) _).drew).trans hm5.1)) (by simp) (fun g off e _ => by injection e with e; injection e with e _; intro e2; injection e2; omega)
                    simpa [intsV] using h2.more (by have := hm5.size; simp at this; omega)
                  clear hrA hoA hm5
                  go_simp
                  refine hK _ _ hS5 ?_
                  clear hK K
                  have hown : World.ownsRow w5 wr.heap.size 3 1 (.slice A5 no c5) no (intsV order) := ho5
                  have hSt : Below wr.heap.size wr w5 := hS5
                  obtain ⟨wt, rfl⟩ : ∃ wt : World, wt = w5 := ⟨_, rfl⟩
                  clear hS5 ho5 hbA
                case' ordQ =>
                  go_simp
                  refine hK _ _ (((Below.refl _ _).alloc (Nat.le_refl _) _).drew) ?_
                  clear hK K
                  refine ronlyH 3 (by kernel_rfl) rfl (by kernel_rfl) (fun K hK => ?_)
                  go_simp
                  refine hK _ _ ((((Below.refl _ _).alloc (Nat.le_refl _) _).alloc (by simp) _).drew) ?_
                  clear hK K
                  refine ronlyH 5 (by kernel_rfl) rfl (by kernel_rfl) (fun K hK => ?_)
                  have hbA : Below wr.heap.size wr (((wr.alloc (.cells #[.int .i64 (i : Int)] 3)).alloc (.cells #[] 3)).drew) := (((Below.refl _ _).alloc (Nat.le_refl _) _).alloc (by simp) _).drew
                  have hoA : World.ownsRow (((wr.alloc (.cells #[.int .i64 (i : Int)] 3)).alloc (.cells #[] 3)).drew) wr.heap.size 3 1 (.slice (some ⟨wr.heap.size + 1, 0, none⟩) 0 0) 0 [] := by
                    have h := World.ownsRow_lit (base := wr.heap.size) (e := 3) (size := 1) (wr.alloc (.cells #[.int .i64 (i : Int)] 3)) #[] 0 (by simp) (by unfold maxLen; omega) rfl
                    have e1 : (wr.alloc (.cells #[.int .i64 (i : Int)] 3)).heap.size = wr.heap.size + 1 := by simp
                    rw [e1] at h
                    exact h
                  have hrA := HORD.out.below (hbA.mono hBow)
                  refine wp_appendR (((wr.alloc (.cells #[.int .i64 (i : Int)] 3)).alloc (.cells #[] 3)).drew) (.tmp 39) (.tmp 40) 47 rfl wr.heap.size 3 (.int .i64 0) 1 8 Tryd.underlying47 int_info rfl (by decide) _ 0 [] rfl hoA Bo Ao no co (intsV order) rfl hrA.reads (ints_one order) (by unfold maxLen; omega) (by omega) hbA.size ?_
                  intro v41 w5 ho5 hm5
                  simp only [Nat.zero_add, List.nil_append] at ho5
                  obtain ⟨A5, c5, rfl, _, _⟩ := own_slice ho5
                  have hS5 : Below wr.heap.size wr w5 := hbA.trans (hm5.below (fun g hg => by have e : wr.heap.size + 1 = g := Option.some.inj hg; omega) hbA.size)
                  have h43 : Rd w5 w5.heap.size 1 (some ⟨wr.heap.size, 0, none⟩) 1 (intsV [i]) := by
                    have h := (Rd.lit wr #[.int .i64 (i : Int)] 3 1 1 rfl).fr ((Fr.refl (fun k => some k = some (wr.heap.size + 1)) _).alloc (.cells #[] 3)) (by simp) (fun g off e _ => by injection e with e; injection e with e _; intro e2; injection e2; omega)
                    have h2 := Rd.fr h ((((Fr.refl (fun k => some k = some (wr.heap.size + 1)) _).drew).trans hm5.1)) (by simp) (fun g off e _ => by injection e with e; injection e with e _; intro e2; injection e2; omega)
                    simpa [intsV] using h2.more (by have := hm5.size; simp at this; omega)
                  clear hrA hoA hm5
                  go_simp
                  refine hK _ _ hS5 ?_
                  clear hK K
                  have hown : World.ownsRow w5 wr.heap.size 3 1 (.slice A5 no c5) no (intsV order) := ho5
                  have hSt : Below wr.heap.size wr w5 := hS5
                  obtain ⟨wt, rfl⟩ : ∃ wt : World, wt = w5 := ⟨_, rfl⟩
                  clear hS5 ho5 hbA
                all_goals
                  refine ronlyH 8 (by kernel_rfl) rfl (by kernel_rfl) (fun K hK => ?_)
                  refine wp_appendR wt (.tmp 41) (.tmp 43) 47 rfl wr.heap.size 3 (.int .i64 0) 1 8 Tryd.underlying47 int_info rfl (by decide) _ no (intsV order) rfl hown _ _ 1 1 (intsV [i]) rfl h43.reads (ints_one [i]) (by unfold maxLen; omega) (by omega) hSt.size ?_
                  intro v44 w8 ho8 hm8
                  obtain ⟨A8, c8, rfl, _, _⟩ := own_slice ho8
                  have hS8 : Below wr.heap.size wr w8 := hSt.trans (hm8.below (fun g hg => (hown.lt g hg).1) hSt.size)
                  have hrd8 : Rd w8 w8.heap.size 1 A8 (no + 1) (intsV (order ++ [i])) := by
                    have h := Rd.of_own ho8
                    rw [intsV_push]
                    exact h
                  clear hown h43 hSt ho8 hm8
                  go_simp
                  refine hK _ _ hS8 ?_
                  clear hK K
                  refine ronlyH 9 (by kernel_rfl) rfl (by kernel_rfl) (fun K hK => ?_)
                  go_simp
                  refine (starts_any L (order ++ [i]) w8.heap.size n c (no + 1) c8 A A8 w8 ((HLr.out.below hS8).more hS8.size) (Nat.le_refl _) (by omega) HS.out hrd8 (by omega) HIN8.out).mono ?_
                  rintro e w9 ⟨rfl, hb9⟩
                  have hS9 : Below wr.heap.size wr w9 := hS8.trans (hb9.mono hS8.size)
                  generalize hsb : decide (StartsP (tsOf L) (order ++ [i])) = sb
                  have HSB := Lib.hid hsb; clear hsb
                  go_simp
                  refine hK _ _ hS9 ?_
                  clear hK K
                  refine ronlyH 10 (by kernel_rfl) rfl (by kernel_rfl) (fun K hK => ?_)
                  go_simp
                  refine hK _ _ hS9 ?_
                  clear hK K
                  refine ronlyH 11 (by kernel_rfl) rfl (by kernel_rfl) (fun K hK => ?_)
                  go_simp
                  refine hK _ _ hS9 ?_
                  clear hK K
                  refine wpAnyH_done (by kernel_rfl) ?_ _
                  go_wp2_with fail
                  go_meet
                  rw [HSB.out]; exact ⟨rfl, hS9⟩
            case rest =>
              obtain ⟨rfl, hcb⟩ := hcut
              have hbc : Below w.heap.size w wc := HBW.out.trans (hcb.mono HBW.out.size)
              have hskip : (i ∈ order ∨ ¬ StartsP (tsOf L) (order ++ [i])) → (b || !decide (StartsP (tsOf L) (order ++ [i]))) = true := fun h => by
                rw [← HBB.out]
                rcases h with h | h
                · simp [h]
                · simp [h]
              have hgo : ¬ (i ∈ order ∨ ¬ StartsP (tsOf L) (order ++ [i])) → (b || !decide (StartsP (tsOf L) (order ++ [i]))) = false := fun h => by
                rw [← HBB.out]
                simp only [not_or, Decidable.not_not] at h
                simp [h.1, h.2]
              generalize (b || !decide (StartsP (tsOf L) (order ++ [i]))) = sk at hskip hgo
              by_cases hsk : i ∈ order ∨ ¬ StartsP (tsOf L) (order ++ [i])
              · obtain rfl := hskip hsk
                have hrel : TryRel (tsOf L) f order n w (.int .i64 ((i : Int) + 1)) wc := ⟨i + 1, rfl, by omega, by rw [find_step _ _ HFIND.out]; unfold tailT; rw [if_pos hsk], hbc⟩
                have HREL := Lib.hid hrel; clear hrel hskip hgo hsk
                go_wp2_with fail
                go_roundw
                case rel => exact HREL.out
                case measure => simp [intOf]; omega
              · obtain rfl := hgo hsk
                have hni : i ∉ order := fun h => hsk (.inl h)
                obtain ⟨f', hff⟩ : ∃ f', f = f' + 1 := ⟨f - 1, by have := order_free HD.out HL.out hin hni; have := HF0.out; have := HNO.out; omega⟩
                have htl : tailT (tsOf L) f order i = tryP (tsOf L) f' (order ++ [i]) := by unfold tailT; rw [if_neg hsk, hff]; rfl
                have HTL := Lib.hid htl; clear htl hsk hskip hgo
                have hnd : (order ++ [i]).Nodup := by
                  rw [List.nodup_append]
                  exact ⟨HD.out, by simp, fun a ha b hb => by rw [List.mem_singleton.1 hb]; exact fun e => hni (e ▸ ha)⟩
                have hl1 : (order ++ [i]).length = no + 1 := by rw [List.length_append, HNO.out]; rfl
                have hpll2 : pl < wc.heap.size := by have := hbc.size; omega
                have hptc : pt < wc.heap.size := by have := hbc.size; omega
                have hptv : wc.cell? ⟨pt, 0, none⟩ = some (fnV pl pt) := (hbc.cell (p := ⟨pt, 0, none⟩) hptl).trans HPT.out
                have hcall : ∀ (w8 : World) (A8 : Option Addr) (c8 : Nat), Below wc.heap.size wc w8 → Rd w8 w8.heap.size 1 A8 (no + 1) (intsV (order ++ [i])) →
                    Calls Tryd.prog 42 #[.slice A8 (no + 1) c8, .pointer (some ⟨pl, 0, none⟩), .pointer (some ⟨pt, 0, none⟩)] w8 (TryPost (tryP (tsOf L) f' (order ++ [i])) w8) := fun w8 A8 c8 hS8 hrd8 => by
                  have hb8 : Below w.heap.size w w8 := hbc.trans (hS8.mono hbc.size)
                  have h := IH.out f' (by omega) (order ++ [i]) w8 w8.heap.size c8 A8 ((hb8.cell (p := ⟨pl, 0, none⟩) hpll).trans hpl) ((hb8.cell (p := ⟨pt, 0, none⟩) hptl).trans HPT.out) (H.out.below (hb8.mono hB)) (Nat.le_trans hB hb8.size) hnd HIN8.out (by rw [hl1]; have := HF0.out; omega) (by rw [hl1]; exact hrd8) (Nat.le_refl _)
                  rw [hl1] at h
                  exact h
                have HCALL := Lib.hid hcall; clear hcall hnd hl1
                have HORD := Lib.hid (HO.out.below (hbc.mono hBo))
                have hBow : Bo ≤ wc.heap.size := by have := hbc.size; omega
                have HFF := Lib.hid hff; clear hff
                have HBC := Lib.hid hbc; clear hbc hcb
                generalize hoo : tryP (tsOf L) f' (order ++ [i]) = o' at HCALL HTL
                clear hoo
                unfold fnV at hptv
                go_upto_region 13 with (fail)
                go_cut [10, 11] (fun s10 s11 wx => ∃ A10 k10 c10, s10 = .slice A10 k10 c10 ∧ s11 = .bool o'.isSome ∧ k10 = (o'.getD []).length ∧ Rd wx wx.heap.size 1 A10 k10 (intsV (o'.getD [])) ∧ Below wc.heap.size wc wx)
                case first =>
                  have hS0 : Below wc.heap.size wc wc.drew := (Below.refl _ _).drew
                  refine wp_region_any (by kernel_rfl) ?_
                  change wpAny _ _ _ _ _ _ _ (World.drew _)
                  refine rheld (fun w' => Below wc.heap.size wc w') ?_
                  refine rtakeH 0 rfl (by kernel_rfl) (by kernel_rfl) (by kernel_rfl) (fun _ _ _ h => h) (by kernel_rfl) hS0 (fun w' hw' => by have hcp := (hw'.cell (p := ⟨pt, 0, none⟩) hptc).trans hptv; go_simp; rfl) ?_
                  refine rtakeH 2 rfl (by kernel_rfl) (by kernel_rfl) (by kernel_rfl) (fun _ _ _ h => h) (by kernel_rfl) hS0 (fun w' hw' => by go_simp; rfl) ?_
                  refine rtakeH 4 rfl (by kernel_rfl) (by kernel_rfl) (by kernel_rfl) (fun _ _ _ h => h) (by kernel_rfl) hS0 (fun w' hw' => by go_simp; rfl) ?_
                  refine rtwoH 1 5 (by kernel_rfl) rfl rfl (by kernel_rfl) (by kernel_rfl) (fun K hK => ?ordT) (fun K hK => ?ordU)
                  case' ordT =>
                    go_simp
                    refine hK _ _ (((Below.refl _ _).alloc (Nat.le_refl _) _).drew) ?_
                    clear hK K
                    refine rtwoH 3 5 (by kernel_rfl) rfl rfl (by kernel_rfl) (by kernel_rfl) (fun K hK => ?ordV) (fun K hK => ?ordW)
                  case' ordV =>
                    have hbA : Below wc.heap.size wc ((wc.alloc (.cells #[] 3)).drew) := ((Below.refl _ _).alloc (Nat.le_refl _) _).drew
                    have hoA : World.ownsRow ((wc.alloc (.cells #[] 3)).drew) wc.heap.size 3 1 (.slice (some ⟨wc.heap.size, 0, none⟩) 0 0) 0 [] := World.ownsRow_lit (base := wc.heap.size) (e := 3) (size := 1) wc #[] 0 (Nat.le_refl _) (by unfold maxLen; omega) rfl
                    have hrA := HORD.out.below (hbA.mono hBow)
                    refine wp_appendR ((wc.alloc (.cells #[] 3)).drew) (.tmp 50) (.tmp 51) 47 rfl wc.heap.size 3 (.int .i64 0) 1 8 Tryd.underlying47 int_info rfl (by decide) _ 0 [] rfl hoA Bo Ao no co (intsV order) rfl hrA.reads (ints_one order) (by unfold maxLen; omega) (by omega) hbA.size ?_
                    intro v41 w5 ho5 hm5
                    simp only [Nat.zero_add, List.nil_append] at ho5
                    obtain ⟨A5, c5, rfl, _, _⟩ := own_slice ho5
                    have hS5 : Below wc.heap.size wc w5 := hbA.trans (hm5.below (fun g hg => by have e : wc.heap.size = g := Option.some.inj hg; omega) hbA.size)
                    clear hrA hoA hm5
                    go_simp
                    refine hK _ _ hS5 ?_
                    clear hK K
                    refine ronlyH 5 (by kernel_rfl) rfl (by kernel_rfl) (fun K hK => ?_)
                    go_simp
                    refine hK _ _ (hS5.alloc hS5.size _) ?_
                    clear hK K
                    have hown : World.ownsRow (w5.alloc (.cells #[.int .i64 (i : Int)] 3)) wc.heap.size 3 1 (.slice A5 no c5) no (intsV order) := ho5.alloc _
                    have h43 : Rd (w5.alloc (.cells #[.int .i64 (i : Int)] 3)) (w5.alloc (.cells #[.int .i64 (i : Int)] 3)).heap.size 1 (some ⟨w5.heap.size, 0, none⟩) 1 (intsV [i]) := by have h := Rd.lit w5 #[.int .i64 (i : Int)] 3 1 1 rfl; simpa [intsV] using h
                    have hSt : Below wc.heap.size wc (w5.alloc (.cells #[.int .i64 (i : Int)] 3)) := hS5.alloc hS5.size _
                    obtain ⟨wt, hwt⟩ : ∃ wt : World, wt = w5.alloc (.cells #[.int .i64 (i : Int)] 3) := ⟨_, rfl⟩
                    rw [← hwt] at hown h43 hSt ⊢
                    clear hwt hS5 ho5 hbA
                  case' ordW =>
                    go_simp
                    refine hK _ _ ((((Below.refl _ _).alloc (Nat.le_refl _) _).alloc (by simp) _).drew) ?_
                    clear hK K
                    refine ronlyH 3 (by kernel_rfl) rfl (by kernel_rfl) (fun K hK => ?_)
                    have hbA : Below wc.heap.size wc (((wc.alloc (.cells #[] 3)).alloc (.cells #[.int .i64 (i : Int)] 3)).drew) := (((Below.refl _ _).alloc (Nat.le_refl _) _).alloc (by simp) _).drew
                    have hoA : World.ownsRow (((wc.alloc (.cells #[] 3)).alloc (.cells #[.int .i64 (i : Int)] 3)).drew) wc.heap.size 3 1 (.slice (some ⟨wc.heap.size, 0, none⟩) 0 0) 0 [] := (World.ownsRow_lit (base := wc.heap.size) (e := 3) (size := 1) wc #[] 0 (Nat.le_refl _) (by unfold maxLen; omega) rfl).alloc _
                    have hrA := HORD.out.below (hbA.mono hBow)
                    refine wp_appendR (((wc.alloc (.cells #[] 3)).alloc (.cells #[.int .i64 (i : Int)] 3)).drew) (.tmp 50) (.tmp 51) 47 rfl wc.heap.size 3 (.int .i64 0) 1 8 Tryd.underlying47 int_info rfl (by decide) _ 0 [] rfl hoA Bo Ao no co (intsV order) rfl hrA.reads (ints_one order) (by unfold maxLen; omega) (by omega) hbA.size ?_
                    intro v41 w5 ho5 hm5
                    simp only [Nat.zero_add, List.nil_append] at ho5
                    obtain ⟨A5, c5, rfl, _, _⟩ := own_slice ho5
                    have hS5 : Below wc.heap.size wc w5 := hbA.trans (hm5.below (fun g hg => by have e : wc.heap.size = g := Option.some.inj hg; omega) hbA.size)
                    have h43 : Rd w5 w5.heap.size 1 (some ⟨wc.heap.size + 1, 0, none⟩) 1 (intsV [i]) := by
                      have h := Rd.lit (wc.alloc (.cells #[] 3)) #[.int .i64 (i : Int)] 3 1 1 rfl
                      have e1 : (wc.alloc (.cells #[] 3)).heap.size = wc.heap.size + 1 := by simp
                      rw [e1] at h
                      have h2 := Rd.fr h ((((Fr.refl (fun k => some k = some wc.heap.size) _).drew).trans hm5.1)) (by simp) (fun g off e _ => by injection e with e; injection e with e _; intro e2; injection e2; omega)
                      simpa [intsV] using h2.more (by have := hm5.size; simp at this; omega)
                    clear hrA hoA hm5
                    go_simp
                    refine hK _ _ hS5 ?_
                    clear hK K
                    have hown : World.ownsRow w5 wc.heap.size 3 1 (.slice A5 no c5) no (intsV order) := ho5
                    have hSt : Below wc.heap.size wc w5 := hS5
                    obtain ⟨wt, rfl⟩ : ∃ wt : World, wt = w5 := ⟨_, rfl⟩
                    clear hS5 ho5 hbA
                  case' ordU =>
                    go_simp
                    refine hK _ _ (((Below.refl _ _).alloc (Nat.le_refl _) _).drew) ?_
                    clear hK K
                    refine ronlyH 1 (by kernel_rfl) rfl (by kernel_rfl) (fun K hK => ?_)
                    go_simp
                    refine hK _ _ ((((Below.refl _ _).alloc (Nat.le_refl _) _).alloc (by simp) _).drew) ?_
                    clear hK K
                    refine ronlyH 3 (by kernel_rfl) rfl (by kernel_rfl) (fun K hK => ?_)
                    have hbA : Below wc.heap.size wc (((wc.alloc (.cells #[.int .i64 (i : Int)] 3)).alloc (.cells #[] 3)).drew) := (((Below.refl _ _).alloc (Nat.le_refl _) _).alloc (by simp) _).drew
                    have hoA : World.ownsRow (((wc.alloc (.cells #[.int .i64 (i : Int)] 3)).alloc (.cells #[] 3)).drew) wc.heap.size 3 1 (.slice (some ⟨wc.heap.size + 1, 0, none⟩) 0 0) 0 [] := by
                      have h := World.ownsRow_lit (base := wc.heap.size) (e := 3) (size := 1) (wc.alloc (.cells #[.int .i64 (i : Int)] 3)) #[] 0 (by simp) (by unfold maxLen; omega) rfl
                      have e1 : (wc.alloc (.cells #[.int .i64 (i : Int)] 3)).heap.size = wc.heap.size + 1 := by simp
                      rw [e1] at h
                      exact h
                    have hrA := HORD.out.below (hbA.mono hBow)
                    refine wp_appendR (((wc.alloc (.cells #[.int .i64 (i : Int)] 3)).alloc (.cells #[] 3)).drew) (.tmp 50) (.tmp 51) 47 rfl wc.heap.size 3 (.int .i64 0) 1 8 Tryd.underlying47 int_info rfl (by decide) _ 0 [] rfl hoA Bo Ao no co (intsV order) rfl hrA.reads (ints_one order) (by unfold maxLen; omega) (by omega) hbA.size ?_
                    intro v41 w5 ho5 hm5
                    simp only [Nat.zero_add, List.nil_append] at ho5
                    obtain ⟨A5, c5, rfl, _, _⟩ := own_slice ho5
                    have hS5 : Below wc.heap.size wc w5 := hbA.trans (hm5.below (fun g hg => by have e : wc.heap.size + 1 = g := Option.some.inj hg; omega) hbA.size)
                    have h43 : Rd w5 w5.heap.size 1 (some ⟨wc.heap.size, 0, none⟩) 1 (intsV [i]) := by
                      have h := (Rd.lit wc #[.int .i64 (i : Int)] 3 1 1 rfl).fr ((Fr.refl (fun k => some k = some (wc.heap.size + 1)) _).alloc (.cells #[] 3)) (by simp) (fun g off e _ => by injection e with e; injection e with e _; intro e2; injection e2; omega)
                      have h2 := Rd.fr h ((((Fr.refl (fun k => some k = some (wc.heap.size + 1)) _).drew).trans hm5.1)) (by simp) (fun g off e _ => by injection e with e; injection e with e _; intro e2; injection e2; omega)
                      simpa [intsV] using h2.more (by have := hm5.size; simp at this; omega)
                    clear hrA hoA hm5
                    go_simp
                    refine hK _ _ hS5 ?_
                    clear hK K
                    have hown : World.ownsRow w5 wc.heap.size 3 1 (.slice A5 no c5) no (intsV order) := ho5
                    have hSt : Below wc.heap.size wc w5 := hS5
                    obtain ⟨wt, rfl⟩ : ∃ wt : World, wt = w5 := ⟨_, rfl⟩
                    clear hS5 ho5 hbA
                  all_goals
                    refine ronlyH 6 (by kernel_rfl) rfl (by kernel_rfl) (fun K hK => ?_)
                    refine wp_appendR wt (.tmp 52) (.tmp 54) 47 rfl wc.heap.size 3 (.int .i64 0) 1 8 Tryd.underlying47 int_info rfl (by decide) _ no (intsV order) rfl hown _ _ 1 1 (intsV [i]) rfl h43.reads (ints_one [i]) (by unfold maxLen; omega) (by omega) hSt.size ?_
                    intro v44 w8 ho8 hm8
                    obtain ⟨A8, c8, rfl, _, _⟩ := own_slice ho8
                    have hS8 : Below wc.heap.size wc w8 := hSt.trans (hm8.below (fun g hg => (hown.lt g hg).1) hSt.size)
                    have hrd8 : Rd w8 w8.heap.size 1 A8 (no + 1) (intsV (order ++ [i])) := by
                      have h := Rd.of_own ho8
                      rw [intsV_push]
                      exact h
                    clear hown h43 hSt ho8 hm8
                    go_simp
                    refine hK _ _ hS8 ?_
                    clear hK K
                    refine ronlyH 7 (by kernel_rfl) rfl (by kernel_rfl) (fun K hK => ?_)
                    go_simp
                    refine (HCALL.out w8 A8 c8 hS8 hrd8).mono ?_
                    rintro e w9 ⟨A9, k9, c9, rfl, hk9, hrd9, hb9⟩
                    have hS9 : Below wc.heap.size wc w9 := hS8.trans (hb9.mono hS8.size)
                    have HRD9 := Lib.hid hrd9; clear hrd9
                    have HK9 := Lib.hid hk9; clear hk9
                    go_simp
                    refine hK _ _ hS9 ?_
                    clear hK K
                    refine rtakeH 8 rfl (by kernel_rfl) (by kernel_rfl) (by kernel_rfl) (fun _ _ _ h => h) (by kernel_rfl) hS9 (fun w' hw' => by go_simp; rfl) ?_
                    refine rtakeH 9 rfl (by kernel_rfl) (by kernel_rfl) (by kernel_rfl) (fun _ _ _ h => h) (by kernel_rfl) hS9 (fun w' hw' => by go_simp; rfl) ?_
                    refine rtakeH 10 rfl (by kernel_rfl) (by kernel_rfl) (by kernel_rfl) (fun _ _ _ h => h) (by kernel_rfl) hS9 (fun w' hw' => by go_simp; rfl) ?_
                    refine rtakeH 11 rfl (by kernel_rfl) (by kernel_rfl) (by kernel_rfl) (fun _ _ _ h => h) (by kernel_rfl) hS9 (fun w' hw' => by go_simp; rfl) ?_
                    refine ronlyH 12 (by kernel_rfl) rfl (by kernel_rfl) (fun K hK => ?_)
                    go_simp
                    refine hK _ _ hS9 ?_
                    clear hK K
                    refine wpAnyH_done (by kernel_rfl) ?_ _
                    go_wp2_with fail
                    go_meet
                    exact ⟨A9, k9, c9, rfl, rfl, HK9.out, HRD9.out, hS9⟩
                case rest =>
                  obtain ⟨A10, k10, c10, rfl, rfl, hk10, hrd10, hb10⟩ := hcut
                  have hbc2 : Below w.heap.size w wc := HBC.out.trans (hb10.mono HBC.out.size)
                  clear hb10
                  rcases o' with _ | x
                  · have hrel2 : TryRel (tsOf L) f order n w (.int .i64 ((i : Int) + 1)) wc := ⟨i + 1, rfl, by omega, by rw [find_step _ _ HFIND.out]; exact HTL.out, hbc2⟩
                    have HR2 := Lib.hid hrel2; clear hrel2 hk10 hrd10 hbc2
                    simp only [Option.isSome_none]
                    go_wp2_with fail
                    go_roundw
                    case rel => exact HR2.out
                    case measure => simp [intOf]; omega
                  · have hpost : TryPost (tryP (tsOf L) f order) w (.returned (.tuple #[.slice A10 k10 c10, .bool true])) wc := by
                      rw [HTE2.out, find_more hin HFIND.out HTL.out]
                      exact ⟨A10, k10, c10, rfl, hk10, hrd10, hbc2⟩
                    have HP := Lib.hid hpost; clear hpost hk10 hrd10 hbc2
                    simp only [Option.isSome_some]
                    go_wp2_with fail
                    go_ret2
                    exact HP.out
      · have hin : i = n := by omega
        subst hin
        have hpost : TryPost (tryP (tsOf L) f order) w (.returned (.tuple #[.slice none 0 0, .bool false])) wo := by
          rw [HTE2.out, HFIND.out]
          exact ⟨none, 0, 0, rfl, rfl, Rd.none_ _ _ _ _, hbw⟩
        have HP := Lib.hid hpost; clear hpost
        go_wp2_with fail
        go_ret2
        exact HP.out
end Go.Proofs.YtnahkpfamocnfaaDoor
