/- chainmailref.Serial: its contract; check.Serial where a history is too great; chainmaillaw.CheckSerial: its walk. -/
import Derived.Test.YtnahkpfamocnfaaDoorSerR4
import Derived.Test.YtnahkpfamocnfaaDoorTell
namespace Go.Proofs.YtnahkpfamocnfaaDoor
open Go.RowKit
set_option maxRecDepth 100000 in
set_option maxHeartbeats 1000000 in
theorem rserial_any (L : List TxR) (B n c : Nat) (A : Option Addr) (w : World) (h : ReadsT w B A n L) (hB : B ≤ w.heap.size) (hn : n ≤ 8) (hs : ∀ x ∈ L, x.n ≤ 1000) :
    Calls Tryd.prog 15 #[.slice A n c] w (TryPost (tryP (tsOf L) n []) w) := by
  have hb : ∀ v : Value, Below w.heap.size w (((w.alloc (.cells #[.slice A n c] 52)).alloc (.cells #[.nilFunc] 104)).setCell ⟨w.heap.size + 1, 0, none⟩ v) := fun v => (((Below.refl _ _).alloc (Nat.le_refl _) _).alloc (by simp) _).setCell (by simp) _
  have HB := Lib.hid hb; clear hb
  have H := Lib.hid h; clear h
  have HS := Lib.hid hs; clear hs
  go_enter Tryd.func15, Tryd.ntmps15
  go_wp2_with fail
  have hb2 : Below w.heap.size w ((w.alloc (.cells #[.slice A n c] 52)).alloc (.cells #[fnV w.heap.size (w.heap.size + 1)] 104)) := ((Below.refl _ _).alloc (Nat.le_refl _) _).alloc (by simp) _
  have e1 : (w.alloc (.cells #[.slice A n c] 52)).heap.size = w.heap.size + 1 := by simp
  have hc1 : ((w.alloc (.cells #[.slice A n c] 52)).alloc (.cells #[fnV w.heap.size (w.heap.size + 1)] 104)).cell? ⟨w.heap.size, 0, none⟩ = some (.slice A n c) := by simp
  have hc2 : ((w.alloc (.cells #[.slice A n c] 52)).alloc (.cells #[fnV w.heap.size (w.heap.size + 1)] 104)).cell? ⟨w.heap.size + 1, 0, none⟩ = some (fnV w.heap.size (w.heap.size + 1)) := by rw [← e1]; simp
  refine (try_any L B n c w.heap.size (w.heap.size + 1) A hn HS.out n [] _ 0 0 none hc1 hc2 (H.out.below (hb2.mono hB)) (Nat.le_trans hB hb2.size) List.nodup_nil (by simp) (by simp) (Rd.none_ _ _ _ _) (Nat.zero_le _)).mono ?_
  rintro e w3 ⟨A3, k3, c3, rfl, hk3, hrd3, hb3⟩
  have hpost : TryPost (tryP (tsOf L) n []) w (.returned (.tuple #[.slice A3 k3 c3, .bool (tryP (tsOf L) n []).isSome])) w3 := ⟨A3, k3, c3, rfl, hk3, hrd3, hb2.trans (hb3.mono hb2.size)⟩
  have HP := Lib.hid hpost; clear hpost hk3 hrd3 hb3 hb2 hc1 hc2 e1
  go_wp2_with fail
  go_ret2
  exact HP.out
theorem walk_short {l : List TxP} : ((walkP l l.length [] Mp.empty).getD []).length ≤ l.length := by
  rcases h : walkP l l.length [] Mp.empty with _ | o
  · exact Nat.zero_le _
  · have hf := serial_fits h
    exact nodup_le _ _ hf.1 hf.2.1
theorem serial_great (L : List TxR) (B n c : Nat) (A : Option Addr) (w : World) (h : ReadsT w B A n L) (hB : B ≤ w.heap.size) (hn : n ≤ 20) (hg : 8 < n ∨ ∃ x ∈ L, 40 < x.n) :
    Calls Tryd.prog 14 #[.slice A n c] w (fun e w' => e = .returned (.tuple #[.slice none 0 0, .bool false, .iface 29 (.int .i64 4)]) ∧ Below w.heap.size w w') := by
  have H := Lib.hid h; clear h
  have HG := Lib.hid hg; clear hg
  go_enter Tryd.func14, Tryd.ntmps14
  by_cases h8 : (n : Int) > 8
  · go_wp2_with fail
    go_ret3
    exact ⟨rfl, Below.refl _ _⟩
  · go_wp2_with fail
    go_loopw [14] (GreatRel L n w) (fun v _ => n - (intOf v).toNat)
    case atStart => exact ⟨0, rfl, Nat.zero_le _, by simp, Below.refl _ _⟩
    case round =>
      obtain ⟨j, rfl, hj, hfew, hbw⟩ := hrel
      have HF := Lib.hid hfew; clear hfew
      have hr := H.out.below (hbw.mono hB)
      by_cases hlt : (j : Int) < n
      · obtain ⟨g, off, x, hA, hg, hx, k0, k1, k2, _⟩ := hr.at_ (k := j) (by omega)
        have hsz := hbw.size
        have hgl : g < wr.heap.size := by omega
        have HX := Lib.hid hx; clear hx hr
        rw [hA]
        clear hA
        by_cases hx40 : (x.n : Int) > 40
        · go_wp2_with fail
          go_ret3
          exact ⟨rfl, hbw.alloc hbw.size _⟩
        · go_wp2_with fail
          go_roundw
          case rel =>
            refine ⟨j + 1, rfl, by omega, fun y hy => ?_, hbw.alloc hbw.size _⟩
            rw [List.take_add_one, HX.out] at hy
            rcases List.mem_append.1 hy with hy | hy
            · exact HF.out y hy
            · simp at hy; subst hy; omega
          case measure => simp [intOf]; omega
      · exfalso
        rcases HG.out with h | ⟨x, hx, h⟩
        · omega
        · have := HF.out x (by rw [List.take_of_length_le (by rw [H.out.1]; omega)]; exact hx)
          omega
def LawRel (L : List TxR) (n : Nat) (w : World) (v3 v4 : Value) (wr : World) : Prop :=
  ∃ j : Nat, v4 = .int .i64 j ∧ j ≤ n ∧ wr = w ∧ v3 = .bool (decide (8 < n ∨ ∃ x ∈ L.take j, 40 < x.n))
theorem great_step {L : List TxR} {j n : Nat} {x : TxR} (h : L[j]? = some x) : (8 < n ∨ ∃ y ∈ L.take (j + 1), 40 < y.n) ↔ ((8 < n ∨ ∃ y ∈ L.take j, 40 < y.n) ∨ 40 < x.n) := by
  rw [List.take_add_one, h]
  constructor
  · rintro (h | ⟨y, hy, h9⟩)
    · exact .inl (.inl h)
    · rcases List.mem_append.1 hy with hy | hy
      · exact .inl (.inr ⟨y, hy, h9⟩)
      · have e : y = x := by simpa using hy
        subst e; exact .inr h9
  · rintro ((h | ⟨y, hy, h⟩) | h)
    · exact .inl h
    · exact .inr ⟨y, List.mem_append_left _ hy, h⟩
    · exact .inr ⟨x, List.mem_append_right _ (by simp), h⟩
set_option maxRecDepth 100000 in
set_option maxHeartbeats 2000000 in
theorem checkSerial_walk (L : List TxR) (B n c : Nat) (A : Option Addr) (w : World) (h : ReadsT w B A n L) (hB : B ≤ w.heap.size) (hL : Laid w) :
    Calls Tryd.prog 5 #[.slice A n c] w (fun e w' => e = .returned (.bool true) ∧ Below w.heap.size w w') := by
  have H := Lib.hid h; clear h
  have HL := Lib.hid hL; clear hL
  have hlen := H.out.1
  go_enter Tryd.func5, Tryd.ntmps5
  by_cases h20 : (n : Int) > 20
  · go_wp2_with fail
    go_ret
    exact ⟨rfl, Below.refl _ _⟩
  · have h8 : ∀ v : Int, decide ((n : Int) > 8) = decide (8 < n) := fun _ => by congr 1; simp only [eq_iff_iff]; omega
    go_wp2_with fail
    go_loopw [3, 4] (LawRel L n w) (fun _ v _ => n - (intOf v).toNat)
    case atStart => exact ⟨0, rfl, Nat.zero_le _, rfl, by simp; omega⟩
    case round =>
      obtain ⟨j, rfl, hj, rfl, rfl⟩ := hrel
      by_cases hlt : (j : Int) < n
      · obtain ⟨g, off, x, hA, hg, hx, k0, k1, k2, _⟩ := H.out.at_ (k := j) (by omega)
        have hgl : g < wr.heap.size := by omega
        have hst := great_step (n := n) hx
        have HST := Lib.hid hst; clear hst hx
        by_cases hgr : 8 < n ∨ ∃ y ∈ L.take j, 40 < y.n
        · have e := HST.out.2 (.inl hgr)
          rw [decide_eq_true hgr]
          have HE := Lib.hid e; clear e hgr
          go_wp2_with fail
          go_roundw
          case rel => exact ⟨j + 1, rfl, by omega, rfl, by rw [decide_eq_true HE.out]⟩
          case measure => simp [intOf]; omega
        · rw [decide_eq_false hgr]
          rw [hA]
          by_cases hx40 : (x.n : Int) > 40
          · have e := HST.out.2 (.inr (by omega))
            have HE := Lib.hid e; clear e hgr
            go_wp2_with fail
            go_roundw
            case rel => exact ⟨j + 1, rfl, by omega, rfl, by rw [decide_eq_true HE.out]⟩
            case measure => simp [intOf]; omega
          · have e : ¬ (8 < n ∨ ∃ y ∈ L.take (j + 1), 40 < y.n) := fun h => (HST.out.1 h).elim hgr (fun h => by omega)
            have HE := Lib.hid e; clear e hgr
            go_wp2_with fail
            go_roundw
            case rel => exact ⟨j + 1, rfl, by omega, rfl, by rw [decide_eq_false HE.out]⟩
            case measure => simp [intOf]; omega
      · obtain rfl : j = n := by omega
        rw [List.take_of_length_le (by omega)]
        by_cases hgr : 8 < j ∨ ∃ y ∈ L, 40 < y.n
        · have hsg := serial_great L B j c A wr H.out hB (by omega) hgr
          rw [decide_eq_true hgr]
          have HSG := Lib.hid hsg; clear hsg hgr
          go_wp2_with fail
          refine HSG.out.mono ?_
          rintro e w1 ⟨rfl, hb1⟩
          go_wp2_with fail
          have hbare := bare_any 4 4 w1 (HL.out.below hb1 HL.out.pos)
          refine hbare.mono ?_
          rintro e w2 ⟨rfl, hb2⟩
          have hb := hb1.trans (hb2.mono hb1.size)
          go_wp2_with fail
          go_ret
          exact ⟨rfl, hb⟩
        · have h40 : ∀ x ∈ L, x.n ≤ 40 := fun x hx => Nat.le_of_not_lt (fun h => hgr (.inr ⟨x, hx, h⟩))
          have hj8 : j ≤ 8 := by omega
          have hse := serial_any L B j c A wr H.out hB hj8 h40
          rw [decide_eq_false hgr]
          have HSE := Lib.hid hse; clear hse hgr
          have H40 := Lib.hid h40; clear h40
          go_wp2_with fail
          refine HSE.out.mono ?_
          rintro e w1 ⟨A1, k1, c1, rfl, hk1, hrd1, hb1⟩
          have HRD1 := Lib.hid hrd1; clear hrd1
          have HK1 := Lib.hid hk1; clear hk1
          by_cases h6 : (j : Int) > 6
          · go_wp2_with fail
            go_ret
            exact ⟨rfl, hb1⟩
          · go_wp2_with fail
            refine (history_any L w1.heap.size j c A w1 ((H.out.below (hb1.mono hB)).more (Nat.le_trans hB hb1.size)) (Nat.le_refl _) (by omega) (fun x hx => by have := H40.out x hx; omega)).mono ?_
            rintro e w2 ⟨W, A2, c2, rfl, hts, hW, hW1000, hb2⟩
            have hl2 : L.length = j := H.out.1
            rw [hl2] at hW ⊢
            have HW := Lib.hid hW; clear hW
            have HTS := Lib.hid hts; clear hts
            have HW1 := Lib.hid hW1000; clear hW1000
            go_wp2_with fail
            refine (rserial_any W w2.heap.size j c2 A2 w2 HW.out (Nat.le_refl _) hj8 HW1.out).mono ?_
            rintro e w3 ⟨A3, k3, c3, rfl, hk3, hrd3, hb3⟩
            have hsame : tryP (tsOf W) j [] = walkP (tsOf L) j [] Mp.empty := by
              rw [HTS.out]
              have h := serial_same (tsOf L)
              rw [tsOf_len, hl2] at h
              exact h.symm
            rw [hsame] at hk3 hrd3 ⊢
            generalize hq : walkP (tsOf L) j [] Mp.empty = q at *
            have hb12 := hb1.trans (hb2.mono hb1.size)
            have hb := hb12.trans (hb3.mono hb12.size)
            have hkk : k3 = k1 := hk3.trans HK1.out.symm
            subst hkk
            have hrd1' := HRD1.out.below (hb2.trans (hb3.mono hb2.size))
            have hsh : k3 ≤ 8 := by
              have h := walk_short (l := tsOf L)
              rw [tsOf_len, hl2, hq] at h
              omega
            have hcmp := sameInts_any (q.getD []) w1.heap.size w3.heap.size k3 c1 c3 A1 A3 w3 hrd1' hrd3 (by have := hb2.size; have := hb3.size; omega) (Nat.le_refl _) (by omega)
            have HC := Lib.hid hcmp; clear hcmp hrd1' hrd3 hk3 hsame hq hb3 hb2 hb12 hb1 HSE HRD1 HK1
            rcases q with _ | o
            all_goals
              simp only [Option.isSome_none, Option.isSome_some]
              go_wp2_with fail
              refine HC.out.mono ?_
              rintro e w4 ⟨rfl, hb4⟩
              have hb' := hb.trans (hb4.mono hb.size)
              go_wp2_with fail
              go_ret
              exact ⟨rfl, hb'⟩
end Go.Proofs.YtnahkpfamocnfaaDoor
