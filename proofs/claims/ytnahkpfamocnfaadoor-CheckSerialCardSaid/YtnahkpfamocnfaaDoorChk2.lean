/- check's walker: may. -/
import Derived.Test.YtnahkpfamocnfaaDoorChk
namespace Go.Proofs.YtnahkpfamocnfaaDoor
open Go.RowKit
def MayRel (L : List TxR) (order : List Nat) (i n : Nat) (w : World) (v : Value) (wr : World) : Prop :=
  ∃ j : Nat, v = .int .i64 j ∧ j ≤ n ∧ (∀ k, k < j → k ≠ i → k ∉ order → ¬ (0 ≤ toA (tsOf L) k ∧ toA (tsOf L) k < fromA (tsOf L) i)) ∧ Below w.heap.size w wr
theorem MayRel.step {L : List TxR} {order : List Nat} {i j n : Nat} {w wr : World} (hjn : j < n) (hd : ∀ k, k < j → k ≠ i → k ∉ order → ¬ (0 ≤ toA (tsOf L) k ∧ toA (tsOf L) k < fromA (tsOf L) i))
    (hj : j ≠ i → j ∉ order → ¬ (0 ≤ toA (tsOf L) j ∧ toA (tsOf L) j < fromA (tsOf L) i)) (hb : Below w.heap.size w wr) : MayRel L order i n w (.int .i64 ((j : Int) + 1)) wr :=
  ⟨j + 1, rfl, hjn, fun k hk => by
    by_cases e : k = j
    · rw [e]; exact hj
    · exact hd k (by omega), hb⟩
theorem below_drewN {B : Nat} {w w' : World} (h : Below B w w') (n : Nat) : Below B w (w'.drewN n) := ⟨h.os, h.tape, h.output, h.size, h.block⟩
set_option maxRecDepth 100000 in
set_option maxHeartbeats 1000000 in
theorem may_any (B p nm i : Nat) (L : List TxR) (r : WkR) (order : List Nat) (m : Mp) (w : World) (h : WkS w B p L r order nm m) (hn : r.n ≤ 1000) (hi : i < r.n) :
    Calls Tryd.prog 64 #[.pointer (some ⟨p, 0, none⟩), .int .i64 i] w (BoolPost (decide (mayP (tsOf L) order i)) w) := by
  have hp0 := h.c0
  have hlen : (tsOf L).length = r.n := by rw [tsOf_len]; exact h.reads.1
  have HLEN := Lib.hid hlen; clear hlen
  have H := Lib.hid h; clear h
  go_enter Tryd.func64, Tryd.ntmps64
  go_wp2_with fail
  go_loopw [12] (MayRel L order i r.n w) (fun v _ => r.n - (intOf v).toNat)
  case atStart => exact ⟨0, rfl, Nat.zero_le _, fun k hk => absurd hk (by omega), Below.refl _ _⟩
  case round =>
    clear hp0
    obtain ⟨j, rfl, hj, hd, hbw⟩ := hrel
    have HD := Lib.hid hd; clear hd
    have hW := H.out.below hbw
    by_cases hlt : (j : Int) < r.n
    · obtain ⟨g, off, x, hA, hg, hx, k0, k1, k2, _⟩ := hW.reads.at_ (k := j) (by omega)
      obtain ⟨g', off', y, hA', hg', hy, q0, q1, q2, _⟩ := hW.reads.at_ (k := i) hi
      rw [hA] at hA'
      injection hA' with hA'
      injection hA' with e1 e2
      subst e1 e2
      have hto := toA_of hx
      have hfr := fromA_of hy
      have hu := hW.cu (k := j) (by omega)
      have hp0 := hW.c0
      have hp1 := hW.c1
      have hpl := hW.blk.lt
      have hul := hW.used.lt
      have hsz := hW.size
      have HTO := Lib.hid hto; clear hto hx
      have HFR := Lib.hid hfr; clear hfr hy
      have HW := Lib.hid hW; clear hW
      rw [hA] at hp0
      rw [hA]
      clear hA
      have hi' : (i : Int) < r.n := by omega
      have hgl : g < wr.heap.size := by omega
      by_cases hji : (j : Int) = i
      · have hji' : j = i := by omega
        have d0 : ((j : Int) != (i : Int)) = false := by simpa using hji
        have HJI := Lib.hid hji'; clear hji hji'
        go_wp2_with fail
        go_quiet (fail)
        go_wp2_with fail
        go_roundw
        case rel => exact MayRel.step (by omega) HD.out (fun h => absurd HJI.out h) (below_drewN (hbw.alloc hbw.size _) _)
        case measure => simp [intOf]; omega
      · have hji' : j ≠ i := by omega
        have d0 : ((j : Int) != (i : Int)) = true := by simpa using hji
        have HJI := Lib.hid hji'; clear hji hji'
        by_cases hin : j ∈ order
        · have d1 : decide (j ∈ order) = true := by simpa using hin
          rw [d1] at hu
          clear d1
          have HIN := Lib.hid hin; clear hin
          go_wp2_with fail
          go_quiet (fail)
          go_wp2_with fail
          go_roundw
          case rel => exact MayRel.step (by omega) HD.out (fun _ h => absurd HIN.out h) (below_drewN (hbw.alloc hbw.size _) _)
          case measure => simp [intOf]; omega
        · have d1 : decide (j ∈ order) = false := by simpa using hin
          rw [d1] at hu
          clear d1
          have HIN := Lib.hid hin; clear hin
          by_cases h0 : 0 ≤ x.t.to_
          · have d2 : decide (0 ≤ x.t.to_) = true := by simpa using h0
            by_cases h1 : x.t.to_ < y.t.from_
            · have d3 : decide (x.t.to_ < y.t.from_) = true := by simpa using h1
              have hf : decide (mayP (tsOf L) order i) = false := by
                simp only [decide_eq_false_iff_not]
                intro hm
                exact hm j (by rw [HLEN.out]; omega) HJI.out HIN.out ⟨by rw [HTO.out]; exact h0, by rw [HTO.out, HFR.out]; exact h1⟩
              have HF := Lib.hid hf; clear hf
              go_wp2_with fail
              go_quiet (fail)
              go_wp2_with fail
              go_ret
              rw [HF.out]
              exact ⟨rfl, below_drewN (hbw.alloc hbw.size _) _⟩
            · have d3 : decide (x.t.to_ < y.t.from_) = false := by simpa using h1
              have HH := Lib.hid h1; clear h1
              go_wp2_with fail
              go_quiet (fail)
              go_wp2_with fail
              go_roundw
              case rel => exact MayRel.step (by omega) HD.out (fun _ _ h => by have h2 := HH.out; have h3 := h.2; rw [HTO.out, HFR.out] at h3; omega) (below_drewN (hbw.alloc hbw.size _) _)
              case measure => simp [intOf]; omega
          · have d2 : decide (0 ≤ x.t.to_) = false := by simpa using h0
            have HH := Lib.hid h0; clear h0
            go_wp2_with fail
            go_quiet (fail)
            go_wp2_with fail
            go_roundw
            case rel => exact MayRel.step (by omega) HD.out (fun _ _ h => by have h2 := HH.out; have h3 := h.1; rw [HTO.out] at h3; omega) (below_drewN (hbw.alloc hbw.size _) _)
            case measure => simp [intOf]; omega
    · have hjn : j = r.n := by omega
      have hf : decide (mayP (tsOf L) order i) = true := by
        simp only [decide_eq_true_eq]
        intro k hk
        exact HD.out k (by rw [HLEN.out] at hk; omega)
      have HF := Lib.hid hf; clear hf
      go_wp2_with fail
      go_ret
      rw [HF.out]
      exact ⟨rfl, hbw⟩
end Go.Proofs.YtnahkpfamocnfaaDoor
