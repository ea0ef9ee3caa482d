/- locks: a key in memory; (*key).fits. -/
import Derived.Test.YtopmehbncidpnaaGreatDoorRangeG
import Derived.Test.YtopmehbncidpnaaGreatDoorLkP
import Derived.Test.YtopmehbncidpnaaGreatDoorRows
import Derived.Lib.Hide
namespace Go.Proofs.YtopmehbncidpnaaGreatDoor
open Go.RowKit
noncomputable abbrev kI : KeyC Tryz.prog 3 Int := keyI Tryz.underlying3
noncomputable abbrev kS : KeyC Tryz.prog 9 ByteArray := keyS Tryz.underlying9
abbrev okN (i : Int) : Prop := (Lit.int .i64 i).wf = true
def wtCells (x : Int × Int) : List Value := [.int .i64 x.1, .int .i64 x.2]
def hM (h : Int → Option Int) : Int → Option Value := fun i => (h i).map (Value.int .i64)
/-- Where a key's parts lie: its two cells, its holders' map, its waiting ones. -/
structure KLoc where
  g : Nat
  hb : Nat
  V : Value
structure KeyI (w : World) (base n : Nat) (L : KLoc) (k : Kx) : Prop where
  blk : Blk w L.g 65 #[.map (some L.hb), L.V]
  holds : MapG kI w L.hb n (hM k.h)
  row : w.ownsRow base 62 2 L.V k.ws.length (k.ws.flatMap wtCells)
  log : base ≤ L.g
  loh : base ≤ L.hb
  okh : ∀ o m, k.h o = some m → okN o ∧ okN m
  okw : ∀ x ∈ k.ws, okN x.1 ∧ okN x.2
  len : k.ws.length ≤ 50
def KFoot (L : KLoc) (b : Nat) : Prop := b = L.g ∨ b = L.hb ∨ L.V.ownBlock = some b
theorem KeyI.fr {S : Nat → Prop} {w w' : World} {base n : Nat} {L : KLoc} {k : Kx} (h : KeyI w base n L k) (hf : Fr S w w') (hn : ∀ b, KFoot L b → ¬ S b) : KeyI w' base n L k :=
  ⟨hf.blk h.blk (hn _ (.inl rfl)), h.holds.fr hf (hn _ (.inr (.inl rfl))), hf.own h.row (fun g hg => hn g (.inr (.inr hg))), h.log, h.loh, h.okh, h.okw, h.len⟩
theorem KeyI.foot_lt {w : World} {base n : Nat} {L : KLoc} {k : Kx} (h : KeyI w base n L k) {b : Nat} (hb : KFoot L b) : base ≤ b ∧ b < w.heap.size := by
  rcases hb with rfl | rfl | hb
  · exact ⟨h.log, h.blk.lt⟩
  · exact ⟨h.loh, h.holds.lt⟩
  · exact h.row.lt b hb
theorem KeyI.tall {w w' : World} {base n : Nat} {L : KLoc} {k : Kx} (h : KeyI w base n L k) (hb : Below w.heap.size w w') : KeyI w' base n L k :=
  h.fr (S := fun b => w.heap.size ≤ b) ⟨hb.os, hb.tape, hb.output, hb.size, fun i _ hn => hb.block i (by omega)⟩ (fun b hb2 h2 => by have := (h.foot_lt hb2).2; omega)
theorem KeyI.mono {w : World} {base n n' : Nat} {L : KLoc} {k : Kx} (h : KeyI w base n L k) (hn : n ≤ n') : KeyI w base n' L k :=
  ⟨h.blk, h.holds.mono hn, h.row, h.log, h.loh, h.okh, h.okw, h.len⟩
theorem struck {κ : Type} {left : κ → Bool} {p o : κ} {_ : Decidable (p = o)} (h : (left p && !decide (p = o)) = false) : left p = false ∨ p = o := by
  by_cases e : p = o
  · exact .inr e
  · left; simpa [e] using h
/-- fits: the holders that have been met are in nobody's way. -/
def FtRel (g hb n : Nat) (h : Int → Option Int) (tx mode : Int) (w : World) (wr : World) : Prop :=
  ∃ (left : Int → Bool) (cnt : Nat), RangeG kI wr hb w.heap.size n (hM h) left cnt ∧ (∀ o m, h o = some m → left o = false → o ≠ tx → clash m mode = false) ∧ Below w.heap.size w wr
def FtPost (h : Int → Option Int) (tx mode : Int) (w : World) (e : Ending) (w' : World) : Prop := ∃ b : Bool, e = .returned (.bool b) ∧ (b = true ↔ FitsK h tx mode) ∧ Below w.heap.size w w'
set_option maxRecDepth 100000 in
set_option maxHeartbeats 2000000 in
theorem fits_any (g hb n : Nat) (V : Value) (h : Int → Option Int) (tx mode : Int) (w : World) (hblk : Blk w g 65 #[.map (some hb), V]) (hm : MapG kI w hb n (hM h)) (hok : ∀ o m, h o = some m → okN o ∧ okN m) :
    Calls Tryz.prog 36 #[.pointer (some ⟨g, 0, none⟩), .int .i64 tx, .int .i64 mode] w (FtPost h tx mode w) := by
  have c0 := hblk.cell 0
  simp only [List.getElem?_toArray, List.getElem?_cons_zero] at c0
  have hgl := hblk.lt
  have HOK := Lib.hid hok; clear hok
  have HM := Lib.hid hm; clear hm
  go_enter Tryz.func36, Tryz.ntmps36
  go_wp2_with (at_range; refine wpList_rangeG rfl _ 63 3 rfl Tryz.underlying63 rfl HM.out ?_; intro w0 cnt0 hrg0 hf0 hs0)
  go_frame
  go_loopw [7] (fun _ wr => FtRel g hb n h tx mode w wr) (fun _ wr => wr.rangeLeft hb w.heap.size)
  case atStart =>
    refine ⟨_, cnt0, hrg0, fun o m ho hl => ?_, hf0.none_below⟩
    simp [hM, ho] at hl
  case round =>
    obtain ⟨left, cnt, hrg, hno, hbw⟩ := hrel
    have HRG := Lib.hid hrg
    have HNO := Lib.hid hno; clear hno
    have HBW := Lib.hid hbw; clear hbw
    clear hrg
    go_wp2_with (at_next; refine wpList_nextG rfl _ rfl rfl HRG.out ?_ ?_)
    · intro hl0
      go_wp2_with fail
      go_ret
      exact ⟨true, rfl, by
        simp only [true_iff]
        exact fun o m ho hne => HNO.out o m ho (hl0 o (HOK.out o m ho).1) hne, HBW.out⟩
    · intro o v w1 cnt1 hox hlx hmx hrg1 hlt hf1 hs1 hen
      obtain ⟨m, hm, rfl⟩ : ∃ m, h o = some m ∧ v = .int .i64 m := by
        unfold hM at hmx
        cases e : h o with
        | none => rw [e] at hmx; cases hmx
        | some m => rw [e] at hmx; injection hmx with hmx; exact ⟨m, rfl, hmx.symm⟩
      have hb1 : Below w.heap.size w w1 := HBW.out.trans (hf1.below (fun i (hi : i = _) => by omega) HBW.out.size)
      have HB1 := Lib.hid hb1; clear hb1
      have HM1 := Lib.hid hm; clear hm
      have HRG1 := Lib.hid hrg1; clear hrg1 hmx hlx
      rw [show kI.val o = Value.int .i64 o from rfl] at hen ⊢
      have hstep : (o ≠ tx → clash m mode = false) → ∀ p m, h p = some m → (left p = false ∨ p = o) → p ≠ tx → clash m mode = false := fun hc p m2 hp hl hne => by
        rcases hl with hl | e
        · exact HNO.out p m2 hp hl hne
        · subst e
          rw [HM1.out] at hp
          injection hp with hp
          rw [← hp]
          exact hc hne
      have HST := Lib.hid hstep; clear hstep
      have hms : w1.rangeLeft hb w.heap.size < wr.rangeLeft hb w.heap.size := by
        rw [HRG1.out.left_eq, HRG.out.left_eq]; exact hlt
      have HMS := Lib.hid hms; clear hms hlt hs1 hs0 hf0 hrg0
      by_cases h1 : o = tx
      · have d1 : (o != tx) = false := by simpa using h1
        have HC := Lib.hid (HST.out (fun hne => absurd h1 hne)); clear h1
        go_wp2_with fail
        go_roundw
        case rel => exact ⟨_, cnt1, HRG1.out, fun p m2 hp hl => HC.out p m2 hp (struck hl), HB1.out⟩
        case measure => exact HMS.out
      · have d1 : (o != tx) = true := by simpa using h1
        by_cases h2 : m = 2
        · have d2 : (m == 2) = true := by simpa using h2
          have HC := Lib.hid (show ¬ FitsK h tx mode from fun hf => by have := hf o m HM1.out h1; rw [h2] at this; simp [clash] at this); clear h1
          clear h2
          go_wp2_with fail
          go_ret
          exact ⟨false, rfl, by simp only [Bool.false_eq_true, false_iff]; exact HC.out, HB1.out⟩
        · have d2 : (m == 2) = false := by simpa using h2
          by_cases h3 : mode = 2
          · have d3 : (mode == 2) = true := by simpa using h3
            have HC := Lib.hid (show ¬ FitsK h tx mode from fun hf => by have := hf o m HM1.out h1; rw [h3] at this; simp [clash] at this); clear h1 h2 h3
            go_wp2_with fail
            go_ret
            exact ⟨false, rfl, by simp only [Bool.false_eq_true, false_iff]; exact HC.out, HB1.out⟩
          · have d3 : (mode == 2) = false := by simpa using h3
            have HC := Lib.hid (HST.out (fun _ => by simp [clash, h2, h3])); clear h1 h2 h3
            go_wp2_with fail
            go_roundw
            case rel => exact ⟨_, cnt1, HRG1.out, fun p m2 hp hl => HC.out p m2 hp (struck hl), HB1.out⟩
            case measure => exact HMS.out
end Go.Proofs.YtopmehbncidpnaaGreatDoor
