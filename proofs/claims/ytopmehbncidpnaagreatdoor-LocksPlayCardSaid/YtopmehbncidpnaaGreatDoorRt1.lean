/- chainmailref.Table in memory; (*Table).How. -/
import Derived.Test.YtopmehbncidpnaaGreatDoorLkC
namespace Go.Proofs.YtopmehbncidpnaaGreatDoor
open Go.RowKit
theorem toList_sx (s : ByteArray) : s.toList = sx s := by
  obtain ⟨⟨l⟩⟩ := s
  show (ByteArray.mk (List.toArray l)).toList = l
  simp
structure RtI (w : World) (base g : Nat) (VH VW : Value) (H Wt : List Ak) : Prop where
  blk : Blk w g 29 #[VH, VW]
  rowH : w.ownsRow base 37 3 VH H.length (H.flatMap akCells)
  rowW : w.ownsRow base 37 3 VW Wt.length (Wt.flatMap akCells)
  apart : ∀ b, VH.ownBlock = some b → VW.ownBlock ≠ some b
  lo : base ≤ g
def RFoot (g : Nat) (VH VW : Value) (b : Nat) : Prop := b = g ∨ VH.ownBlock = some b ∨ VW.ownBlock = some b
theorem RtI.fr {S : Nat → Prop} {w w' : World} {base g : Nat} {VH VW : Value} {H Wt : List Ak} (h : RtI w base g VH VW H Wt) (hf : Fr S w w') (hn : ∀ b, RFoot g VH VW b → ¬ S b) : RtI w' base g VH VW H Wt :=
  ⟨hf.blk h.blk (hn _ (.inl rfl)), hf.own h.rowH (fun b hb => hn b (.inr (.inl hb))), hf.own h.rowW (fun b hb => hn b (.inr (.inr hb))), h.apart, h.lo⟩
theorem RtI.foot_lt {w : World} {base g : Nat} {VH VW : Value} {H Wt : List Ak} (h : RtI w base g VH VW H Wt) {b : Nat} (hb : RFoot g VH VW b) : base ≤ b ∧ b < w.heap.size := by
  rcases hb with rfl | hb | hb
  · exact ⟨h.lo, h.blk.lt⟩
  · exact h.rowH.lt b hb
  · exact h.rowW.lt b hb
theorem RtI.tall {w w' : World} {base g : Nat} {VH VW : Value} {H Wt : List Ak} (h : RtI w base g VH VW H Wt) (hb : Below w.heap.size w w') : RtI w' base g VH VW H Wt :=
  h.fr (S := fun b => w.heap.size ≤ b) ⟨hb.os, hb.tape, hb.output, hb.size, fun i _ hn => hb.block i (by omega)⟩ (fun b hb2 h2 => by have := (h.foot_lt hb2).2; omega)
theorem flatA : ∀ (l : List Ak) (j : Nat) (x : Ak), l[j]? = some x → ∀ i, i < 3 → (l.flatMap akCells)[j * 3 + i]? = (akCells x)[i]?
  | [], j, p, h, i, hi => by simp at h
  | q :: l, 0, p, h, i, hi => by
    simp at h
    subst h
    rw [List.flatMap_cons, List.getElem?_append_left (by show _ < 3; omega)]
    simp
  | q :: l, j + 1, p, h, i, hi => by
    have h' : l[j]? = some p := by simpa using h
    have e : (j + 1) * 3 + i = (j * 3 + i) + 3 := by omega
    have e3 : (akCells q).length = 3 := rfl
    rw [e, List.flatMap_cons, List.getElem?_append_right (by rw [e3]; omega), e3, Nat.add_sub_cancel]
    exact flatA l j p h' i hi
theorem Rd.cellsA {w : World} {B n j : Nat} {A : Option Addr} {l : List Ak} (h : Rd w B 3 A n (l.flatMap akCells)) (hl : l.length = n) (hj : j < n) : ∃ g off x, A = some ⟨g, off, none⟩ ∧ g < B ∧ l[j]? = some x ∧
    w.cell? ⟨g, off + j * 3, none⟩ = some (.int .i64 x.tx) ∧ w.cell? ⟨g, off + j * 3 + 1, none⟩ = some (.string ⟨x.key.toArray⟩) ∧ w.cell? ⟨g, off + j * 3 + 2, none⟩ = some (.int .i64 x.mode) := by
  obtain ⟨g, off, e, hb, hc⟩ := h.2 (by omega)
  have hx : l[j]? = some l[j] := List.getElem?_eq_getElem (by omega)
  have hf := flatA l j _ hx
  exact ⟨g, off, l[j], e, hb, hx, hc (j * 3) _ (hf 0 (by omega)), hc (j * 3 + 1) _ (hf 1 (by omega)), hc (j * 3 + 2) _ (hf 2 (by omega))⟩
theorem howR_at {H : List Ak} {tx : Int} {x : Sx} {i : Nat} {a : Ak} (ha : H[i]? = some a) (hno : ∀ b ∈ H.take i, ¬ (b.tx = tx ∧ b.key = x)) (hyes : a.tx = tx ∧ a.key = x) : howR H tx x = a.mode := by
  unfold howR
  obtain ⟨hi, he⟩ := List.getElem?_eq_some_iff.1 ha
  have e : H = H.take i ++ a :: H.drop (i + 1) := by rw [← he, List.getElem_cons_drop, List.take_append_drop]
  have h1 : (H.take i).find? (fun a => decide (a.tx = tx ∧ a.key = x)) = none := List.find?_eq_none.2 (fun b hb => by simpa using hno b hb)
  rw [e, List.find?_append, h1, List.find?_cons_of_pos (by simpa using hyes)]
  rfl
theorem howR_no {H : List Ak} {tx : Int} {x : Sx} (hno : ∀ b ∈ H, ¬ (b.tx = tx ∧ b.key = x)) : howR H tx x = 0 := by
  unfold howR
  rw [List.find?_eq_none.2 (fun b hb => by simpa using hno b hb)]
theorem take_no {H : List Ak} {i : Nat} {a : Ak} {p : Ak → Prop} (ha : H[i]? = some a) (hno : ∀ b ∈ H.take i, ¬ p b) (hn : ¬ p a) : ∀ b ∈ H.take (i + 1), ¬ p b := fun b hb => by
  rw [List.take_add_one, ha] at hb
  rcases List.mem_append.1 hb with hb | hb
  · exact hno b hb
  · simp at hb; rw [hb]; exact hn
def HwRel (H : List Ak) (tx : Int) (x : Sx) (w : World) (v14 : Value) (wr : World) : Prop := ∃ i : Nat, v14 = .int .i64 i ∧ i ≤ H.length ∧ (∀ b ∈ H.take i, ¬ (b.tx = tx ∧ b.key = x)) ∧ Below w.heap.size w wr
set_option maxRecDepth 100000 in
set_option maxHeartbeats 4000000 in
theorem how_any (base g : Nat) (VH VW : Value) (H Wt : List Ak) (tx : Int) (s : ByteArray) (w : World) (hI : RtI w base g VH VW H Wt) (hn : H.length ≤ 1000000) :
    Calls Tryz.prog 13 #[.pointer (some ⟨g, 0, none⟩), .int .i64 tx, .string s] w fun e w' => e = .returned (.int .i64 (howR H tx (sx s))) ∧ Below w.heap.size w w' := by
  have c0 := hI.blk.cell 0
  have hgl := hI.blk.lt
  simp only [List.getElem?_toArray, List.getElem?_cons_zero] at c0
  obtain ⟨A, c, rfl, _, _⟩ := own_slice hI.rowH
  have HRD := Lib.hid (Rd.of_own hI.rowH)
  clear hI
  go_enter Tryz.func13, Tryz.ntmps13
  go_wp2_with fail
  go_loopw [14] (HwRel H tx (sx s) w) (fun v _ => H.length - (intOf v).toNat)
  case atStart => exact ⟨0, rfl, Nat.zero_le _, (fun b hb => by simp at hb), Below.refl _ _⟩
  case round =>
    obtain ⟨i, rfl, hi, hno, hb⟩ := hrel
    by_cases hlt : (i : Int) < H.length
    · obtain ⟨g', o', x, rfl, hga, hx, h0, h1, h2⟩ := (HRD.out.below hb).cellsA rfl (j := i) (by omega)
      have hgw : g' < wr.heap.size := Nat.lt_of_lt_of_le hga hb.size
      have hb1 : Below w.heap.size w (wr.alloc (.cells #[.int .i64 x.tx, .string ⟨x.key.toArray⟩, .int .i64 x.mode] 37)) := hb.alloc hb.size _
      have HB1 := Lib.hid hb1; clear hb1 hb
      have HNO := Lib.hid hno; clear hno
      have HX := Lib.hid hx; clear hx
      by_cases e1 : x.tx = tx
      · have d1 : (x.tx == tx) = true := by simp [e1]
        by_cases e2 : x.key = sx s
        · have d2 : (x.key == s.toList) = true := by rw [toList_sx, beq_iff_eq]; exact e2
          have HF := Lib.hid (howR_at HX.out HNO.out ⟨e1, e2⟩)
          clear e1 e2
          go_wp2_with fail
          go_ret
          rw [HF.out]
          exact ⟨rfl, HB1.out⟩
        · have d2 : (x.key == s.toList) = false := by rw [toList_sx, beq_eq_false_iff_ne]; exact e2
          have hfin : HwRel H tx (sx s) w (.int .i64 ((i + 1 : Nat) : Int)) (wr.alloc (.cells #[.int .i64 x.tx, .string ⟨x.key.toArray⟩, .int .i64 x.mode] 37)) := ⟨i + 1, rfl, by omega, take_no (p := fun b : Ak => b.tx = tx ∧ b.key = sx s) HX.out HNO.out (fun h => e2 h.2), HB1.out⟩
          have HF := Lib.hid hfin; clear hfin e1 e2
          go_wp2_with fail
          go_roundw
          case rel => exact HF.out
          case measure => simp [intOf]; omega
      · have d1 : (x.tx == tx) = false := by simpa using e1
        have hfin : HwRel H tx (sx s) w (.int .i64 ((i + 1 : Nat) : Int)) (wr.alloc (.cells #[.int .i64 x.tx, .string ⟨x.key.toArray⟩, .int .i64 x.mode] 37)) := ⟨i + 1, rfl, by omega, take_no (p := fun b : Ak => b.tx = tx ∧ b.key = sx s) HX.out HNO.out (fun h => e1 h.1), HB1.out⟩
        have HF := Lib.hid hfin; clear hfin e1
        go_wp2_with fail
        go_roundw
        case rel => exact HF.out
        case measure => simp [intOf]; omega
    · obtain rfl : i = H.length := by omega
      have HF := Lib.hid (howR_no (x := sx s) (tx := tx) (H := H) (by rw [List.take_length] at hno; exact hno))
      have HB := Lib.hid hb; clear hb hno
      go_wp2_with fail
      go_ret
      rw [HF.out]
      exact ⟨rfl, HB.out⟩
end Go.Proofs.YtopmehbncidpnaaGreatDoor
