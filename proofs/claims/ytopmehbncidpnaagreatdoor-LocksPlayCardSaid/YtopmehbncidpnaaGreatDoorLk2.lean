/- locks: slices.IndexFunc, slices.ContainsFunc over those that wait; the closures; (*key).free. -/
import Derived.Test.YtopmehbncidpnaaGreatDoorLk1
import Derived.Test.YtopmehbncidpnaaGreatDoorHeldN
import Derived.Deep.QuietTactic
import Derived.BigQuiet
namespace Go.Proofs.YtopmehbncidpnaaGreatDoor
open Go.RowKit
theorem flat2 : ∀ (l : List (Int × Int)) (j : Nat) (x : Int × Int), l[j]? = some x → ∀ i, i < 2 → (l.flatMap wtCells)[j * 2 + i]? = (wtCells x)[i]?
  | [], j, p, h, i, hi => by simp at h
  | q :: l, 0, p, h, i, hi => by
    simp at h
    subst h
    rw [List.flatMap_cons, List.getElem?_append_left (by show _ < 2; omega)]
    simp
  | q :: l, j + 1, p, h, i, hi => by
    have h' : l[j]? = some p := by simpa using h
    have e : (j + 1) * 2 + i = (j * 2 + i) + 2 := by omega
    have e3 : (wtCells q).length = 2 := rfl
    rw [e, List.flatMap_cons, List.getElem?_append_right (by rw [e3]; omega), e3, Nat.add_sub_cancel]
    exact flat2 l j p h' i hi
theorem Rd.cells2 {w : World} {B n j : Nat} {A : Option Addr} {l : List (Int × Int)} (h : Rd w B 2 A n (l.flatMap wtCells)) (hl : l.length = n) (hj : j < n) : ∃ g off x, A = some ⟨g, off, none⟩ ∧ g < B ∧ l[j]? = some x ∧
    w.cell? ⟨g, off + j * 2, none⟩ = some (.int .i64 x.1) ∧ w.cell? ⟨g, off + j * 2 + 1, none⟩ = some (.int .i64 x.2) := by
  obtain ⟨g, off, e, hb, hc⟩ := h.2 (by omega)
  have hx : l[j]? = some l[j] := List.getElem?_eq_getElem (by omega)
  have hf := flat2 l j _ hx
  exact ⟨g, off, l[j], e, hb, hx, hc (j * 2) _ (hf 0 (by omega)), hc (j * 2 + 1) _ (hf 1 (by omega))⟩
def wtV (x : Int × Int) : Value := .agg #[.int .i64 x.1, .int .i64 x.2]
/-- A function value that tells p of one that waits, in whatever world that has grown out of w. -/
def PredW (F : Nat) (lb : Array Value) (p : Int × Int → Bool) (w : World) : Prop :=
  ∀ (W : World) (x : Int × Int), Below w.heap.size w W → Calls Tryz.prog F (#[wtV x] ++ lb) W fun e w' => e = .returned (.bool (p x)) ∧ Below W.heap.size W w'
def wIdx (p : Int × Int → Bool) (L : List (Int × Int)) : Int := match L.findIdx? p with | some i => (i : Int) | none => -1
theorem wIdx_any (p : Int × Int → Bool) (L : List (Int × Int)) : decide (0 ≤ wIdx p L) = L.any p := by
  unfold wIdx
  rcases h : L.findIdx? p with _ | i
  · rw [List.findIdx?_eq_none_iff] at h
    have : L.any p = false := by rw [List.any_eq_false]; intro x hx; simp [h x hx]
    rw [this]; rfl
  · rw [List.findIdx?_eq_some_iff_getElem] at h
    obtain ⟨hl, h1, _⟩ := h
    have : L.any p = true := by rw [List.any_eq_true]; exact ⟨L[i], List.getElem_mem hl, h1⟩
    rw [this]
    simp
theorem wIdx_lo (p : Int × Int → Bool) (L : List (Int × Int)) : -1 ≤ wIdx p L ∧ wIdx p L ≤ L.length := by
  unfold wIdx
  rcases h : L.findIdx? p with _ | i
  · simp only; omega
  · rw [List.findIdx?_eq_some_iff_getElem] at h
    obtain ⟨hl, h1, _⟩ := h
    simp only; omega
def WiRel (p : Int × Int → Bool) (L : List (Int × Int)) (n : Nat) (w : World) (v : Value) (wr : World) : Prop := ∃ j : Nat, v = .int .i64 j ∧ j ≤ n ∧ (∀ x ∈ L.take j, p x = false) ∧ Below w.heap.size w wr
set_option maxRecDepth 100000 in
set_option maxHeartbeats 2000000 in
theorem windex_any (F : Nat) (lb : Array Value) (p : Int × Int → Bool) (A : Option Addr) (n k : Nat) (L : List (Int × Int)) (w : World) (eg : ∀ args w, (callFunc F args).run Tryz.prog w = .ok (.enter F args) w)
    (hp : PredW F lb p w) (hr : Rd w w.heap.size 2 A n (L.flatMap wtCells)) (hl : L.length = n) (hn : n ≤ 100000) :
    Calls Tryz.prog 35 #[.slice A n k, .func (.func F) #[] lb] w fun e w' => e = .returned (.int .i64 (wIdx p L)) ∧ Below w.heap.size w w' := by
  have HR := Lib.hid hr; clear hr
  have HP := Lib.hid hp; clear hp
  go_enter Tryz.func35, Tryz.ntmps35
  go_wp2_with fail
  go_loopw [8] (WiRel p L n w) (fun v _ => n - (intOf v).toNat)
  case atStart => exact ⟨0, rfl, Nat.zero_le _, (fun x hx => by simp at hx), Below.refl _ _⟩
  case round =>
    obtain ⟨j, rfl, hj, hno, hbw⟩ := hrel
    by_cases hlt : (j : Int) < n
    · obtain ⟨g', o', x, rfl, hga, hx, h0, h1⟩ := (HR.out.below hbw).cells2 hl (j := j) (by omega)
      have hgw : g' < wr.heap.size := Nat.lt_of_lt_of_le hga hbw.size
      have hcall := HP.out wr x hbw
      have hjl : j < L.length := by omega
      have hyes : p x = true → wIdx p L = j := fun hp => by
        have : L.findIdx? p = some j := by
          rw [List.findIdx?_eq_some_iff_getElem]
          refine ⟨hjl, ?_, fun i hi => ?_⟩
          · rw [← Option.some.inj ((List.getElem?_eq_getElem hjl).symm.trans hx)] at hp; exact hp
          · simp only [Bool.not_eq_true]
            exact hno _ (by rw [List.mem_take_iff_getElem]; exact ⟨i, by omega, rfl⟩)
        unfold wIdx
        rw [this]
      have hstep : p x = false → ∀ y ∈ L.take (j + 1), p y = false := fun hp y hy => by
        rw [List.take_add_one, hx] at hy
        rcases List.mem_append.1 hy with hy | hy
        · exact hno y hy
        · simp at hy; rw [hy]; exact hp
      have HYES := Lib.hid hyes; clear hyes
      have HSTEP := Lib.hid hstep; clear hstep
      have HNO := Lib.hid hno; clear hno
      have HX := Lib.hid hx; clear hx
      unfold wtV at hcall
      rcases hp : p x with _ | _
      · rw [hp] at hcall
        have HPX := Lib.hid hp; clear hp
        have HC := Lib.hid hcall; clear hcall
        go_wp2_with fail
        refine HC.out.mono ?_
        rintro e w2 ⟨rfl, hb2⟩
        clear HC
        have HB2 := Lib.hid (hbw.trans (hb2.mono hbw.size)); clear hb2
        go_wp2_with fail
        go_roundw
        case rel => exact ⟨j + 1, rfl, by omega, HSTEP.out HPX.out, HB2.out⟩
        case measure => simp [intOf]; omega
      · rw [hp] at hcall
        have HPX := Lib.hid hp; clear hp
        have HC := Lib.hid hcall; clear hcall
        go_wp2_with fail
        refine HC.out.mono ?_
        rintro e w2 ⟨rfl, hb2⟩
        clear HC
        have HB2 := Lib.hid (hbw.trans (hb2.mono hbw.size)); clear hb2
        go_wp2_with fail
        go_ret
        exact ⟨by rw [HYES.out HPX.out]; rfl, HB2.out⟩
    · obtain rfl : j = n := by omega
      have hnone : wIdx p L = -1 := by
        have : L.findIdx? p = none := by
          rw [List.findIdx?_eq_none_iff]
          intro x hx
          exact hno x (by rw [List.take_of_length_le (by omega)]; exact hx)
        unfold wIdx
        rw [this]
      have HN := Lib.hid hnone; clear hnone hno
      go_wp2_with fail
      go_ret
      rw [HN.out]
      exact ⟨rfl, hbw⟩
set_option maxRecDepth 100000 in
set_option maxHeartbeats 2000000 in
theorem wcontains_any (F : Nat) (lb : Array Value) (p : Int × Int → Bool) (A : Option Addr) (n k : Nat) (L : List (Int × Int)) (w : World) (eg : ∀ args w, (callFunc F args).run Tryz.prog w = .ok (.enter F args) w)
    (hp : PredW F lb p w) (hr : Rd w w.heap.size 2 A n (L.flatMap wtCells)) (hl : L.length = n) (hn : n ≤ 100000) :
    Calls Tryz.prog 20 #[.slice A n k, .func (.func F) #[] lb] w fun e w' => e = .returned (.bool (L.any p)) ∧ Below w.heap.size w w' := by
  have hix := windex_any F lb p A n k L w eg hp hr hl hn
  have ha := wIdx_any p L
  have HIX := Lib.hid hix; clear hix hp hr
  have HA := Lib.hid ha; clear ha
  have hlo := wIdx_lo p L
  generalize wIdx p L = z at *
  go_enter Tryz.func20, Tryz.ntmps20
  go_wp2_with fail
  refine HIX.out.mono ?_
  rintro e w2 ⟨rfl, hb2⟩
  go_wp2_with fail
  go_ret
  rw [← HA.out]
  exact ⟨rfl, hb2⟩
/-! the closures -/
def elP (tx mode : Int) (x : Int × Int) : Bool := decide (x.1 < tx) && clash x.2 mode
theorem behind_el (ws : List (Int × Int)) (tx mode : Int) : behind ws tx mode = ws.any (elP tx mode) := rfl
theorem below_hmono {w W : World} (h : Below w.heap.size w W) {p : Addr} {v : Value} (hc : w.cell? p = some v) : W.cell? p = some v := (h.cell (p := p) (World.block_lt_of_cell? w _ hc)).trans hc
set_option maxRecDepth 100000 in
set_option maxHeartbeats 2000000 in
/-- 'w.tx == tx' -/
theorem lock1_any (b : Nat) (tx : Int) (w : World) (hb : w.cell? ⟨b, 0, none⟩ = some (.int .i64 tx)) : PredW 21 #[.pointer (some ⟨b, 0, none⟩)] (fun x => decide (x.1 = tx)) w := by
  intro W x hW
  have hb := below_hmono hW hb
  have hlt := World.block_lt_of_cell? W _ hb
  have hbl : ∀ o, Below W.heap.size W (W.alloc o) := fun o => (Below.refl _ _).alloc (Nat.le_refl _) _
  have HBL := Lib.hid hbl; clear hbl
  unfold wtV
  show Calls _ _ #[_, _] _ _
  go_enter Tryz.func21, Tryz.ntmps21
  go_wp2_with fail
  go_ret
  exact ⟨rfl, HBL.out _⟩
set_option maxRecDepth 100000 in
set_option maxHeartbeats 2000000 in
/-- 'w.tx == tx' in Release. -/
theorem release1_any (b : Nat) (tx : Int) (w : World) (hb : w.cell? ⟨b, 0, none⟩ = some (.int .i64 tx)) : PredW 32 #[.pointer (some ⟨b, 0, none⟩)] (fun x => decide (x.1 = tx)) w := by
  intro W x hW
  have hb := below_hmono hW hb
  have hlt := World.block_lt_of_cell? W _ hb
  have hbl : ∀ o, Below W.heap.size W (W.alloc o) := fun o => (Below.refl _ _).alloc (Nat.le_refl _) _
  have HBL := Lib.hid hbl; clear hbl
  unfold wtV
  show Calls _ _ #[_, _] _ _
  go_enter Tryz.func32, Tryz.ntmps32
  go_wp2_with fail
  go_ret
  exact ⟨rfl, HBL.out _⟩
set_option maxRecDepth 100000 in
set_option maxHeartbeats 2000000 in
/-- 'w.tx < tx && (w.mode == Writes || mode == Writes)' -/
theorem free1_any (b c : Nat) (tx mode : Int) (w : World) (hb : w.cell? ⟨b, 0, none⟩ = some (.int .i64 tx)) (hc : w.cell? ⟨c, 0, none⟩ = some (.int .i64 mode)) :
    PredW 37 #[.pointer (some ⟨b, 0, none⟩), .pointer (some ⟨c, 0, none⟩)] (elP tx mode) w := by
  intro W x hW
  have hb := below_hmono hW hb
  have hc := below_hmono hW hc
  have hlt := World.block_lt_of_cell? W _ hb
  have hlt2 := World.block_lt_of_cell? W _ hc
  have hbl : ∀ o, Below W.heap.size W (W.alloc o) := fun o => (Below.refl _ _).alloc (Nat.le_refl _) _
  have HBL := Lib.hid hbl; clear hbl
  unfold wtV
  show Calls _ _ #[_, _, _] _ _
  by_cases h1 : x.1 < tx
  · have d1 : decide (x.1 < tx) = true := decide_eq_true h1
    by_cases h2 : x.2 = 2
    · have d2 : (x.2 == 2) = true := by simpa using h2
      have HG := Lib.hid (show elP tx mode x = true by simp [elP, clash, h1, h2]); clear h1 h2
      go_enter Tryz.func37, Tryz.ntmps37
      go_wp2_with fail
      go_ret
      rw [HG.out]
      exact ⟨rfl, HBL.out _⟩
    · have d2 : (x.2 == 2) = false := by simpa using h2
      have HG := Lib.hid (show elP tx mode x = (mode == 2) by rw [Bool.eq_iff_iff]; simp [elP, clash, h1, h2]); clear h1 h2
      go_enter Tryz.func37, Tryz.ntmps37
      go_wp2_with fail
      go_ret
      rw [HG.out]
      exact ⟨rfl, HBL.out _⟩
  · have d1 : decide (x.1 < tx) = false := decide_eq_false h1
    have HG := Lib.hid (show elP tx mode x = false by simp [elP, h1]); clear h1
    go_enter Tryz.func37, Tryz.ntmps37
    go_wp2_with fail
    go_ret
    rw [HG.out]
    exact ⟨rfl, HBL.out _⟩
end Go.Proofs.YtopmehbncidpnaaGreatDoor
