/- chainmaillaw.sameInts, chainmailref.starts: their contracts. -/
import Derived.Test.YtnahkpfamocnfaaDoorFits
import Derived.Test.YtnahkpfamocnfaaDoorHeldN
namespace Go.Proofs.YtnahkpfamocnfaaDoor
open Go.RowKit
theorem ints_at {w : World} {B n k : Nat} {A : Option Addr} {l : List Nat} (h : Rd w B 1 A n (intsV l)) (hk : k < n) : ∃ g off x, A = some ⟨g, off, none⟩ ∧ g < B ∧ l[k]? = some x ∧ w.cell? ⟨g, off + k, none⟩ = some (.int .i64 (x : Nat)) := by
  obtain ⟨g, off, u, hA, hg, hx, hc⟩ := h.at1 hk
  unfold intsV at hx
  rw [List.getElem?_map] at hx
  rcases hh : l[k]? with _ | x
  · rw [hh] at hx; simp at hx
  · rw [hh] at hx; simp at hx; subst hx; exact ⟨g, off, x, hA, hg, rfl, hc⟩
theorem ints_len {w : World} {B n : Nat} {A : Option Addr} {l : List Nat} (h : Rd w B 1 A n (intsV l)) : l.length = n := by have := h.1; rw [intsV_len] at this; omega
def SameRel (n : Nat) (w : World) (v : Value) (wr : World) : Prop := ∃ j : Nat, v = .int .i64 j ∧ j ≤ n ∧ Below w.heap.size w wr
set_option maxRecDepth 100000 in
set_option maxHeartbeats 1000000 in
theorem sameInts_any (o : List Nat) (B B' n c c' : Nat) (A A' : Option Addr) (w : World) (h : Rd w B 1 A n (intsV o)) (h' : Rd w B' 1 A' n (intsV o)) (hB : B ≤ w.heap.size) (hB' : B' ≤ w.heap.size) (hn : n ≤ 1000) :
    Calls Tryd.prog 17 #[.slice A n c, .slice A' n c'] w (BoolPost true w) := by
  have H := Lib.hid h; clear h
  have H' := Lib.hid h'; clear h'
  go_enter Tryd.func17, Tryd.ntmps17
  go_wp2_with fail
  go_loopw [5] (SameRel n w) (fun v _ => n - (intOf v).toNat)
  case atStart => exact ⟨0, rfl, Nat.zero_le _, Below.refl _ _⟩
  case round =>
    obtain ⟨j, rfl, hj, hbw⟩ := hrel
    by_cases hlt : (j : Int) < n
    · obtain ⟨g, off, x, hA, hg, hx, hc⟩ := ints_at (H.out.below (hbw.mono hB)) (k := j) (by omega)
      obtain ⟨g', off', x', hA', hg', hx', hc'⟩ := ints_at (H'.out.below (hbw.mono hB')) (k := j) (by omega)
      rw [hx] at hx'
      obtain rfl : x = x' := Option.some.inj hx'
      subst hA hA'
      have hz := hbw.size
      have hgl : g < wr.heap.size := by omega
      have hgl' : g' < wr.heap.size := by omega
      clear hx hx'
      go_wp2_with fail
      go_quiet (fail)
      go_wp2_with fail
      go_roundw
      case rel => exact ⟨j + 1, rfl, by omega, below_drewN hbw _⟩
      case measure => simp [intOf]; omega
    · go_wp2_with fail
      go_ret
      exact ⟨rfl, hbw⟩
/- Plain: those that are not there yet, as never told: one by one. -/
def cutX (L : List TxR) (order : List Nat) (i : Nat) : List TxR := L.mapIdx fun q x => if q < i ∧ q ∉ order ∧ 0 ≤ x.t.to_ then ⟨⟨x.t.ops, x.t.from_, -1⟩, x.A, x.n, x.c⟩ else x
theorem cutX_len (L : List TxR) (order : List Nat) (i : Nat) : (cutX L order i).length = L.length := by unfold cutX; simp
theorem cutX_zero (L : List TxR) (order : List Nat) : cutX L order 0 = L := by
  unfold cutX
  apply List.ext_getElem?
  intro q
  rw [List.getElem?_mapIdx]
  rcases L[q]? with _ | x
  · rfl
  · simp
theorem cutX_at {L : List TxR} {order : List Nat} {i q : Nat} {x : TxR} (h : L[q]? = some x) (hq : i ≤ q) : (cutX L order i)[q]? = some x := by
  unfold cutX
  rw [List.getElem?_mapIdx, h]
  simp; omega
theorem cutX_from {L : List TxR} {order : List Nat} {i q : Nat} {x : TxR} (h : L[q]? = some x) : ∃ y, (cutX L order i)[q]? = some y ∧ y.t.from_ = x.t.from_ := by
  unfold cutX
  rw [List.getElem?_mapIdx, h]
  refine ⟨_, rfl, ?_⟩
  simp only
  split <;> rfl
theorem cutX_same {L : List TxR} {order : List Nat} {i : Nat} {x : TxR} (h : L[i]? = some x) (hn : ¬ (i ∉ order ∧ 0 ≤ x.t.to_)) : cutX L order (i + 1) = cutX L order i := by
  unfold cutX
  apply List.ext_getElem?
  intro q
  rw [List.getElem?_mapIdx, List.getElem?_mapIdx]
  rcases hq : L[q]? with _ | y
  · rfl
  · simp only [Option.map_some]
    by_cases e : q = i
    · subst e
      rw [h] at hq
      obtain rfl := Option.some.inj hq
      rw [if_neg (fun ⟨_, h2⟩ => hn h2), if_neg (fun ⟨h1, _⟩ => absurd h1 (by omega))]
    · have : q < i + 1 ↔ q < i := by omega
      simp only [this]
theorem cutX_step {L : List TxR} {order : List Nat} {i : Nat} {x : TxR} (h : L[i]? = some x) (hn : i ∉ order) (h0 : 0 ≤ x.t.to_) : cutX L order (i + 1) = (cutX L order i).set i ⟨⟨x.t.ops, x.t.from_, -1⟩, x.A, x.n, x.c⟩ := by
  have hi : i < L.length := (List.getElem?_eq_some_iff.1 h).1
  apply List.ext_getElem?
  intro q
  rw [List.getElem?_set]
  by_cases e : i = q
  · subst e
    rw [if_pos rfl, if_pos (by rw [cutX_len]; exact hi)]
    unfold cutX
    rw [List.getElem?_mapIdx, h]
    simp [hn, h0]
  · rw [if_neg e]
    unfold cutX
    rw [List.getElem?_mapIdx, List.getElem?_mapIdx]
    rcases L[q]? with _ | y
    · rfl
    · have : q < i + 1 ↔ q < i := by omega
      simp only [Option.map_some, this]
theorem cutX_ts (L : List TxR) (order : List Nat) (n : Nat) (hn : L.length ≤ n) : tsOf (cutX L order n) = cutP (tsOf L) order := by
  unfold tsOf cutX cutP
  apply List.ext_getElem?
  intro q
  rw [List.getElem?_map, List.getElem?_mapIdx, List.getElem?_mapIdx, List.getElem?_map]
  rcases hq : L[q]? with _ | y
  · rfl
  · have hl : q < L.length := (List.getElem?_eq_some_iff.1 hq).1
    simp only [Option.map_some]
    by_cases hc : q ∉ order ∧ 0 ≤ y.t.to_
    · rw [if_pos ⟨by omega, hc⟩, if_pos hc]
    · rw [if_neg (fun ⟨_, h2⟩ => hc h2), if_neg hc]
theorem cutX_mem {L : List TxR} {order : List Nat} {i : Nat} {y : TxR} (h : y ∈ cutX L order i) : ∃ x ∈ L, y.A = x.A ∧ y.n = x.n ∧ y.c = x.c ∧ y.t.ops = x.t.ops := by
  obtain ⟨q, hq⟩ := List.mem_iff_getElem?.1 h
  unfold cutX at hq
  rw [List.getElem?_mapIdx] at hq
  rcases hx : L[q]? with _ | x
  · rw [hx] at hq; cases hq
  · rw [hx] at hq
    simp only [Option.map_some, Option.some.injEq] at hq
    refine ⟨x, List.mem_of_getElem? hx, ?_⟩
    rw [← hq]
    split <;> exact ⟨rfl, rfl, rfl, rfl⟩
end Go.Proofs.YtnahkpfamocnfaaDoor
