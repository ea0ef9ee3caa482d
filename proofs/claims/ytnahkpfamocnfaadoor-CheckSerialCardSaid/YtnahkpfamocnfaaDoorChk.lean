/- check's walker: how it lies in memory; done, may: their contracts, by walks. -/
import Derived.Test.YtnahkpfamocnfaaDoorMapSS
import Derived.Test.YtnahkpfamocnfaaDoorFlat
import Derived.Test.YtnahkpfamocnfaaDoorRegion
import Derived.BigQuiet
import Derived.Deep.QuietTactic
namespace Go.Proofs.YtnahkpfamocnfaaDoor
open Go.RowKit
/-- A transaction as it lies: its operations' slice. -/
structure TxR where
  t : TxP
  A : Option Addr
  n : Nat
  c : Nat
def opCells (o : OpP) : List Value := [.int .i64 o.kind, .string o.key, .string o.val, .bool o.found]
def txCells (x : TxR) : List Value := [.slice x.A x.n x.c, .int .i64 x.t.from_, .int .i64 x.t.to_]
def opFine (o : OpP) : Prop := o.key.size ≤ maxLen ∧ o.val.size ≤ maxLen
def ReadsO (w : World) (B : Nat) (A : Option Addr) (n : Nat) (l : List OpP) : Prop := l.length = n ∧ Rd w B 4 A n (l.flatMap opCells)
def ReadsT (w : World) (B : Nat) (A : Option Addr) (n : Nat) (l : List TxR) : Prop := l.length = n ∧ Rd w B 3 A n (l.flatMap txCells) ∧ ∀ x ∈ l, ReadsO w B x.A x.n x.t.ops ∧ ∀ o ∈ x.t.ops, opFine o
def tsOf (l : List TxR) : List TxP := l.map (·.t)
section
variable {w w' : World} {B n : Nat} {A : Option Addr}
theorem ReadsO.below {l : List OpP} (h : ReadsO w B A n l) (hb : Below B w w') : ReadsO w' B A n l := ⟨h.1, h.2.below hb⟩
theorem ReadsT.below {l : List TxR} (h : ReadsT w B A n l) (hb : Below B w w') : ReadsT w' B A n l := ⟨h.1, h.2.1.below hb, fun x hx => ⟨(h.2.2 x hx).1.below hb, (h.2.2 x hx).2⟩⟩
theorem ReadsO.at_ {l : List OpP} {k : Nat} (h : ReadsO w B A n l) (hk : k < n) : ∃ g off o, A = some ⟨g, off, none⟩ ∧ g < B ∧ l[k]? = some o ∧
    w.cell? ⟨g, off + k * 4, none⟩ = some (.int .i64 o.kind) ∧ w.cell? ⟨g, off + k * 4 + 1, none⟩ = some (.string o.key) ∧ w.cell? ⟨g, off + k * 4 + 2, none⟩ = some (.string o.val) ∧ w.cell? ⟨g, off + k * 4 + 3, none⟩ = some (.bool o.found) := by
  obtain ⟨g, off, o, e, hb, ho, hc⟩ := h.2.elem (e1 := opCells) (fun _ => rfl) h.1 hk
  exact ⟨g, off, o, e, hb, ho, hc 0 _ rfl, hc 1 _ rfl, hc 2 _ rfl, hc 3 _ rfl⟩
theorem ReadsT.at_ {l : List TxR} {k : Nat} (h : ReadsT w B A n l) (hk : k < n) : ∃ g off x, A = some ⟨g, off, none⟩ ∧ g < B ∧ l[k]? = some x ∧
    w.cell? ⟨g, off + k * 3, none⟩ = some (.slice x.A x.n x.c) ∧ w.cell? ⟨g, off + k * 3 + 1, none⟩ = some (.int .i64 x.t.from_) ∧ w.cell? ⟨g, off + k * 3 + 2, none⟩ = some (.int .i64 x.t.to_) ∧ ReadsO w B x.A x.n x.t.ops ∧ ∀ o ∈ x.t.ops, opFine o := by
  obtain ⟨g, off, x, e, hb, hx, hc⟩ := h.2.1.elem (e1 := txCells) (fun _ => rfl) h.1 hk
  exact ⟨g, off, x, e, hb, hx, hc 0 _ rfl, hc 1 _ rfl, hc 2 _ rfl, h.2.2 x (List.mem_of_getElem? hx)⟩
end
theorem toA_of {l : List TxR} {k : Nat} {x : TxR} (h : l[k]? = some x) : toA (tsOf l) k = x.t.to_ := by unfold toA tsOf; rw [List.getElem?_map, h]; rfl
theorem fromA_of {l : List TxR} {k : Nat} {x : TxR} (h : l[k]? = some x) : fromA (tsOf l) k = x.t.from_ := by unfold fromA tsOf; rw [List.getElem?_map, h]; rfl
theorem opsA_of {l : List TxR} {k : Nat} {x : TxR} (h : l[k]? = some x) : opsA (tsOf l) k = x.t.ops := by unfold opsA tsOf; rw [List.getElem?_map, h]; rfl
theorem tsOf_len (l : List TxR) : (tsOf l).length = l.length := by unfold tsOf; simp
/-- Where a walker's parts lie. -/
structure WkR where
  A : Option Addr
  n : Nat
  c : Nat
  gu : Nat
  vo : Value
  b : Nat
def usedA (n : Nat) (order : List Nat) : Array Value := ((List.range n).map fun k => Value.bool (decide (k ∈ order))).toArray
def intsV (l : List Nat) : List Value := l.map fun k : Nat => Value.int .i64 (k : Int)
theorem usedA_get {n k : Nat} (order : List Nat) (h : k < n) : (usedA n order)[k]? = some (.bool (decide (k ∈ order))) := by
  unfold usedA
  simp [h]
/-- A walker at block p. -/
structure WkS (w : World) (B p : Nat) (L : List TxR) (r : WkR) (order : List Nat) (nm : Nat) (m : Mp) : Prop where
  blk : Blk w p 102 #[.slice r.A r.n r.c, .slice (some ⟨r.gu, 0, none⟩) r.n r.n, r.vo, .map (some r.b)]
  reads : ReadsT w B r.A r.n L
  used : Blk w r.gu 4 (usedA r.n order)
  row : w.ownsRow B 3 1 r.vo order.length (intsV order)
  map : MapV w r.b nm m
  hp : B ≤ p
  hgu : B ≤ r.gu
  hb : B ≤ r.b
  size : B ≤ w.heap.size
section
variable {w w' : World} {B p nm : Nat} {L : List TxR} {r : WkR} {order : List Nat} {m : Mp}
theorem WkS.below (h : WkS w B p L r order nm m) (hb : Below w.heap.size w w') : WkS w' B p L r order nm m where
  blk := h.blk.below hb h.blk.lt
  reads := h.reads.below (hb.mono h.size)
  used := h.used.below hb h.used.lt
  row := (Below.fr hb (fun _ => False)).own h.row (fun _ _ x => x)
  map := h.map.below hb h.map.lt
  hp := h.hp
  hgu := h.hgu
  hb := h.hb
  size := Nat.le_trans h.size hb.size
theorem WkS.c0 (h : WkS w B p L r order nm m) : w.cell? ⟨p, 0, none⟩ = some (.slice r.A r.n r.c) := h.blk.cell 0
theorem WkS.c1 (h : WkS w B p L r order nm m) : w.cell? ⟨p, 1, none⟩ = some (.slice (some ⟨r.gu, 0, none⟩) r.n r.n) := h.blk.cell 1
theorem WkS.c2 (h : WkS w B p L r order nm m) : w.cell? ⟨p, 2, none⟩ = some r.vo := h.blk.cell 2
theorem WkS.c3 (h : WkS w B p L r order nm m) : w.cell? ⟨p, 3, none⟩ = some (.map (some r.b)) := h.blk.cell 3
theorem WkS.cu (h : WkS w B p L r order nm m) {k : Nat} (hk : k < r.n) : w.cell? ⟨r.gu, k, none⟩ = some (.bool (decide (k ∈ order))) := (h.used.cell k).trans (usedA_get order hk)
end
def BoolPost (b : Bool) (w : World) (e : Ending) (w' : World) : Prop := e = .returned (.bool b) ∧ Below w.heap.size w w'
def DoneRel (L : List TxR) (order : List Nat) (n : Nat) (w : World) (i : Value) (wr : World) : Prop :=
  ∃ j : Nat, i = .int .i64 j ∧ j ≤ n ∧ (∀ k, k < j → 0 ≤ toA (tsOf L) k → k ∈ order) ∧ Below w.heap.size w wr
set_option maxRecDepth 100000 in
set_option maxHeartbeats 1000000 in
theorem done_any (B p nm : Nat) (L : List TxR) (r : WkR) (order : List Nat) (m : Mp) (w : World) (h : WkS w B p L r order nm m) (hn : r.n ≤ 1000) :
    Calls Tryd.prog 63 #[.pointer (some ⟨p, 0, none⟩)] w (BoolPost (decide (doneP (tsOf L) order)) w) := by
  have hp0 := h.c0
  have hlen : (tsOf L).length = r.n := by rw [tsOf_len]; exact h.reads.1
  have HLEN := Lib.hid hlen; clear hlen
  have H := Lib.hid h; clear h
  go_enter Tryd.func63, Tryd.ntmps63
  go_wp2_with fail
  go_loopw [10] (DoneRel L order r.n w) (fun i _ => r.n - (intOf i).toNat)
  case atStart => exact ⟨0, rfl, Nat.zero_le _, fun k hk => absurd hk (by omega), Below.refl _ _⟩
  case round =>
    clear hp0
    obtain ⟨j, rfl, hj, hd, hbw⟩ := hrel
    have HD := Lib.hid hd; clear hd
    have hW := H.out.below hbw
    by_cases hlt : (j : Int) < r.n
    · obtain ⟨g, off, x, hA, hg, hx, k0, k1, k2, _⟩ := hW.reads.at_ (k := j) (by omega)
      have hto := toA_of hx
      have hu := hW.cu (k := j) (by omega)
      have hp1 := hW.c1
      have hpl := hW.blk.lt
      have hul := hW.used.lt
      have hsz := hW.size
      have HX := Lib.hid hx; clear hx
      have HTO := Lib.hid hto; clear hto
      have HW := Lib.hid hW; clear hW
      rw [hA]
      clear hA
      by_cases h0 : 0 ≤ x.t.to_
      · have d0 : decide (0 ≤ x.t.to_) = true := by simpa using h0
        by_cases hin : j ∈ order
        · have d1 : decide (j ∈ order) = true := by simpa using hin
          rw [d1] at hu
          clear d1
          have HIN := Lib.hid hin; clear hin
          go_wp2_with fail
          go_roundw
          case rel =>
            refine ⟨j + 1, rfl, by omega, fun k hk hk0 => ?_, hbw.alloc hbw.size _⟩
            by_cases e : k = j
            · rw [e]; exact HIN.out
            · exact HD.out k (by omega) hk0
          case measure => simp [intOf]; omega
        · have d1 : decide (j ∈ order) = false := by simpa using hin
          rw [d1] at hu
          clear d1
          have hf : decide (doneP (tsOf L) order) = false := by
            simp only [decide_eq_false_iff_not]
            intro hdone
            exact hin (hdone j (by rw [HLEN.out]; omega) (by rw [HTO.out]; exact h0))
          have HF := Lib.hid hf; clear hf
          have HIN := Lib.hid hin; clear hin
          go_wp2_with fail
          go_ret
          rw [HF.out]
          exact ⟨rfl, hbw.alloc hbw.size _⟩
      · have d0 : decide (0 ≤ x.t.to_) = false := by simpa using h0
        go_wp2_with fail
        go_roundw
        case rel =>
          refine ⟨j + 1, rfl, by omega, fun k hk hk0 => ?_, hbw.alloc hbw.size _⟩
          by_cases e : k = j
          · subst e; rw [HTO.out] at hk0; exact absurd hk0 h0
          · exact HD.out k (by omega) hk0
        case measure => simp [intOf]; omega
    · have hjn : j = r.n := by omega
      have hf : decide (doneP (tsOf L) order) = true := by
        simp only [decide_eq_true_eq]
        intro k hk hk0
        exact HD.out k (by rw [HLEN.out] at hk; omega) hk0
      have HF := Lib.hid hf; clear hf
      go_wp2_with fail
      go_ret
      rw [HF.out]
      exact ⟨rfl, hbw⟩
end Go.Proofs.YtnahkpfamocnfaaDoor
