/- wire's writer: its methods' contracts, by walks. -/
import Derived.Test.YtnahkpfamocnfaaDoorPut
import Derived.Test.YtnahkpfamocnfaaDoorWirePlain
namespace Go.Proofs.YtnahkpfamocnfaaDoor
open Go.RowKit
/-- A writer (or a pen) at block p: its bytes' slice v, and what was wrong. -/
def Wr (T : TypeId) (w : World) (base p : Nat) (v : Value) (st : St) : Prop :=
  Blk w p T #[v, .int .i64 st.2] ∧ w.ownsRow base 5 1 v st.1.length (st.1.map bv) ∧ v.ownBlock ≠ some p ∧ base ≤ w.heap.size
/-- What one of its methods may turn: its block, and the bytes' row; where that row lies then. -/
def WMoved (p : Nat) (w w' : World) (b b' : Option Nat) : Prop := Fr (fun k => k = p ∨ some k = b) w w' ∧ (b' = b ∨ ∃ g, b' = some g ∧ w.heap.size ≤ g)
theorem WMoved.refl (p : Nat) (w : World) (b : Option Nat) : WMoved p w w b b := ⟨Fr.refl _ _, .inl rfl⟩
theorem WMoved.trans {p : Nat} {a b c : World} {x y z : Option Nat} (h : WMoved p a b x y) (k : WMoved p b c y z) : WMoved p a c x z := by
  obtain ⟨h1, h2⟩ := h
  obtain ⟨k1, k2⟩ := k
  refine ⟨h1.trans' k1 (fun i hi hy => ?_), ?_⟩
  · rcases hy with hy | hy
    · exact .inl hy
    · rcases h2 with h2 | ⟨g, h2, hg⟩
      · rw [h2] at hy; exact .inr hy
      · rw [h2] at hy; injection hy; omega
  · rcases k2 with k2 | ⟨g, k2, hg⟩
    · rw [k2]; exact h2
    · exact .inr ⟨g, k2, Nat.le_trans h1.size hg⟩
theorem WMoved.alloc (p : Nat) (w : World) (o : Obj) (b : Option Nat) : WMoved p w (w.alloc o) b b := ⟨(Fr.refl _ _).alloc o, .inl rfl⟩
theorem WMoved.drewN (p : Nat) (w : World) (n : Nat) (b : Option Nat) : WMoved p w (w.drewN n) b b := ⟨(Fr.refl _ _).drewN n, .inl rfl⟩
theorem WMoved.drew (p : Nat) (w : World) (b : Option Nat) : WMoved p w w.drew b b := ⟨(Fr.refl _ _).drew, .inl rfl⟩
theorem WMoved.of_moved {p : Nat} {w w' : World} {b b' : Option Nat} (h : Moved w w' b b') : WMoved p w w' b b' := ⟨h.1.mono (fun _ _ x => .inr x), h.2⟩
theorem WMoved.setCell (p : Nat) (w : World) (i : Nat) (u : Value) (b : Option Nat) : WMoved p w (w.setCell ⟨p, i, none⟩ u) b b := ⟨(Fr.refl _ _).setCell (.inl (.inl rfl)) u, .inl rfl⟩
theorem WMoved.below {p B : Nat} {w w' : World} {b b' : Option Nat} (h : WMoved p w w' b b') (hp : B ≤ p) (hb : ∀ g, b = some g → B ≤ g) (hB : B ≤ w.heap.size) : Below B w w' :=
  h.1.below (fun i hi => hi.elim (fun e => e ▸ hp) (fun e => hb i e.symm)) hB
section
variable {T : TypeId} {w w' : World} {base p : Nat} {v : Value} {st : St}
theorem Wr.c0 (h : Wr T w base p v st) : w.cell? ⟨p, 0, none⟩ = some v := h.1.cell 0
theorem Wr.c1 (h : Wr T w base p v st) : w.cell? ⟨p, 1, none⟩ = some (.int .i64 st.2) := h.1.cell 1
theorem Wr.f (h : Wr T w base p v st) (i : Nat) : w.frozen? ⟨p, i, none⟩ = false := h.1.frozen i
theorem Wr.lt (h : Wr T w base p v st) : p < w.heap.size := h.1.lt
theorem Wr.row (h : Wr T w base p v st) : ∀ g, v.ownBlock = some g → base ≤ g ∧ g < w.heap.size := h.2.1.lt
theorem Wr.fr {S : Nat → Prop} (h : Wr T w base p v st) (hf : Fr S w w') (hp : ¬ S p) (hr : ∀ g, v.ownBlock = some g → ¬ S g) : Wr T w' base p v st :=
  ⟨hf.blk h.1 hp, hf.own h.2.1 hr, h.2.2.1, Nat.le_trans h.2.2.2 hf.size⟩
theorem Wr.alloc (h : Wr T w base p v st) (o : Obj) : Wr T (w.alloc o) base p v st := h.fr (S := fun _ => False) ((Fr.refl _ _).alloc o) (fun x => x) (fun _ _ x => x)
theorem Wr.drew (h : Wr T w base p v st) : Wr T w.drew base p v st := h.fr (S := fun _ => False) ((Fr.refl _ _).drew) (fun x => x) (fun _ _ x => x)
theorem Wr.drewN (h : Wr T w base p v st) (n : Nat) : Wr T (w.drewN n) base p v st := h.fr (S := fun _ => False) ((Fr.refl _ _).drewN n) (fun x => x) (fun _ _ x => x)
/-- What was wrong is set. -/
theorem Wr.setBad (h : Wr T w base p v st) (k : Int) : Wr T (w.setCell ⟨p, 1, none⟩ (.int .i64 k)) base p v (st.1, k) := by
  refine ⟨?_, ?_, h.2.2.1, by simpa [World.setCell] using h.2.2.2⟩
  · have := h.1.set_ 1 (.int .i64 k)
    simpa using this
  · exact (Fr.setCell (S := fun k => k = p) (Fr.refl _ _) (.inl rfl) _).own h.2.1 (fun g hg e => h.2.2.1 (by rw [hg, e]))
/-- The bytes' slice is set, behind an append. -/
theorem Wr.setB {bs' : List Nat} {v' : Value} (h : Wr T w base p v st) (hm : Moved w w' v.ownBlock v'.ownBlock) (ho : w'.ownsRow base 5 1 v' bs'.length (bs'.map bv)) : Wr T (w'.setCell ⟨p, 0, none⟩ v') base p v' (bs', st.2) := by
  have hb : Blk w' p T #[v, .int .i64 st.2] := hm.1.blk h.1 (fun e => h.2.2.1 e.symm)
  have hne : v'.ownBlock ≠ some p := by
    rcases hm.2 with e | ⟨g, e, hg⟩
    · rw [e]; exact h.2.2.1
    · rw [e]; intro e2; injection e2; have := h.lt; omega
  refine ⟨?_, ?_, hne, ?_⟩
  · have := hb.set_ 0 v'
    simpa using this
  · exact (Fr.setCell (S := fun k => k = p) (Fr.refl _ _) (.inl rfl) _).own ho (fun g hg e => hne (by rw [hg, e]))
  · have := hm.size; have := h.2.2.2; simp [World.setCell]; omega
end
def NumRel (T : TypeId) (base p : Nat) (v : Value) (st : St) (ns : List Int) (n : Nat) (w : World) (i : Value) (wr : World) : Prop :=
  ∃ (j : Nat) (v' : Value), i = .int .i64 j ∧ j ≤ n ∧ Wr T wr base p v' ((ns.take j).foldl numS st) ∧ WMoved p w wr v.ownBlock v'.ownBlock
def WrPost (T : TypeId) (base p : Nat) (v : Value) (st : St) (w : World) (e : Ending) (w' : World) : Prop :=
  ∃ v', e = .returned (.tuple #[]) ∧ Wr T w' base p v' st ∧ WMoved p w w' v.ownBlock v'.ownBlock
theorem nums_len : ∀ (l : List Int) (st : St), (l.foldl numS st).1.length ≤ st.1.length + 10 * l.length
  | [], st => by simp
  | n :: l, st => by
    have h1 := nums_len l (numS st n)
    have h2 := numS_len st n
    simp only [List.foldl_cons, List.length_cons]
    omega
theorem foldl_take {α β : Type} (f : β → α → β) (l : List α) (b : β) (j : Nat) (x : α) (h : l[j]? = some x) : (l.take (j + 1)).foldl f b = f ((l.take j).foldl f b) x := by
  rw [List.take_add_one, h]; simp
set_option maxRecDepth 100000 in
set_option maxHeartbeats 1000000 in
/-- (*writer).num of a list of numbers. -/
theorem num_any (base p : Nat) (v : Value) (st : St) (ns : List Int) (B : Nat) (A : Option Addr) (n c : Nat) (w : World) (hW : Wr 93 w base p v st)
    (hl : st.1.length + 10 * n ≤ 99000000000) (hn : n ≤ 1000) (hr : Rd w B 1 A n (ns.map (Value.int .i64))) (hB : B ≤ w.heap.size) (hd : ∀ g off, A = some ⟨g, off, none⟩ → 0 < n → g ≠ p ∧ v.ownBlock ≠ some g) :
    Calls Tryd.prog 37 #[.pointer (some ⟨p, 0, none⟩), .slice A n c] w (WrPost 93 base p v (ns.foldl numS st) w) := by
  have hnl : ns.length = n := by have := hr.1; simpa using this
  go_enter Tryd.func37, Tryd.ntmps37
  go_wp2_with fail
  go_loopw [8] (NumRel 93 base p v st ns n w) (fun i _ => n - (intOf i).toNat)
  case atStart => exact ⟨0, v, rfl, Nat.zero_le _, hW, WMoved.refl _ _ _⟩
  case round =>
    obtain ⟨j, v', rfl, hj, hW', hm⟩ := hrel
    have HNL := Lib.hid hnl; clear hnl
    by_cases hlt : (j : Int) < n
    · obtain ⟨g, off, u, rfl, hab, hx, hc⟩ := hr.at1 (k := j) (by omega)
      obtain ⟨x, hx1, rfl⟩ : ∃ x, ns[j]? = some x ∧ u = .int .i64 x := by
        rw [List.getElem?_map] at hx
        rcases hh : ns[j]? with _ | x
        · rw [hh] at hx; simp at hx
        · rw [hh] at hx; simp at hx; exact ⟨x, rfl, hx.symm⟩
      have hcell : wr.cell? ⟨g, off + j, none⟩ = some (.int .i64 x) := by
        rw [hm.1.cell (p := ⟨g, off + j, none⟩) (by show g < _; omega) (by rintro (e | e); exact (hd g off rfl (by omega)).1 e; exact (hd g off rfl (by omega)).2 e.symm)]
        exact hc
      have HX := Lib.hid hx1; clear hx1 hx hc
      have hlen := nums_len (ns.take j) st
      have hlen2 : (ns.take j).length ≤ j := List.length_take_le _ _
      have hf0 := hW'.f 0
      have hf1 := hW'.f 1
      have hc0 := hW'.c0
      have hc1 := hW'.c1
      have HW := Lib.hid hW'; clear hW'
      have hd0 : w.heap.size ≤ wr.heap.size := hm.1.size
      by_cases hx : x < 0 ∨ 1099511627776 < x
      · have hstep : (ns.take (j + 1)).foldl numS st = (((ns.take j).foldl numS st).1 ++ enc 0, 2) := by
          rw [foldl_take numS ns st j x HX.out, numS, if_pos hx]
        have HS := Lib.hid hstep; clear hstep
        have HB := Lib.hid (HW.out.setBad 2)
        have HP := Lib.hid (put_int base v' ((ns.take j).foldl numS st).1.length _ 0 (wr.setCell ⟨p, 1, none⟩ (.int .i64 2)) (by omega) (by omega) (by omega) HB.out.2.1 HB.out.2.2.2)
        have hend : ∀ (w1 : World) (v1 : Value), w1.ownsRow base 5 1 v1 (((ns.take j).foldl numS st).1.length + (enc (0 : Int).toNat).length) (((ns.take j).foldl numS st).1.map bv ++ encV (0 : Int).toNat) → Moved (wr.setCell ⟨p, 1, none⟩ (.int .i64 2)) w1 v'.ownBlock v1.ownBlock →
            NumRel 93 base p v st ns n w (.int .i64 ((j : Int) + 1)) (w1.setCell ⟨p, 0, none⟩ v1) := fun w1 v1 ho hmv => by
          refine ⟨j + 1, v1, rfl, by omega, ?_, ((hm.trans (WMoved.setCell p wr 1 _ _)).trans (WMoved.of_moved hmv)).trans (WMoved.setCell p w1 0 _ _)⟩
          rw [HS.out]
          refine HB.out.setB (bs' := ((ns.take j).foldl numS st).1 ++ enc 0) hmv ?_
          rw [List.length_append, List.map_append]
          exact ho
        have HE := Lib.hid hend; clear hend
        have hcs : ∀ (w1 : World) (v1 : Value), Moved (wr.setCell ⟨p, 1, none⟩ (.int .i64 2)) w1 v'.ownBlock v1.ownBlock → w1.cell? ⟨p, 0, none⟩ = some v' ∧ w1.frozen? ⟨p, 0, none⟩ = false := fun w1 v1 hmv => by
          have hb := hmv.1.blk HB.out.1 (fun e => HB.out.2.2.1 e.symm)
          exact ⟨hb.cell 0, hb.frozen 0⟩
        have HCS := Lib.hid hcs; clear hcs
        rcases hx with hx | hx
        · have d1 : decide (x < 0) = true := by simpa using hx
          go_wp2_with fail
          refine HP.out.mono ?_
          rintro e w1 ⟨v1, rfl, ho1, hm1⟩
          obtain ⟨A1, c1, rfl, _, _⟩ := own_slice ho1
          obtain ⟨hc2, hf2⟩ := HCS.out w1 _ hm1
          have HO := Lib.hid ho1; clear ho1
          go_wp2_with fail
          go_roundw
          case rel => exact HE.out w1 _ HO.out hm1
          case measure => simp [intOf]; omega
        · have d1 : decide (x < 0) = false := by simp; omega
          have d2 : decide ((1099511627776 : Int) < x) = true := by simpa using hx
          go_wp2_with fail
          refine HP.out.mono ?_
          rintro e w1 ⟨v1, rfl, ho1, hm1⟩
          obtain ⟨A1, c1, rfl, _, _⟩ := own_slice ho1
          obtain ⟨hc2, hf2⟩ := HCS.out w1 _ hm1
          have HO := Lib.hid ho1; clear ho1
          go_wp2_with fail
          go_roundw
          case rel => exact HE.out w1 _ HO.out hm1
          case measure => simp [intOf]; omega
      · have hx0 : 0 ≤ x := by omega
        have hx1 : x ≤ 1099511627776 := by omega
        have hstep : (ns.take (j + 1)).foldl numS st = (((ns.take j).foldl numS st).1 ++ enc x.toNat, ((ns.take j).foldl numS st).2) := by
          rw [foldl_take numS ns st j x HX.out, numS, if_neg hx]
        have HS := Lib.hid hstep; clear hstep hx
        have HP := Lib.hid (put_int base v' ((ns.take j).foldl numS st).1.length _ x wr hx0 hx1 (by omega) HW.out.2.1 HW.out.2.2.2)
        have d1 : decide (x < 0) = false := by simp; omega
        have d2 : decide ((1099511627776 : Int) < x) = false := by simp; omega
        go_wp2_with fail
        refine HP.out.mono ?_
        rintro e w1 ⟨v1, rfl, ho1, hm1⟩
        obtain ⟨A1, c1, rfl, _, _⟩ := own_slice ho1
        have hb := hm1.1.blk HW.out.1 (fun e => HW.out.2.2.1 e.symm)
        have hc2 := hb.cell 0
        have hf2 := hb.frozen 0
        have HO := Lib.hid ho1; clear ho1
        go_wp2_with fail
        go_roundw
        case rel =>
          refine ⟨j + 1, _, rfl, by omega, ?_, (hm.trans (WMoved.of_moved hm1)).trans (WMoved.setCell p w1 0 _ _)⟩
          rw [HS.out]
          refine HW.out.setB (bs' := ((ns.take j).foldl numS st).1 ++ enc x.toNat) hm1 ?_
          rw [List.length_append, List.map_append]
          exact HO.out
        case measure => simp [intOf]; omega
    · have hjn : j = n := by omega
      subst hjn
      go_wp2_with fail
      go_end0
      refine ⟨v', rfl, ?_, hm⟩
      rw [← List.take_of_length_le (l := ns) (Nat.le_of_eq HNL.out)]
      exact hW'
end Go.Proofs.YtnahkpfamocnfaaDoor
