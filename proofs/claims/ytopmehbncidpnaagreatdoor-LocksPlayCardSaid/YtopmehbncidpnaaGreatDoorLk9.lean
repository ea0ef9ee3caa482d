/- locks: slices.DeleteFunc of those that wait, by Release's predicate. -/
import Derived.Test.YtopmehbncidpnaaGreatDoorInsW
import Derived.Test.YtopmehbncidpnaaGreatDoorLk3
namespace Go.Proofs.YtopmehbncidpnaaGreatDoor
open Go.RowKit
def wIs (tx : Int) (x : Int × Int) : Bool := decide (x.1 = tx)
def fillW (w : World) (g o : Nat) (x : Int × Int) : World := (w.setCell ⟨g, o, none⟩ (.int .i64 x.1)).setCell ⟨g, o + 1, none⟩ (.int .i64 x.2)
theorem fillW_fr (w : World) (g o : Nat) (x : Int × Int) : Fr (fun i => i = g) w (fillW w g o x) :=
  ((Fr.refl (fun i => i = g) w).setCell (p := ⟨g, o, none⟩) (.inl rfl) _).setCell (p := ⟨g, o + 1, none⟩) (.inl rfl) _
theorem set2 : ∀ (M : List (Int × Int)) (i : Nat) (x : Int × Int), i < M.length → (((M.flatMap wtCells).set (i * 2) (.int .i64 x.1)).set (i * 2 + 1) (.int .i64 x.2)) = (M.set i x).flatMap wtCells
  | [], i, x, h => by simp at h
  | y :: M, 0, x, _ => by simp [wtCells]
  | y :: M, i + 1, x, h => by
    have ih := set2 M i x (by simpa using h)
    have e0 : (i + 1) * 2 = i * 2 + 2 := by omega
    rw [e0, List.set_cons_succ, List.flatMap_cons, List.flatMap_cons, ← ih]
    simp [wtCells, Nat.add_right_comm]
theorem own_fillW {w : World} {base g n cap i : Nat} {M : List (Int × Int)} (h : w.ownsRow base 62 2 (.slice (some ⟨g, 0, none⟩) n cap) n (M.flatMap wtCells)) (x : Int × Int) (hi : i < M.length) :
    (fillW w g (i * 2) x).ownsRow base 62 2 (.slice (some ⟨g, 0, none⟩) n cap) n ((M.set i x).flatMap wtCells) := by
  rw [← set2 M i x hi]
  exact ((h.stored _ _).1.stored _ _).1
theorem fr_of_belowW {B : Nat} {w w' : World} (h : Below B w w') : Fr (fun k => B ≤ k) w w' := ⟨h.os, h.tape, h.output, h.size, fun k _ hn => h.block k (by omega)⟩
theorem flat2_take' (L : List (Int × Int)) (i : Nat) : (L.flatMap wtCells).take (i * 2) = (L.take i).flatMap wtCells := by
  induction L generalizing i with
  | nil => simp
  | cons x L ih =>
    cases i with
    | zero => simp
    | succ i => rw [show (i + 1) * 2 = i * 2 + 2 by omega, List.flatMap_cons, List.take_succ_cons, List.flatMap_cons, ← ih]; simp [wtCells]
theorem own_belowK {w w' : World} {base e size n : Nat} {v : Value} {xs : List Value} (h : w.ownsRow base e size v n xs) (hb : Below w.heap.size w w') : w'.ownsRow base e size v n xs :=
  Fr.own (S := fun k => w.heap.size ≤ k) ⟨hb.os, hb.tape, hb.output, hb.size, fun k _ hn => hb.block k (by omega)⟩ h (fun g hg (h' : w.heap.size ≤ g) => by have := (h.lt g hg).2; omega)
def WdRel (base gv n cap : Nat) (tx : Int) (L : List (Int × Int)) (w : World) (u v : Value) (wr : World) : Prop :=
  ∃ (i j : Nat) (M : List (Int × Int)), u = .int .i64 i ∧ v = .int .i64 j ∧ i < j ∧ j ≤ n ∧ M.length = n ∧ M.take i = offW (L.take j) tx ∧ M.drop j = L.drop j ∧ wr.ownsRow base 62 2 (.slice (some ⟨gv, 0, none⟩) n cap) n (M.flatMap wtCells) ∧ Fr (fun k => k = gv) w wr
def WdPost (base gv cap : Nat) (n : Nat) (l : List (Int × Int)) (w : World) (e : Ending) (w' : World) : Prop :=
  e = .returned (.slice (some ⟨gv, 0, none⟩) l.length cap) ∧ w'.ownsRow base 62 2 (.slice (some ⟨gv, 0, none⟩) l.length cap) l.length (l.flatMap wtCells) ∧ Fr (fun k => k = gv) w w' ∧ l.length ≤ n
theorem off_snoc {tx : Int} {L : List (Int × Int)} {j : Nat} {x : Int × Int} (h : L[j]? = some x) : offW (L.take (j + 1)) tx = if wIs tx x then offW (L.take j) tx else offW (L.take j) tx ++ [x] := by
  unfold offW
  rw [List.take_add_one, h, List.filter_append]
  rcases hg : wIs tx x with _ | _ <;> (unfold wIs at hg; simp [hg])
theorem off_first {tx : Int} {L : List (Int × Int)} {i : Nat} (h : wIdx (wIs tx) L = i) : i < L.length ∧ L.take i = offW (L.take (i + 1)) tx := by
  unfold wIdx at h
  rcases hf : L.findIdx? (wIs tx) with _ | j
  · rw [hf] at h; simp only at h; omega
  · rw [hf] at h
    have e : j = i := by have h' : (j : Int) = i := h; omega
    subst e
    rw [List.findIdx?_eq_some_iff_getElem] at hf
    obtain ⟨hl, h1, h2⟩ := hf
    refine ⟨hl, ?_⟩
    rw [off_snoc (List.getElem?_eq_getElem hl), if_pos h1]
    unfold offW
    rw [List.filter_eq_self.2]
    intro x hx
    obtain ⟨k, hk, rfl⟩ := List.mem_take_iff_getElem.1 hx
    have := h2 k (by omega)
    unfold wIs at this
    simpa using this
theorem off_all {tx : Int} {L : List (Int × Int)} (h : wIdx (wIs tx) L = -1) : offW L tx = L := by
  unfold wIdx at h
  rcases hf : L.findIdx? (wIs tx) with _ | j
  · unfold offW
    rw [List.filter_eq_self.2]
    intro x hx
    rw [List.findIdx?_eq_none_iff] at hf
    have := hf x hx
    unfold wIs at this
    simpa using this
  · rw [hf] at h; simp only at h; omega
theorem wIdx_cases (tx : Int) (L : List (Int × Int)) : wIdx (wIs tx) L = -1 ∨ ∃ i : Nat, wIdx (wIs tx) L = i := by
  unfold wIdx
  split
  · exact .inr ⟨_, rfl⟩
  · exact .inl rfl
theorem w_zero (w : World) : (zeroValue 62).run Tryz.prog w = .ok (.agg #[.int .i64 0, .int .i64 0]) w := by kernel_rfl
set_option maxRecDepth 100000 in
set_option maxHeartbeats 4000000 in
theorem wdelete_any (base gv n cap b : Nat) (tx : Int) (L : List (Int × Int)) (w : World) (hrow : w.ownsRow base 62 2 (.slice (some ⟨gv, 0, none⟩) n cap) n (L.flatMap wtCells)) (hl : L.length = n) (hn : n ≤ 100000)
    (hb : w.cell? ⟨b, 0, none⟩ = some (.int .i64 tx)) (hne : b ≠ gv) : Calls Tryz.prog 31 #[.slice (some ⟨gv, 0, none⟩) n cap, .func (.func 32) #[] #[.pointer (some ⟨b, 0, none⟩)]] w (WdPost base gv cap n (offW L tx) w) := by
  have hix := windex_any 32 #[.pointer (some ⟨b, 0, none⟩)] (wIs tx) (some ⟨gv, 0, none⟩) n cap L w (enters_w Tryz.func32 (by kernel_rfl) rfl) (release1_any b tx w hb) (Rd.of_own hrow) hl hn
  have hbl := World.block_lt_of_cell? w _ hb
  have HIX := Lib.hid hix; clear hix
  have HROW := Lib.hid hrow; clear hrow
  have HB := Lib.hid hb; clear hb
  have HL := Lib.hid hl; clear hl
  rcases wIdx_cases tx L with hf | ⟨i0, hf⟩
  · rw [hf] at HIX
    go_enter Tryz.func31, Tryz.ntmps31
    go_wp2_with fail
    refine HIX.out.mono ?_
    rintro e w1 ⟨rfl, hb1⟩
    have hfin : WdPost base gv cap n (offW L tx) w (.returned (.slice (some ⟨gv, 0, none⟩) n cap)) w1 := by
      rw [off_all hf]
      unfold WdPost
      rw [HL.out]
      exact ⟨rfl, own_belowK HROW.out hb1, ⟨hb1.os, hb1.tape, hb1.output, hb1.size, fun k hk _ => hb1.block k hk⟩, Nat.le_refl _⟩
    have HFIN := Lib.hid hfin; clear hfin
    go_wp2_with fail
    go_ret
    exact HFIN.out
  · rw [hf] at HIX
    obtain ⟨hi0, hk0⟩ := off_first hf
    have hi0 : i0 < n := by have := HL.out; omega
    have hne1 : ((i0 : Int) == -1) = false := by rw [beq_eq_false_iff_ne]; omega
    go_enter Tryz.func31, Tryz.ntmps31
    go_wp2_with fail
    refine HIX.out.mono ?_
    rintro e w1 ⟨rfl, hb1⟩
    have hstart : WdRel base gv n cap tx L w (.int .i64 i0) (.int .i64 ((i0 : Int) + 1)) w1 := ⟨i0, i0 + 1, L, rfl, rfl, by omega, by omega, HL.out, hk0, rfl, own_belowK HROW.out hb1, ⟨hb1.os, hb1.tape, hb1.output, hb1.size, fun k hk _ => hb1.block k hk⟩⟩
    have HST := Lib.hid hstart; clear hstart
    clear hf hk0
    go_wp2_with fail
    clear hne1 hi0 hb1
    go_loopw [5, 6] (WdRel base gv n cap tx L w) (fun _ v _ => n - (intOf v).toNat)
    case atStart => exact HST.out
    case round =>
      obtain ⟨i, j, M, rfl, rfl, hij, hj, hM, hMt, hMd, hrow, hfr⟩ := hrel
      by_cases hlt : (j : Int) < n
      · have hx : M[j]? = L[j]? := by
          have := congrArg (fun l => l[0]?) hMd
          simpa using this
        obtain ⟨g', o', x, hA, hga, hxM, h0, h1⟩ := (Rd.of_own hrow).cells2 hM (j := j) (by omega)
        simp only [Option.some.injEq, Addr.mk.injEq, and_true] at hA
        obtain ⟨rfl, rfl⟩ := hA
        rw [Nat.zero_add] at h0 h1
        have hxL : L[j]? = some x := hx ▸ hxM
        have hw1 : Fr (fun _ => False) wr (wr.alloc (.cells #[.int .i64 x.1, .int .i64 x.2] 62)) := (Fr.refl _ _).alloc _
        have hcb := (hw1.cell (p := ⟨b, 0, none⟩) (Nat.lt_of_lt_of_le hbl hfr.size) (fun h => h)).trans ((hfr.cell (p := ⟨b, 0, none⟩) hbl hne).trans HB.out)
        have hcall := release1_any b tx _ hcb _ x (Below.refl _ _)
        unfold wtV at hcall
        rw [show (fun y : Int × Int => decide (y.1 = tx)) x = wIs tx x from rfl] at hcall
        have hB1 : Blk (wr.alloc (.cells #[.int .i64 x.1, .int .i64 x.2] 62)) wr.heap.size 62 #[.int .i64 x.1, .int .i64 x.2] := Blk.new wr _ _
        have hrow1 := hw1.own hrow (fun _ _ h => h)
        have HC := Lib.hid hcall; clear hcall
        have HB1 := Lib.hid hB1; clear hB1
        have HR1 := Lib.hid hrow1; clear hrow1
        have HFR := Lib.hid (hfr.trans' hw1 (fun _ _ h => h.elim)); clear hfr hw1
        have HMT := Lib.hid hMt; clear hMt
        have HMD := Lib.hid hMd; clear hMd
        have HXL := Lib.hid hxL; clear hxL hx hxM hcb
        have HM := Lib.hid hM; clear hM
        go_wp2_with fail
        refine HC.out.mono ?_
        rintro e w2 ⟨rfl, hb2⟩
        have hf2 : Fr (fun k => k = gv) w w2 := HFR.out.trans' (fr_of_belowW hb2) (fun i hi (h : _ ≤ i) => by have := HFR.out.size; simp at h this; omega)
        have hrow2 := own_belowK HR1.out hb2
        have hB2 : Blk w2 wr.heap.size 62 #[.int .i64 x.1, .int .i64 x.2] := HB1.out.below hb2 HB1.out.lt
        have HF2 := Lib.hid hf2; clear hf2
        rcases hp : wIs tx x with _ | _
        · have hxk := off_snoc (tx := tx) HXL.out
          rw [hp, if_neg (by simp)] at hxk
          have hiM : i < M.length := by rw [HM.out]; omega
          have q0 := hB2.cell 0
          have q1 := hB2.cell 1
          simp only [List.getElem?_toArray, List.getElem?_cons_succ, List.getElem?_cons_zero] at q0 q1
          obtain ⟨g', o', y, hA, _, _, p0, p1⟩ := (Rd.of_own hrow2).cells2 HM.out (j := i) (by omega)
          simp only [Option.some.injEq, Addr.mk.injEq, and_true] at hA
          obtain ⟨rfl, rfl⟩ := hA
          rw [Nat.zero_add] at p0 p1
          have f0 := hrow2.frozenAt (i * 2)
          have f1 := hrow2.frozenAt (i * 2 + 1)
          have hgv : gv < w2.heap.size := (hrow2.lt gv rfl).2
          have hnew := own_fillW hrow2 x hiM
          have hrel2 : WdRel base gv n cap tx L w (.int .i64 ((i : Int) + 1)) (.int .i64 ((j : Int) + 1)) (fillW w2 gv (i * 2) x) := by
            refine ⟨i + 1, j + 1, M.set i x, rfl, rfl, by omega, by omega, by rw [List.length_set]; exact HM.out, ?_, ?_, hnew, HF2.out.trans (fillW_fr w2 gv (i * 2) x)⟩
            · rw [hxk, ← HMT.out, List.take_add_one, List.take_set, List.getElem?_set_self hiM, List.set_eq_of_length_le (by rw [List.length_take]; omega)]
              simp
            · rw [List.drop_set_of_lt (by omega), ← List.drop_drop, HMD.out, List.drop_drop]
          have HREL := Lib.hid hrel2; clear hrel2 hnew hxk hiM
          have HP := Lib.hid hp; clear hp
          have HR2 := Lib.hid hrow2; clear hrow2
          clear hB2 h0 h1
          unfold fillW at HREL
          go_wp2_with fail
          go_roundw
          case rel => exact HREL.out
          case measure => simp [intOf]; omega
        · have hxk := off_snoc (tx := tx) HXL.out
          rw [hp, if_pos rfl] at hxk
          have hrel2 : WdRel base gv n cap tx L w (.int .i64 i) (.int .i64 ((j : Int) + 1)) w2 :=
            ⟨i, j + 1, M, rfl, rfl, by omega, by omega, HM.out, by rw [HMT.out, hxk], by rw [← List.drop_drop, HMD.out, List.drop_drop], hrow2, HF2.out⟩
          have HREL := Lib.hid hrel2; clear hrel2 hxk hrow2
          have HP := Lib.hid hp; clear hp hB2 h0 h1
          go_wp2_with fail
          go_roundw
          case rel => exact HREL.out
          case measure => simp [intOf]; omega
      · obtain rfl : j = n := by omega
        have hcap := (ownK_cap hrow).1
        have hall : L.take j = L := List.take_of_length_le (by have := HL.out; omega)
        rw [hall] at hMt
        have hkl : (offW L tx).length = i := by rw [← hMt, List.length_take]; omega
        have hpre := ownK_prefix hrow (i := i) (by omega)
        rw [flat2_take', hMt] at hpre
        obtain ⟨w2, hcl, hrow2, hf2⟩ := run_clear_restK 60 (.agg #[.int .i64 0, .int .i64 0]) w_und w_zero (by rfl) (by decide) hpre (m := j - i) (c := cap - i) (by omega)
        have s1 := slice_fromSkipK (size := 2) 60 (by rw [w_elem]; exact w_und) (fun W => by rw [w_elem]; exact w_size W) wr gv j cap i (i : Int) rfl (by omega)
        have s2 := slice_toK 60 w_und w_elem w_size w2 gv j cap i (i : Int) rfl (by omega)
        have hfin : WdPost base gv cap j (offW L tx) w (.returned (.slice (some ⟨gv, 0, none⟩) i cap)) w2 := by
          unfold WdPost
          rw [hkl]
          exact ⟨rfl, hrow2, hfr.trans hf2, by omega⟩
        have HFIN := Lib.hid hfin; clear hfin hrow2 hf2 hpre hrow hMt hMd hM hfr hkl hall
        go_wp2_with fail
        go_ret
        exact HFIN.out
end Go.Proofs.YtopmehbncidpnaaGreatDoor
