/- slices.DeleteFunc of messages, by net.Down's predicate. -/
import Derived.Test.YtnahkpfamocnfaaDoorNet6
namespace Go.Proofs.YtnahkpfamocnfaaDoor
open Go.RowKit
/-- Nine cells of a row set: one element. -/
def fillO (w : World) (g o : Nat) (x : MsR) : World :=
  ((((((((w.setCell ⟨g, o, none⟩ (.int .i64 x.m.kind)).setCell ⟨g, o + 1, none⟩ (.int .i64 x.m.from_)).setCell ⟨g, o + 2, none⟩ (.int .i64 x.m.to_)).setCell ⟨g, o + 3, none⟩ (.int .i64 x.m.epoch)).setCell ⟨g, o + 4, none⟩ (.int .i64 x.m.n)).setCell ⟨g, o + 5, none⟩ (.int .i64 x.m.cmd.kind)).setCell ⟨g, o + 6, none⟩ (.int .i64 x.m.cmd.tx)).setCell ⟨g, o + 7, none⟩ (.int .i64 x.m.cmd.time)).setCell ⟨g, o + 8, none⟩ (.slice x.A x.n x.k)
theorem fillO_fr (w : World) (g o : Nat) (x : MsR) : Fr (fun i => i = g) w (fillO w g o x) :=
  (((((((((Fr.refl (fun i => i = g) w).setCell (p := ⟨g, o, none⟩) (.inl rfl) _).setCell (p := ⟨g, o + 1, none⟩) (.inl rfl) _).setCell (p := ⟨g, o + 2, none⟩) (.inl rfl) _).setCell (p := ⟨g, o + 3, none⟩) (.inl rfl) _).setCell (p := ⟨g, o + 4, none⟩) (.inl rfl) _).setCell (p := ⟨g, o + 5, none⟩) (.inl rfl) _).setCell (p := ⟨g, o + 6, none⟩) (.inl rfl) _).setCell (p := ⟨g, o + 7, none⟩) (.inl rfl) _).setCell (p := ⟨g, o + 8, none⟩) (.inl rfl) _
theorem set9 : ∀ (M : List MsR) (i : Nat) (x : MsR), i < M.length →
    (((((((((M.flatMap mrCells).set (i * 9) (.int .i64 x.m.kind)).set (i * 9 + 1) (.int .i64 x.m.from_)).set (i * 9 + 2) (.int .i64 x.m.to_)).set (i * 9 + 3) (.int .i64 x.m.epoch)).set (i * 9 + 4) (.int .i64 x.m.n)).set (i * 9 + 5) (.int .i64 x.m.cmd.kind)).set (i * 9 + 6) (.int .i64 x.m.cmd.tx)).set (i * 9 + 7) (.int .i64 x.m.cmd.time)).set (i * 9 + 8) (.slice x.A x.n x.k) = (M.set i x).flatMap mrCells
  | [], i, x, h => by simp at h
  | y :: M, 0, x, _ => by simp [mrCells, msgCells]
  | y :: M, i + 1, x, h => by
    have ih := set9 M i x (by simpa using h)
    have e : ∀ k, (i + 1) * 9 + k = i * 9 + k + 9 := fun k => by omega
    have e0 : (i + 1) * 9 = i * 9 + 9 := by omega
    rw [e0, List.set_cons_succ, List.flatMap_cons, List.flatMap_cons, ← ih]
    simp [mrCells, msgCells, Nat.add_right_comm]
theorem own_fill {w : World} {base g n cap i : Nat} {M : List MsR} (h : w.ownsRow base 26 9 (.slice (some ⟨g, 0, none⟩) n cap) n (M.flatMap mrCells)) (x : MsR) (hi : i < M.length) :
    (fillO w g (i * 9) x).ownsRow base 26 9 (.slice (some ⟨g, 0, none⟩) n cap) n ((M.set i x).flatMap mrCells) := by
  rw [← set9 M i x hi]
  exact (((((((((h.stored _ _).1.stored _ _).1.stored _ _).1.stored _ _).1.stored _ _).1.stored _ _).1.stored _ _).1.stored _ _).1.stored _ _).1
def kept (id : Int) (L : List MsR) : List MsR := L.filter (fun x => !gone id x.m)
theorem own_below {w w' : World} {base e size n : Nat} {v : Value} {xs : List Value} (h : w.ownsRow base e size v n xs) (hb : Below w.heap.size w w') : w'.ownsRow base e size v n xs :=
  (fr_of_below hb).own h (fun g hg (h' : w.heap.size ≤ g) => by have := (h.lt g hg).2; omega)
def DfRel (base gv n cap : Nat) (id : Int) (L : List MsR) (w : World) (u v : Value) (wr : World) : Prop :=
  ∃ (i j : Nat) (M : List MsR), u = .int .i64 i ∧ v = .int .i64 j ∧ i < j ∧ j ≤ n ∧ M.length = n ∧ M.take i = kept id (L.take j) ∧ M.drop j = L.drop j ∧ wr.ownsRow base 26 9 (.slice (some ⟨gv, 0, none⟩) n cap) n (M.flatMap mrCells) ∧ Fr (fun k => k = gv) w wr
def DfPost (base gv cap : Nat) (n : Nat) (l : List MsR) (w : World) (e : Ending) (w' : World) : Prop :=
  e = .returned (.slice (some ⟨gv, 0, none⟩) l.length cap) ∧ w'.ownsRow base 26 9 (.slice (some ⟨gv, 0, none⟩) l.length cap) l.length (l.flatMap mrCells) ∧ Fr (fun k => k = gv) w w' ∧ l.length ≤ n
theorem kept_snoc {id : Int} {L : List MsR} {j : Nat} {x : MsR} (h : L[j]? = some x) : kept id (L.take (j + 1)) = if gone id x.m then kept id (L.take j) else kept id (L.take j) ++ [x] := by
  unfold kept
  rw [List.take_add_one, h, List.filter_append]
  rcases hg : gone id x.m with _ | _ <;> simp [hg]
theorem kept_first {id : Int} {L : List MsR} {i : Nat} (h : fidx (gone id) L = i) : i < L.length ∧ L.take i = kept id (L.take (i + 1)) := by
  unfold fidx at h
  rcases hf : L.findIdx? (fun x => gone id x.m) with _ | j
  · rw [hf] at h; simp only at h; omega
  · rw [hf] at h
    have e : j = i := by have h' : (j : Int) = i := h; omega
    subst e
    rw [List.findIdx?_eq_some_iff_getElem] at hf
    obtain ⟨hl, h1, h2⟩ := hf
    refine ⟨hl, ?_⟩
    rw [kept_snoc (List.getElem?_eq_getElem hl), if_pos h1]
    unfold kept
    rw [List.filter_eq_self.2]
    intro x hx
    obtain ⟨k, hk, rfl⟩ := List.mem_take_iff_getElem.1 hx
    simpa using h2 k (by omega)
theorem kept_all {id : Int} {L : List MsR} (h : fidx (gone id) L = -1) : kept id L = L := by
  unfold fidx at h
  rcases hf : L.findIdx? (fun x => gone id x.m) with _ | j
  · unfold kept
    rw [List.filter_eq_self.2]
    intro x hx
    rw [List.findIdx?_eq_none_iff] at hf
    simpa using hf x hx
  · rw [hf] at h; simp only at h; omega
theorem fidx_cases (id : Int) (L : List MsR) : fidx (gone id) L = -1 ∨ ∃ i : Nat, fidx (gone id) L = i := by
  unfold fidx
  split
  · exact .inr ⟨_, rfl⟩
  · exact .inl rfl
set_option maxRecDepth 100000 in
set_option maxHeartbeats 4000000 in
theorem deletef_any (base gv n cap b : Nat) (id : Int) (L : List MsR) (w : World) (hrow : w.ownsRow base 26 9 (.slice (some ⟨gv, 0, none⟩) n cap) n (L.flatMap mrCells)) (hl : L.length = n) (hn : n ≤ 100000)
    (hb : w.cell? ⟨b, 0, none⟩ = some (.int .i64 id)) (hne : b ≠ gv) : Calls Tryd.prog 54 #[.slice (some ⟨gv, 0, none⟩) n cap, goneF b] w (DfPost base gv cap n (kept id L) w) := by
  have hix := index_any b gv 0 cap n id L w hb (Rd.of_own hrow) hl hn
  have hbl := World.block_lt_of_cell? w _ hb
  have HIX := Lib.hid hix; clear hix
  have HROW := Lib.hid hrow; clear hrow
  have HB := Lib.hid hb; clear hb
  unfold goneF at *
  rcases fidx_cases id L with hf | ⟨i0, hf⟩
  · rw [hf] at HIX
    go_enter Tryd.func54, Tryd.ntmps54
    go_wp2_with fail
    refine HIX.out.mono ?_
    rintro e w1 ⟨rfl, hb1⟩
    have hfin : DfPost base gv cap n (kept id L) w (.returned (.slice (some ⟨gv, 0, none⟩) n cap)) w1 := by
      rw [kept_all hf]
      unfold DfPost
      rw [hl]
      exact ⟨rfl, own_below HROW.out hb1, ⟨hb1.os, hb1.tape, hb1.output, hb1.size, fun k hk _ => hb1.block k hk⟩, Nat.le_refl _⟩
    have HFIN := Lib.hid hfin; clear hfin
    go_wp2_with fail
    go_ret
    exact HFIN.out
  · rw [hf] at HIX
    obtain ⟨hi0, hk0⟩ := kept_first hf
    have hne1 : ((i0 : Int) == -1) = false := by rw [beq_eq_false_iff_ne]; omega
    go_enter Tryd.func54, Tryd.ntmps54
    go_wp2_with fail
    refine HIX.out.mono ?_
    rintro e w1 ⟨rfl, hb1⟩
    have hstart : DfRel base gv n cap id L w (.int .i64 i0) (.int .i64 ((i0 : Int) + 1)) w1 := ⟨i0, i0 + 1, L, rfl, rfl, by omega, by omega, hl, hk0, rfl, own_below HROW.out hb1, ⟨hb1.os, hb1.tape, hb1.output, hb1.size, fun k hk _ => hb1.block k hk⟩⟩
    have HST := Lib.hid hstart; clear hstart
    clear hf hk0
    go_wp2_with fail
    clear hne1 hi0 hb1
    go_loopw [5, 6] (DfRel base gv n cap id L w) (fun _ v _ => n - (intOf v).toNat)
    case atStart => exact HST.out
    case round =>
      obtain ⟨i, j, M, rfl, rfl, hij, hj, hM, hMt, hMd, hrow, hfr⟩ := hrel
      by_cases hlt : (j : Int) < n
      · have hx : M[j]? = L[j]? := by
          have := congrArg (fun l => l[0]?) hMd
          simpa using this
        obtain ⟨g', o', x, hA, hga, hxM, h0, h1, h2, h3, h4, h5, h6, h7, h8⟩ := (Rd.of_own hrow).cells9 hM (j := j) (by omega)
        simp only [Option.some.injEq, Addr.mk.injEq, and_true] at hA
        obtain ⟨rfl, rfl⟩ := hA
        rw [Nat.zero_add] at h0 h1 h2 h3 h4 h5 h6 h7 h8
        have hxL : L[j]? = some x := hx ▸ hxM
        have hw1 : Fr (fun _ => False) wr (wr.alloc (.cells (msgCells x.m x.A x.n x.k) 26)) := (Fr.refl _ _).alloc _
        have hcb := (hw1.cell (p := ⟨b, 0, none⟩) (Nat.lt_of_lt_of_le hbl hfr.size) (fun h => h)).trans ((hfr.cell (p := ⟨b, 0, none⟩) hbl hne).trans HB.out)
        have hcall := gone_any b id x _ hcb
        have hB1 : Blk (wr.alloc (.cells (msgCells x.m x.A x.n x.k) 26)) wr.heap.size 26 (msgCells x.m x.A x.n x.k) := Blk.new wr _ _
        have hrow1 := hw1.own hrow (fun _ _ h => h)
        unfold mrV msgV msgCells at *
        have HC := Lib.hid hcall; clear hcall
        have HB1 := Lib.hid hB1; clear hB1
        have HR1 := Lib.hid hrow1; clear hrow1
        have HFR := Lib.hid (hfr.trans' hw1 (fun _ _ h => h.elim)); clear hfr hw1
        have HMT := Lib.hid hMt; clear hMt
        have HMD := Lib.hid hMd; clear hMd
        have HXL := Lib.hid hxL; clear hxL hx hxM hcb
        have HM := Lib.hid hM; clear hM
        go_wp2_with fail
        refine HC.out.mono ?_
        rintro e w2 ⟨rfl, hb2⟩
        have hf2 : Fr (fun k => k = gv) w w2 := HFR.out.trans' (fr_of_below hb2) (fun i hi (h : _ ≤ i) => by have := HFR.out.size; simp at h this; omega)
        have hrow2 := own_below HR1.out hb2
        have hB2 : Blk w2 wr.heap.size 26 #[.int .i64 x.m.kind, .int .i64 x.m.from_, .int .i64 x.m.to_, .int .i64 x.m.epoch, .int .i64 x.m.n, .int .i64 x.m.cmd.kind, .int .i64 x.m.cmd.tx, .int .i64 x.m.cmd.time, .slice x.A x.n x.k] := HB1.out.below hb2 HB1.out.lt
        have HF2 := Lib.hid hf2; clear hf2
        rcases hp : gone id x.m with _ | _
        · have hxk := kept_snoc (id := id) HXL.out
          rw [hp, if_neg (by simp)] at hxk
          have hiM : i < M.length := by rw [HM.out]; omega
          have q0 := hB2.cell 0
          have q1 := hB2.cell 1
          have q2 := hB2.cell 2
          have q3 := hB2.cell 3
          have q4 := hB2.cell 4
          have q5 := hB2.cell 5
          have q6 := hB2.cell 6
          have q7 := hB2.cell 7
          have q8 := hB2.cell 8
          simp only [List.getElem?_toArray, List.getElem?_cons_succ, List.getElem?_cons_zero] at q0 q1 q2 q3 q4 q5 q6 q7 q8
          obtain ⟨g', o', y, hA, _, _, p0, p1, p2, p3, p4, p5, p6, p7, p8⟩ := (Rd.of_own hrow2).cells9 HM.out (j := i) (by omega)
          simp only [Option.some.injEq, Addr.mk.injEq, and_true] at hA
          obtain ⟨rfl, rfl⟩ := hA
          rw [Nat.zero_add] at p0 p1 p2 p3 p4 p5 p6 p7 p8
          have f0 := hrow2.frozenAt (i * 9)
          have f1 := hrow2.frozenAt (i * 9 + 1)
          have f2 := hrow2.frozenAt (i * 9 + 2)
          have f3 := hrow2.frozenAt (i * 9 + 3)
          have f4 := hrow2.frozenAt (i * 9 + 4)
          have f5 := hrow2.frozenAt (i * 9 + 5)
          have f6 := hrow2.frozenAt (i * 9 + 6)
          have f7 := hrow2.frozenAt (i * 9 + 7)
          have f8 := hrow2.frozenAt (i * 9 + 8)
          have hgv : gv < w2.heap.size := (hrow2.lt gv rfl).2
          have hnew := own_fill hrow2 x hiM
          have hrel2 : DfRel base gv n cap id L w (.int .i64 ((i : Int) + 1)) (.int .i64 ((j : Int) + 1)) (fillO w2 gv (i * 9) x) := by
            refine ⟨i + 1, j + 1, M.set i x, rfl, rfl, by omega, by omega, by rw [List.length_set]; exact HM.out, ?_, ?_, hnew, HF2.out.trans (fillO_fr w2 gv (i * 9) x)⟩
            · rw [hxk, ← HMT.out, List.take_add_one, List.take_set, List.getElem?_set_self hiM, List.set_eq_of_length_le (by rw [List.length_take]; omega)]
              simp
            · rw [List.drop_set_of_lt (by omega), ← List.drop_drop, HMD.out, List.drop_drop]
          have HREL := Lib.hid hrel2; clear hrel2 hnew hxk hiM
          have HP := Lib.hid hp; clear hp
          have HR2 := Lib.hid hrow2; clear hrow2
          clear hB2 h0 h1 h2 h3 h4 h5 h6 h7 h8
          unfold fillO at HREL
          go_wp2_with fail
          go_roundw
          case rel => exact HREL.out
          case measure => simp [intOf]; omega
        · have hxk := kept_snoc (id := id) HXL.out
          rw [hp, if_pos rfl] at hxk
          have hrel2 : DfRel base gv n cap id L w (.int .i64 i) (.int .i64 ((j : Int) + 1)) w2 :=
            ⟨i, j + 1, M, rfl, rfl, by omega, by omega, HM.out, by rw [HMT.out, hxk], by rw [← List.drop_drop, HMD.out, List.drop_drop], hrow2, HF2.out⟩
          have HREL := Lib.hid hrel2; clear hrel2 hxk hrow2
          have HP := Lib.hid hp; clear hp hB2 h0 h1 h2 h3 h4 h5 h6 h7 h8
          go_wp2_with fail
          go_roundw
          case rel => exact HREL.out
          case measure => simp [intOf]; omega
      · obtain rfl : j = n := by omega
        have hcap := (own_cap hrow).1
        have hall : L.take j = L := List.take_of_length_le (by omega)
        rw [hall] at hMt
        have hkl : (kept id L).length = i := by rw [← hMt, List.length_take]; omega
        have hpre := own_prefix hrow (i := i) (by omega)
        rw [flat9_take, hMt] at hpre
        obtain ⟨w2, hcl, hrow2, hf2⟩ := run_clear_rest 68 zmsgV Tryd.underlying68 zero_msg (by rfl) (by decide) hpre (m := j - i) (c := cap - i) (by omega)
        have s1 := slice_fromG (size := 9) 68 und_msgs size_msg wr gv j cap i (i : Int) rfl (by omega)
        have s2 := slice_toG (size := 9) 68 und_msgs size_msg w2 gv j cap i (i : Int) rfl (by omega)
        have hfin : DfPost base gv cap j (kept id L) w (.returned (.slice (some ⟨gv, 0, none⟩) i cap)) w2 := by
          unfold DfPost
          rw [hkl]
          exact ⟨rfl, hrow2, hfr.trans hf2, by omega⟩
        have HFIN := Lib.hid hfin; clear hfin hrow2 hf2 hpre hrow hMt hMd hM hfr hkl hall
        go_wp2_with fail
        go_ret
        exact HFIN.out
end Go.Proofs.YtnahkpfamocnfaaDoor
