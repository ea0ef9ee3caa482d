/- net.All: a copy of what is under way. -/
import Derived.Test.YtnahkpfamocnfaaDoorNet4
namespace Go.Proofs.YtnahkpfamocnfaaDoor
open Go.RowKit
def CloneMP (base : Nat) (n : Nat) (l : List MsR) (w : World) (e : Ending) (w' : World) : Prop :=
  ∃ A k, e = .returned (.slice A n k) ∧ w'.ownsRow base 26 9 (.slice A n k) n (l.flatMap mrCells) ∧ Below w.heap.size w w' ∧ (∀ b, Value.ownBlock (.slice A n k) = some b → w.heap.size ≤ b)
set_option maxRecDepth 100000 in
set_option maxHeartbeats 1000000 in
theorem cloneM_any (base n : Nat) (V : Value) (l : List MsR) (w : World) (h : w.ownsRow base 26 9 V n (l.flatMap mrCells)) (hb : base ≤ w.heap.size) (hn : n ≤ 100000) :
    Calls Tryd.prog 56 #[V] w (CloneMP base n l w) := by
  rcases h.2 with ⟨rfl, hn0⟩ | ⟨g, cap, cur, rfl, _⟩
  · subst hn0
    have hf : CloneMP base 0 l w (.returned (.slice none 0 0)) w := ⟨none, 0, rfl, h, Below.refl _ _, fun b hb => by simp [Value.ownBlock] at hb⟩
    have HF := Lib.hid hf; clear hf h
    have hnil := Lib.run_eql_slice_nil w 68 _ none 0 0 0 0 Tryd.underlying68
    go_enter Tryd.func56, Tryd.ntmps56
    go_wp2_with fail
    go_ret
    exact HF.out
  · have H := Lib.hid h; clear h
    have hnil := Lib.run_eql_slice_nil w 68 _ (some ⟨g, 0, none⟩) n cap 0 0 Tryd.underlying68
    go_enter Tryd.func56, Tryd.ntmps56
    go_wp2_with (at_builtin; refine stop ?_)
    refine back ?_
    have hs : Below w.heap.size w (w.alloc (.cells #[] 26)) := (Below.refl _ _).alloc (Nat.le_refl _) _
    have hrd := (Rd.of_own H.out).below hs
    refine wpList_appendR _ rfl (.tmp 5) (.tmp 6) 68 rfl base 26 _ 9 88 Tryd.underlying68 msg_info rfl (by decide) _ 0 [] rfl (own_empty w base _ _ hb) w.heap.size _ n cap (l.flatMap mrCells) rfl hrd.reads (mrs_one l) (by unfold maxLen; omega) (by omega) (by simp; omega) ?_
    intro v' w' hown hm
    rw [Nat.zero_add, List.nil_append] at hown
    obtain ⟨A', c, rfl, _, _⟩ := own_slice hown
    have hf : CloneMP base n l w (.returned (.slice A' n c)) w' := ⟨A', c, rfl, hown, hs.trans (hm.below (fun g hg => by have e : some w.heap.size = some g := hg; injection e with e; omega) (by simp)), fun b hb => by
      rcases hm.2 with e | ⟨b', e, hb'⟩
      · have e2 : Value.ownBlock (.slice A' n c) = some w.heap.size := e
        rw [e2] at hb; injection hb with hb; omega
      · rw [e] at hb; injection hb with hb; simp at hb'; omega⟩
    have HF := Lib.hid hf; clear hf hown hm hs
    go_wp2_with fail
    go_ret
    exact HF.out
theorem set8 : ∀ (M : List MsR) (i : Nat) (x : MsR) (A : Option Addr) (k : Nat), M[i]? = some x → (M.flatMap mrCells).set (i * 9 + 8) (.slice A x.n k) = (M.set i ⟨x.m, A, x.n, k⟩).flatMap mrCells
  | [], i, x, A, k, h => by simp at h
  | y :: M, 0, x, A, k, h => by
    have e : y = x := by simpa using h
    subst e
    simp [mrCells, msgCells]
  | y :: M, i + 1, x, A, k, h => by
    have ih := set8 M i x A k (by simpa using h)
    have e0 : (i + 1) * 9 + 8 = i * 9 + 8 + 9 := by omega
    rw [e0, List.set_cons_succ, List.flatMap_cons, List.flatMap_cons, ← ih]
    simp [mrCells, msgCells]
theorem msOf_set (M : List MsR) (i : Nat) (x : MsR) (A : Option Addr) (k : Nat) (h : M[i]? = some x) : msOf (M.set i ⟨x.m, A, x.n, k⟩) = msOf M := by
  unfold msOf
  rw [List.map_set]
  apply List.ext_getElem?
  intro q
  rw [List.getElem?_set]
  split
  · rename_i hq
    subst hq
    rw [List.getElem?_map, h]
    simp [(List.getElem?_eq_some_iff.1 h).1]
  · rfl
def AllPost (base : Nat) (L : List MsR) (w : World) (e : Ending) (w' : World) : Prop :=
  ∃ A k M, e = .returned (.slice A L.length k) ∧ w'.ownsRow base 26 9 (.slice A L.length k) M.length (M.flatMap mrCells) ∧ msOf M = msOf L ∧ M.length = L.length ∧ (∀ x ∈ M, OwnW w' base x) ∧ Below w.heap.size w w'
def AllRel (base n : Nat) (V : Value) (L : List MsR) (w : World) (i : Value) (wr : World) : Prop :=
  ∃ (j : Nat) (M : List MsR), i = .int .i64 j ∧ j ≤ n ∧ wr.ownsRow base 26 9 V n (M.flatMap mrCells) ∧ M.length = n ∧ msOf M = msOf L ∧ (∀ x ∈ M, OwnW wr base x ∧ x.n ≤ 100000) ∧ Below w.heap.size w wr
theorem ownW_below {w w' : World} {base : Nat} {x : MsR} (h : OwnW w base x) (hb : Below w.heap.size w w') : OwnW w' base x :=
  ⟨(fr_of_below hb).own h.1 (fun g hg (h' : w.heap.size ≤ g) => by have := (h.1.lt g hg).2; omega), h.2⟩
set_option maxRecDepth 100000 in
set_option maxHeartbeats 4000000 in
theorem all_any (base g nd : Nat) (T : TypeId) (cs : Array Value) (V : Value) (D : Option Nat) (L : List MsR) (dead : Int → Bool) (lost : Int) (w : World)
    (hI : NetI w base g 0 T cs V D nd L dead lost) (hn : ∀ x ∈ L, x.n ≤ 100000) : Calls Tryd.prog 32 #[.pointer (some ⟨g, 0, none⟩)] w (AllPost base L w) := by
  obtain ⟨A', c', hV', hc', hA'⟩ := own_slice hI.row
  have c0 := (hI.blk.cell 0).trans hI.c0
  rw [hV'] at c0
  have hcl := cloneM_any base L.length V L w hI.row hI.bg (by have := hI.len; omega)
  rw [hV'] at hcl
  have hlen := hI.len
  have HC := Lib.hid hcl; clear hcl
  have HI := Lib.hid hI; clear hI hV'
  have HN := Lib.hid hn; clear hn
  go_enter Tryd.func32, Tryd.ntmps32
  go_wp2_with fail
  refine HC.out.mono ?_
  rintro e w1 ⟨A1, k1, rfl, hrow1, hb1, hnew⟩
  have hstart : AllRel base L.length (.slice A1 L.length k1) L w (.int .i64 (0 : Nat)) w1 := ⟨0, L, rfl, Nat.zero_le _, hrow1, rfl, rfl, fun x hx => ⟨ownW_below (HI.out.own x hx) hb1, HN.out x hx⟩, hb1⟩
  have HST := Lib.hid hstart; clear hstart hrow1 hb1 c0 HC
  have HNEW := Lib.hid hnew; clear hnew
  go_wp2_with fail
  go_loopw [12] (AllRel base L.length (.slice A1 L.length k1) L w) (fun i _ => L.length - (intOf i).toNat)
  case atStart => exact HST.out
  case round =>
    obtain ⟨j, M, rfl, hj, hrow, hM, hms, hown, hbw⟩ := hrel
    by_cases hlt : (j : Int) < L.length
    · obtain ⟨gv, cap, hv, hbv, hlv⟩ := own_at hrow (by omega)
      injection hv with hA _ hk
      subst hA hk
      obtain ⟨g', o', x, hA, hga, hx, h0, h1, h2, h3, h4, h5, h6, h7, h8⟩ := (Rd.of_own hrow).cells9 hM (j := j) (by omega)
      simp only [Option.some.injEq, Addr.mk.injEq, and_true] at hA
      obtain ⟨rfl, rfl⟩ := hA
      rw [Nat.zero_add] at h8
      have hox := hown x (List.mem_of_getElem? hx)
      have hxk : x.A = none → x.k = 0 := fun e => by
        rcases hox.1.1.2 with ⟨h, _⟩ | ⟨_, _, _, h, _⟩
        · injection h
        · rw [e] at h; cases h
      have hbr : base ≤ wr.heap.size := Nat.le_trans HI.out.bg hbw.size
      have hcl := clone_any base wr.heap.size x.n x.k x.A x.m.cmd.writes wr ⟨hox.1.2, Rd.of_own hox.1.1⟩ (Nat.le_refl _) hbr hox.2 hxk
      have HCL := Lib.hid hcl; clear hcl
      have HX := Lib.hid hx; clear hx
      have HROW := Lib.hid hrow; clear hrow
      have HOWN := Lib.hid hown; clear hown
      have HM := Lib.hid hM; clear hM
      have HMS := Lib.hid hms; clear hms
      clear h0 h1 h2 h3 h4 h5 h6 h7 hox hxk
      go_wp2_with fail
      refine HCL.out.mono ?_
      rintro e w2 ⟨A2, k2, rfl, hown2, hb2⟩
      have hrow2 := (fr_of_below hb2).own HROW.out (fun g hg (h' : wr.heap.size ≤ g) => by have := (HROW.out.lt g hg).2; omega)
      obtain ⟨g2, o2, x2, hA2, _, hx2, q0, q1, q2, q3, q4, q5, q6, q7, q8⟩ := (Rd.of_own hrow2).cells9 HM.out (j := j) (by omega)
      simp only [Option.some.injEq, Addr.mk.injEq, and_true] at hA2
      obtain ⟨rfl, rfl⟩ := hA2
      rw [HX.out] at hx2
      obtain rfl := Option.some.inj hx2
      rw [Nat.zero_add] at q8
      have hfz := hrow2.frozenAt (j * 9 + 8)
      have hst := (hrow2.stored (j * 9 + 8) (.slice A2 x.n k2)).1
      rw [set8 M j x A2 k2 HX.out] at hst
      have hset : Fr (fun k => k = gv) w2 (w2.setCell ⟨gv, j * 9 + 8, none⟩ (.slice A2 x.n k2)) := Fr.set1 gv w2 _ _
      have hrel2 : AllRel base L.length (.slice (some ⟨gv, 0, none⟩) L.length k1) L w (.int .i64 ((j : Int) + 1)) (w2.setCell ⟨gv, j * 9 + 8, none⟩ (.slice A2 x.n k2)) := by
        refine ⟨j + 1, M.set j ⟨x.m, A2, x.n, k2⟩, rfl, by omega, hst, by rw [List.length_set]; exact HM.out, by rw [msOf_set M j x A2 k2 HX.out]; exact HMS.out, fun y hy => ?_, ?_⟩
        · have hnP : ∀ (v : Value) (m : Nat) (xs : List Value), w2.ownsRow base 123 3 v m xs → ∀ b, v.ownBlock = some b → ¬ b = gv := fun v m xs ho b hb e => by
            subst e; exact own_apart hrow2 ho (by decide) rfl hb
          rcases List.mem_or_eq_of_mem_set hy with hy | rfl
          · have h1 := HOWN.out y hy
            have h2 := ownW_below h1.1 hb2
            exact ⟨⟨hset.own h2.1 (hnP _ _ _ h2.1), h2.2⟩, h1.2⟩
          · have h1 := HOWN.out x (List.mem_of_getElem? HX.out)
            exact ⟨⟨hset.own hown2 (hnP _ _ _ hown2), h1.1.2⟩, h1.2⟩
        · exact (hbw.trans (hb2.mono hbw.size)).trans (hset.below (fun i (e : i = gv) => by rw [e]; exact HNEW.out gv rfl) (Nat.le_trans hbw.size hb2.size))
      have HREL := Lib.hid hrel2; clear hrel2 hst hset hown2 hrow2 hb2
      have hgl2 : gv < w2.heap.size := by
        rcases Nat.lt_or_ge gv w2.heap.size with h | h
        · exact h
        · exact absurd (World.block_lt_of_cell? w2 _ q8) (by show ¬ gv < _; omega)
      clear q0 q1 q2 q3 q4 q5 q6 q7
      go_wp2_with fail
      go_roundw
      case rel => exact HREL.out
      case measure => simp [intOf]; omega
    · have hfin : AllPost base L w (.returned (.slice A1 L.length k1)) wr := ⟨A1, k1, M, rfl, by rw [hM]; exact hrow, hms, hM, fun x hx => (hown x hx).1, hbw⟩
      have HFIN := Lib.hid hfin; clear hfin hrow hM hms hown hbw
      go_wp2_with fail
      go_ret
      exact HFIN.out
end Go.Proofs.YtnahkpfamocnfaaDoor
