/- net.Down. -/
import Derived.Test.YtnahkpfamocnfaaDoorNet7
import Derived.Laws.Cover3
import Derived.Carry
import Derived.StillTailTactics
import Derived.IntWalk
namespace Go.Proofs.YtnahkpfamocnfaaDoor
open Go.RowKit
theorem eql_map_nil {P : Program} (w : World) (t k e : TypeId) (m : Option Nat) (h : P.underlying t = some (.map k e)) : (binOp .eql t (.map m) (.map none)).run P w = .ok (.bool m.isNone) w := by
  simp only [binOp]
  simp [run_equal_map_nil w t k e m h]
set_option maxRecDepth 100000 in
set_option maxHeartbeats 2000000 in
theorem index_nil (b : Nat) (w : World) : Calls Tryd.prog 70 #[.slice none 0 0, goneF b] w fun e w' => e = .returned (.int .i64 (-1)) ∧ w = w' := by
  unfold goneF
  go_enter Tryd.func70, Tryd.ntmps70
  go_wp2_with fail
  go_loopw [8] (fun v wr => v = .int .i64 0 ∧ wr = w) (fun _ _ => 0)
  case atStart => exact ⟨rfl, rfl⟩
  case round =>
    obtain ⟨rfl, rfl⟩ := hrel
    go_wp2_with fail
    go_ret
    exact ⟨rfl, rfl⟩
set_option maxRecDepth 100000 in
set_option maxHeartbeats 2000000 in
theorem deletef_nil (b : Nat) (w : World) : Calls Tryd.prog 54 #[.slice none 0 0, goneF b] w fun e w' => e = .returned (.slice none 0 0) ∧ w = w' := by
  have hix := index_nil b w
  unfold goneF at *
  have HIX := Lib.hid hix; clear hix
  go_enter Tryd.func54, Tryd.ntmps54
  go_wp2_with fail
  refine HIX.out.mono ?_
  rintro e w1 ⟨rfl, rfl⟩
  go_wp2_with fail
  go_ret
  exact ⟨rfl, rfl⟩
def DfNet (base : Nat) (V : Value) (l : List MsR) (w : World) (e : Ending) (w' : World) : Prop :=
  ∃ V', e = .returned V' ∧ (∃ A n c, V' = .slice A n c) ∧ w'.ownsRow base 26 9 V' l.length (l.flatMap mrCells) ∧ Fr (fun k => some k = V.ownBlock) w w' ∧ V'.ownBlock = V.ownBlock
/-- DeleteFunc of the net's row, nil or not. -/
theorem deletef_net (base b n : Nat) (V : Value) (id : Int) (L : List MsR) (w : World) (hrow : w.ownsRow base 26 9 V n (L.flatMap mrCells)) (hl : L.length = n) (hn : n ≤ 100000) (hb : w.cell? ⟨b, 0, none⟩ = some (.int .i64 id)) (hne : V.ownBlock ≠ some b) :
    Calls Tryd.prog 54 #[V, goneF b] w (DfNet base V (kept id L) w) := by
  rcases hrow.2 with ⟨rfl, h0⟩ | ⟨gv, cap, cur, rfl, _⟩
  · subst h0
    have hl0 : L = [] := List.eq_nil_of_length_eq_zero hl
    subst hl0
    refine (deletef_nil b w).mono ?_
    rintro e w' ⟨rfl, rfl⟩
    exact ⟨_, rfl, ⟨_, _, _, rfl⟩, hrow, Fr.refl _ _, rfl⟩
  · refine (deletef_any base gv n cap b id L w hrow hl hn hb (fun e => hne (by rw [e]; rfl))).mono ?_
    rintro e w' ⟨rfl, h1, h2, _⟩
    exact ⟨_, rfl, ⟨_, _, _, rfl⟩, h1, h2.mono (fun i _ (h : i = gv) => by rw [h]; rfl), rfl⟩
def DNew (D D' : Option Nat) (n : Nat) : Prop := D' = D ∨ ∃ b, D' = some b ∧ n ≤ b
def DownPost (base g off : Nat) (T : TypeId) (cs : Array Value) (V : Value) (D : Option Nat) (nd : Nat) (L : List MsR) (dead : Int → Bool) (lost id : Int) (w : World) (e : Ending) (w' : World) : Prop :=
  ∃ V' D' d, e = .returned (.int .i64 d) ∧ d = (L.length : Int) - (kept id L).length ∧ NetI w' base g off T (((cs.setIfInBounds (off + 1) (.map D')).setIfInBounds off V').setIfInBounds (off + 2) (.int .i64 (lost + d))) V' D' (nd + 1) (kept id L) (fun i => decide (i = id) || dead i) (lost + d) ∧
    Fr (NetB g V D) w w' ∧ V'.ownBlock = V.ownBlock ∧ DNew D D' w.heap.size
/-- The map made, and the number set. -/
theorem dead_set {w' : World} {nd b : Nat} {dead : Int → Bool} {id : Int} (h : MapG keyInt w' b (nd + 1) (putM (fun i => if dead i then some (.bool true) else none) id (some (.bool true)))) : DeadM w' (nd + 1) (some b) (fun i => decide (i = id) || dead i) := by
  have e : (putM (fun i => if dead i then some (.bool true) else none) id (some (.bool true)) : Int → Option Value) = fun i => if (decide (i = id) || dead i) then some (.bool true) else none := by
    funext i
    by_cases hi : i = id
    · subst hi; rw [putM_same]; simp
    · rw [putM_ne hi]; simp [hi]
  unfold DeadM
  rw [e] at h
  exact h
/-- A number more is down: the map turned. -/
theorem net_mapped {w w' : World} {base g off nd b : Nat} {T : TypeId} {cs : Array Value} {V : Value} {L : List MsR} {dead : Int → Bool} {lost id : Int}
    (h : NetI w base g off T cs V (some b) nd L dead lost) (hm : MapG keyInt w' b (nd + 1) (putM (fun i => if dead i then some (.bool true) else none) id (some (.bool true)))) (hf : Fr (fun k => k = b) w w') :
    NetI w' base g off T cs V (some b) (nd + 1) L (fun i => decide (i = id) || dead i) lost :=
  ⟨hf.blk h.blk (fun e => h.down.notBlk h.blk (by rw [e])), h.c0, h.c1, h.c2, hf.own h.row (fun k hk (e : k = b) => by subst e; exact h.down.notOwn h.row rfl hk), fun x hx => ⟨hf.own (h.own x hx).1 (fun k hk (e : k = b) => by subst e; exact h.down.notOwn (h.own x hx).1 rfl hk), (h.own x hx).2⟩, dead_set hm, h.len, h.lo, h.hi, h.ne, Nat.le_trans h.bg hf.size⟩
/-- An empty map laid in where none was. -/
theorem net_made {w : World} {base g off nd : Nat} {T : TypeId} {cs : Array Value} {V : Value} {L : List MsR} {dead : Int → Bool} {lost : Int} (h : NetI w base g off T cs V none nd L dead lost) :
    NetI ((w.alloc (.map #[] 0)).setCell ⟨g, off + 1, none⟩ (.map (some w.heap.size))) base g off T (cs.setIfInBounds (off + 1) (.map (some w.heap.size))) V (some w.heap.size) nd L dead lost := by
  have hsz : off + 1 < cs.size := by
    have := h.c1
    rcases Nat.lt_or_ge (off + 1) cs.size with h | h
    · exact h
    · rw [Array.getElem?_eq_none (by simpa using h)] at this; cases this
  have h1 := h.fr ((Fr.refl (fun _ => False) w).alloc (.map #[] 0)) (fun h => h) (fun _ _ h => h) (fun _ _ h => h) (fun _ _ _ _ _ h => h)
  have hset := Fr.set1 g (w.alloc (.map #[] 0)) (off + 1) (.map (some w.heap.size))
  have hm : MapG keyInt (w.alloc (.map #[] 0)) w.heap.size nd (fun i => if dead i then some (.bool true) else none) := by
    have e : (fun i => if dead i then some (.bool true) else none : Int → Option Value) = fun _ => none := by funext i; rw [h.down i]; rfl
    rw [e]
    exact (MapG.made keyInt w).mono (Nat.zero_le _)
  refine ⟨h1.blk.set_ _ _, ?_, by simp [hsz], ?_, hset.own h1.row (fun b hb e => by subst e; exact own_blk_ne h1.row h1.blk (fun e => h.ne.1 e.symm) hb), fun x hx => ⟨hset.own (h1.own x hx).1 (fun b hb e => by subst e; exact own_blk_ne (h1.own x hx).1 h1.blk (fun e => h.ne.2 e.symm) hb), (h1.own x hx).2⟩, ?_, h.len, h.lo, h.hi, h.ne, Nat.le_trans h1.bg hset.size⟩
  · rw [Array.getElem?_setIfInBounds_ne (by omega)]; exact h.c0
  · rw [Array.getElem?_setIfInBounds_ne (by omega)]; exact h.c2
  · exact MapG.fr hm hset (fun e => MapG.notBlk hm h1.blk e)
/-- The row turned, and laid in. -/
theorem net_rowset {w w5 : World} {base g off nd : Nat} {T : TypeId} {cs : Array Value} {V V' : Value} {D : Option Nat} {L l : List MsR} {dead : Int → Bool} {lost : Int}
    (h : NetI w base g off T cs V D nd L dead lost) (hrow : w5.ownsRow base 26 9 V' l.length (l.flatMap mrCells)) (hf : Fr (fun k => some k = V.ownBlock) w w5) (hV : V'.ownBlock = V.ownBlock) (hl : ∀ x ∈ l, x ∈ L) (hlen : l.length ≤ 200 := by omega) :
    NetI (w5.setCell ⟨g, off, none⟩ V') base g off T (cs.setIfInBounds off V') V' D nd l dead lost := by
  have hgV : ¬ some g = V.ownBlock := fun e => own_blk_ne h.row h.blk (fun e => h.ne.1 e.symm) e.symm
  have hb5 : Blk w5 g T cs := hf.blk h.blk hgV
  have hset : Fr (fun k => k = g) w5 (w5.setCell ⟨g, off, none⟩ V') := Fr.set1 g w5 off V'
  have hoff : off < cs.size := by
    rcases Nat.lt_or_ge off cs.size with h1 | h1
    · exact h1
    · have := h.c0; rw [Array.getElem?_eq_none h1] at this; cases this
  refine ⟨hb5.set_ _ _, by simp [hoff], ?_, ?_, hset.own hrow (fun b hb e => by subst e; exact own_blk_ne hrow hb5 (fun e => h.ne.1 e.symm) hb), fun y hy => ?_, ?_, hlen, h.lo, h.hi, h.ne, Nat.le_trans h.bg (Nat.le_trans hf.size hset.size)⟩
  · rw [Array.getElem?_setIfInBounds_ne (by omega)]; exact h.c1
  · rw [Array.getElem?_setIfInBounds_ne (by omega)]; exact h.c2
  · have h2 := h.own y (hl y hy)
    have h3 := hf.own h2.1 (fun b hb e => own_apart h2.1 h.row (by decide) hb e.symm)
    exact ⟨hset.own h3 (fun b hb e => by subst e; exact own_blk_ne h3 hb5 (fun e => h.ne.2 e.symm) hb), h2.2⟩
  · refine (h.down.fr hf (fun b hb e => ?_)).fr hset (fun b hb e => ?_)
    · exact h.down.notOwn h.row hb e.symm
    · subst e; exact h.down.notBlk h.blk hb
set_option maxRecDepth 100000 in
set_option maxHeartbeats 4000000 in
theorem down_any (base g off nd : Nat) (T : TypeId) (cs : Array Value) (V : Value) (D : Option Nat) (L : List MsR) (dead : Int → Bool) (lost id : Int) (w : World)
    (hI : NetI w base g off T cs V D nd L dead lost) (hid : okI id) (hnd : nd < 1000000) (hl : lost + 200 ≤ 1099511627776) :
    Calls Tryd.prog 30 #[.pointer (some ⟨g, off, none⟩), .int .i64 id] w (DownPost base g off T cs V D nd L dead lost id w) := by
  have hw1 : Fr (fun _ => False) w (w.alloc (.cells #[.int .i64 id] 3)) := (Fr.refl _ _).alloc _
  have hI1 := hI.fr hw1 (fun h => h) (fun _ _ h => h) (fun _ _ h => h) (fun _ _ _ _ _ h => h)
  have hB1 : Blk (w.alloc (.cells #[.int .i64 id] 3)) w.heap.size 3 #[.int .i64 id] := Blk.new w _ _
  have hgl := hI.blk.lt
  have c1 := (hI1.blk.cell (off + 1)).trans hI1.c1
  have f1 := hI1.blk.frozen (off + 1)
  have HI := Lib.hid hI; clear hI
  have HI1 := Lib.hid hI1; clear hI1
  have HB1 := Lib.hid hB1; clear hB1
  have HW1 := Lib.hid hw1; clear hw1
  have hn0 := fun W => eql_map_nil W 69 _ _ D Tryd.underlying69
  rcases D with _ | b
  case' none =>
    have hmm := @run_makeMap Tryd.prog
    have hmd := net_made HI1.out
    have hmd2 := ((HI1.out.fr ((Fr.refl (fun _ => False) _).alloc (.map #[] 0)) (fun h => h) (fun _ _ h => h) (fun _ _ h => h) (fun _ _ _ _ _ h => h)).blk.cell (off + 1)).trans HI1.out.c1
    have hmd3 := (HI1.out.fr ((Fr.refl (fun _ => False) _).alloc (.map #[] 0)) (fun h => h) (fun _ _ h => h) (fun _ _ h => h) (fun _ _ _ _ _ h => h)).blk.frozen (off + 1)
    have hidc := (Fr.set1 g ((w.alloc (.cells #[.int .i64 id] 3)).alloc (.map #[] 0)) (off + 1) (.map (some (w.heap.size + 1)))).blk (HB1.out.alloc (.map #[] 0)) (fun h => by omega)
    have hfr : Fr (NetB g V none) w (((w.alloc (.cells #[.int .i64 id] 3)).alloc (.map #[] 0)).setCell ⟨g, off + 1, none⟩ (.map (some (w.heap.size + 1)))) := (((Fr.refl _ _).alloc _).alloc _).setCell (p := ⟨g, off + 1, none⟩) (.inl (.inl rfl)) _
    simp only [World.size_alloc] at hmd
    have hpast : ((w.alloc (.cells #[.int .i64 id] 3)).alloc (.map #[] 0)).setCell ⟨g, off + 1, none⟩ (.map (some (w.heap.size + 1))) = ((w.setCell ⟨g, off + 1, none⟩ (.map (some (w.heap.size + 1)))).alloc (.cells #[.int .i64 id] 3)).alloc (.map #[] 0) := by
      rw [World.setCell_alloc_past _ _ _ _ (by simp; omega), World.setCell_alloc_past _ _ _ _ (by omega)]
    rw [hpast] at hmd hidc hfr
    clear hpast
    have HMD := Lib.hid hmd; clear hmd
    have HID := Lib.hid hidc; clear hidc
    have HFR := Lib.hid hfr; clear hfr
    have HDD := Lib.hid (show DNew none (some (w.heap.size + 1)) w.heap.size from .inr ⟨_, rfl, by omega⟩)
    have HNB := Lib.hid (show ∀ i, i < w.heap.size → NetB g V (some (w.heap.size + 1)) i → NetB g V none i from fun i hi h => by
      rcases h with h | h | h
      · exact .inl h
      · exact .inr (.inl h)
      · injection h with h; omega)
    go_enter Tryd.func30, Tryd.ntmps30
    go_upto_region 3 with (fail)
    clear hmd2 hmd3 hmm
    generalize hb : w.heap.size + 1 = b at *
    generalize ((w.setCell ⟨g, off + 1, none⟩ (.map (some b))).alloc (.cells #[.int .i64 id] 3)).alloc (.map #[] 0) = w3 at *
  case' some =>
    have hmd : NetI (w.alloc (.cells #[.int .i64 id] 3)) base g off T (cs.setIfInBounds (off + 1) (.map (some b))) V (some b) nd L dead lost := by rw [setIf_same HI1.out.c1]; exact HI1.out
    have hfr : Fr (NetB g V (some b)) w (w.alloc (.cells #[.int .i64 id] 3)) := (Fr.refl _ _).alloc _
    have HMD := Lib.hid hmd; clear hmd
    have HID := Lib.hid HB1.out
    have HFR := Lib.hid hfr; clear hfr
    have HDD := Lib.hid (show DNew (some b) (some b) w.heap.size from .inl rfl)
    have HNB := Lib.hid (show ∀ i, i < w.heap.size → NetB g V (some b) i → NetB g V (some b) i from fun i _ h => h)
    go_enter Tryd.func30, Tryd.ntmps30
    go_upto_region 3 with (fail)
    generalize w.alloc (.cells #[.int .i64 id] 3) = w3 at *
  all_goals
    clear hn0 c1 f1 HI1 HB1 HW1
    have n1 := (HMD.out.blk.cell (off + 1)).trans HMD.out.c1
    have i0 := HID.out.cell 0
    simp only [List.getElem?_toArray, List.getElem?_cons_zero] at i0
    refine wp_region_any (by kernel_rfl) ?_
    change wpAny _ _ _ _ _ _ _ (World.drew _)
    refine nplain (fun w' => w'.cell? ⟨g, off + 1, none⟩ = some (.map (some b)) ∧ w'.cell? ⟨w.heap.size, 0, none⟩ = some (.int .i64 id)) 5 ?_
    have HCC := And.intro n1 i0
    refine ntake 0 rfl (by kernel_rfl) (by kernel_rfl) (by kernel_rfl) (by kernel_rfl) (fun _ _ _ h => h) (by kernel_rfl) HCC (fun w' hw' => by go_simp; rfl) ?_
    refine ntake 1 rfl (by kernel_rfl) (by kernel_rfl) (by kernel_rfl) (by kernel_rfl) (fun _ _ _ h => h) (by kernel_rfl) HCC (fun w' hw' => by go_simp; rfl) ?_
    refine ntake 2 rfl (by kernel_rfl) (by kernel_rfl) (by kernel_rfl) (by kernel_rfl) (fun _ _ _ h => h) (by kernel_rfl) HCC (fun w' hw' => by go_simp; rfl) ?_
    refine ntake 3 rfl (by kernel_rfl) (by kernel_rfl) (by kernel_rfl) (by kernel_rfl) (fun _ _ _ h => h) (by kernel_rfl) HCC (fun w' hw' => by obtain ⟨h0, h1⟩ := hw'; go_simp; rfl) ?_
    refine ntake 4 rfl (by kernel_rfl) (by kernel_rfl) (by kernel_rfl) (by kernel_rfl) (fun _ _ _ h => h) (by kernel_rfl) HCC (fun w' hw' => by obtain ⟨h0, h1⟩ := hw'; go_simp; rfl) ?_
    refine nonly 5 (by kernel_rfl) rfl (by kernel_rfl) (fun K hK => ?_)
    refine wp_setG (C := keyInt) 69 4 Tryd.underlying69 (.tmp 18) (.tmp 19) _ rfl rfl (show MapG keyInt w3.drew b nd _ from HMD.out.down) (by unfold maxLen; omega) id (.bool true) rfl rfl hid ?_
    intro w4 hm4 hf4
    have hf4 : Fr (fun k => k = b) w3 w4 := ⟨hf4.os, hf4.tape, hf4.output, hf4.size, hf4.block⟩
    have hN4 := net_mapped HMD.out hm4 hf4
    have hid4 := hf4.blk HID.out (fun e => HMD.out.down.notBlk HID.out (by rw [e]))
    have hfr4 : Fr (NetB g V (some b)) w3 w4 := hf4.mono (fun i _ (h : i = b) => .inr (.inr (by rw [h])))
    have HN4 := Lib.hid hN4; clear hN4
    have HID4 := Lib.hid hid4; clear hid4
    have HFR4 := Lib.hid hfr4; clear hfr4 hm4 hf4 n1 i0 HCC HMD HID
    refine hK _ _ (fun h => absurd h (by decide)) ?_
    clear hK K
    refine ndone (by kernel_rfl) ?_ _
    obtain ⟨A', c', hV', hc', _⟩ := own_slice HN4.out.row
    have n0 := (HN4.out.blk.cell off).trans HN4.out.c0
    have n2 := HN4.out.blk.frozen off
    rw [hV'] at n0
    have i0 := HID4.out.cell 0
    simp only [List.getElem?_toArray, List.getElem?_cons_zero] at i0
    have hdf := deletef_net base w.heap.size L.length V id L w4 HN4.out.row rfl (by have := HN4.out.len; omega) i0 (fun e => own_blk_ne HN4.out.row HID4.out (by decide) e)
    unfold goneF at hdf
    rw [hV'] at hdf
    have HDF := Lib.hid hdf; clear hdf
    have HVV := Lib.hid hV'; clear hV'
    have hgl4 := HN4.out.blk.lt
    go_wp2_with fail
    refine HDF.out.mono ?_
    rintro e w5 ⟨V', rfl, _, hrow5, hf5, hown5⟩
    rw [← HVV.out] at hf5 hown5
    have hN6 := net_rowset HN4.out hrow5 hf5 hown5 (fun y hy => (List.mem_filter.1 hy).1) (Nat.le_trans (List.length_filter_le _ _) HN4.out.len)
    obtain ⟨A5, c5, rfl, hc5, _⟩ := own_slice hrow5
    have hkl : (kept id L).length ≤ L.length := List.length_filter_le _ _
    have hll := HN4.out.len
    have hgV : ¬ some g = V.ownBlock := fun e => own_blk_ne HN4.out.row HN4.out.blk (fun e => HN4.out.ne.1 e.symm) e.symm
    have hb5 := hf5.blk HN4.out.blk hgV
    have y0 := hb5.cell off
    have y1 := hb5.frozen off
    rw [HN4.out.c0, HVV.out] at y0
    have hgl5 := hb5.lt
    have hset : Fr (fun k => k = g) w5 (w5.setCell ⟨g, off, none⟩ (.slice A5 (kept id L).length c5)) := Fr.set1 g w5 off _
    have hF6 : Fr (NetB g V (some b)) w4 (w5.setCell ⟨g, off, none⟩ (.slice A5 (kept id L).length c5)) := (hf5.mono (T := NetB g V (some b)) (fun i _ h => .inr (.inl h))).trans' hset (fun i _ h => .inl h)
    have HN6 := Lib.hid hN6; clear hN6
    have HF6 := Lib.hid hF6; clear hF6
    have HOWN := Lib.hid hown5; clear hown5
    clear hb5 hset hgV hrow5 hf5 n0 n2 i0
    go_upto_region 6 with (fail)
    generalize w5.setCell ⟨g, off, none⟩ (.slice A5 (kept id L).length c5) = w6 at *
    have z0 := (HN6.out.blk.cell off).trans HN6.out.c0
    have z2 := (HN6.out.blk.cell (off + 2)).trans HN6.out.c2
    have zf := HN6.out.blk.frozen (off + 2)
    have hgl6 := HN6.out.blk.lt
    have hlo := HN6.out.lo
    have hfr6 := HFR.out.trans' (HFR4.out.trans HF6.out) HNB.out
    have hset := Fr.set1 g w6 (off + 2) (.int .i64 (lost + ((L.length : Int) - (kept id L).length)))
    have hN7 := net_lost HN6.out (lost + ((L.length : Int) - (kept id L).length)) (by omega) (by omega)
    have hfin : DownPost base g off T cs V _ nd L dead lost id w (.returned (.int .i64 ((L.length : Int) - (kept id L).length))) (w6.setCell ⟨g, off + 2, none⟩ (.int .i64 (lost + ((L.length : Int) - (kept id L).length)))).drew :=
      ⟨_, some b, _, rfl, rfl, hN7.fr ((Fr.refl (fun _ => False) _).drew) (fun h => h) (fun _ _ h => h) (fun _ _ h => h) (fun _ _ _ _ _ h => h), (hfr6.trans' hset (fun i _ h => .inl h)).drew, HOWN.out, HDD.out⟩
    have q0 := (hN7.blk.cell off).trans hN7.c0
    have HFIN := Lib.hid hfin; clear hfin hfr6 hset hN7 HN6 HFR HFR4 HF6 HNB HDD HOWN HN4 HID4 HDF
    have hwr1 : IntKind.i64.wrap ((L.length : Int) - (kept id L).length) = (L.length : Int) - (kept id L).length := IntWalk.i64_in _ ⟨by omega, by omega⟩
    have hwr2 : IntKind.i64.wrap (lost + ((L.length : Int) - (kept id L).length)) = lost + ((L.length : Int) - (kept id L).length) := IntWalk.i64_in _ ⟨by omega, by omega⟩
    refine wp_region_still_tail 12 (by kernel_rfl) (by kernel_rfl) ?_
    change wpStill _ _ (World.drew _) _ _ _
    simp only [List.take_succ_cons, List.take_zero, List.drop_succ_cons, List.drop_zero]
    repeat still_step
    clear hwr1 hwr2
    refine wpStill_nil ?_
    change wpList _ _ _ _ _ (World.drew _)
    go_wp2_with fail
    go_ret
    exact HFIN.out
end Go.Proofs.YtnahkpfamocnfaaDoor
