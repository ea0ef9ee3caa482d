/- net.Take, Lose, Twice, Many. -/
import Derived.Test.YtnahkpfamocnfaaDoorNet2
import Derived.Deep.DeepCutAuto
namespace Go.Proofs.YtnahkpfamocnfaaDoor
open Go.RowKit
def mrV (x : MsR) : Value := msgV x.m x.A x.n x.k
def zmr : MsR := ⟨⟨0, 0, 0, 0, 0, ⟨0, 0, 0, []⟩⟩, none, 0, 0⟩
theorem msg_size' : (Tryd.prog.info? 26).map (·.size) = some 9 := by kernel_rfl
theorem ret_mr {fn : Func} {p u : Tmp} (h : fn.results = #[.cell p 26, .tmp u]) (tmps : Array Value) (w : World) (g : Nat) (x : MsR) (hp : tmps.getD p undef = .pointer (some ⟨g, 0, none⟩)) (hb : Blk w g 26 (msgCells x.m x.A x.n x.k)) :
    (results fn tmps).run Tryd.prog w = .ok (.tuple #[mrV x, tmps.getD u undef]) w := by
  rw [results_cell_tmp h, hp]
  simp only [asAddr, Sem.run_pure, Result.andThen]
  rw [run_loadVar_row w g 26 26 (msgCells x.m x.A x.n x.k) (0, 0) _ hb Tryd.underlying26 rfl msg_size']
  rfl
def rangeE : Value := .iface 29 (.int .i64 2)
def TakeNo (w : World) (e : Ending) (w' : World) : Prop := e = .returned (.tuple #[mrV zmr, rangeE]) ∧ Below w.heap.size w w'
set_option maxRecDepth 100000 in
set_option maxHeartbeats 1000000 in
theorem take_no (base g off nd : Nat) (T : TypeId) (cs : Array Value) (V : Value) (D : Option Nat) (L : List MsR) (dead : Int → Bool) (lost k : Int) (w : World)
    (hI : NetI w base g off T cs V D nd L dead lost) (hk : k < 0 ∨ (L.length : Int) ≤ k) : Calls Tryd.prog 27 #[.pointer (some ⟨g, off, none⟩), .int .i64 k] w (TakeNo w) := by
  obtain ⟨A', c', hV', hc', hA'⟩ := own_slice hI.row
  have hfr : Fr (fun _ => False) w (w.alloc (.cells (msgCells zmr.m none 0 0) 26)) := (Fr.refl _ _).alloc _
  have hb := hfr.blk hI.blk (fun h => h)
  have c0 := (hb.cell off).trans hI.c0
  rw [hV'] at c0
  have hB : Blk (w.alloc (.cells (msgCells zmr.m none 0 0) 26)) w.heap.size 26 (msgCells zmr.m none 0 0) := Blk.new w _ _
  have HB := Lib.hid hB; clear hB
  have hbl : Below w.heap.size w (w.alloc (.cells (msgCells zmr.m none 0 0) 26)) := (Below.refl _ _).alloc (Nat.le_refl _) _
  have HBL := Lib.hid hbl; clear hbl hb hfr hI
  unfold msgCells zmr at *
  by_cases h0 : k < 0
  · clear hk
    go_enter Tryd.func27, Tryd.ntmps27
    go_wp2_with fail
    refine bodyPost_ret (ret_mr rfl _ _ w.heap.size zmr rfl ?_) rfl ?_
    · exact HB.out
    · exact ⟨rfl, HBL.out⟩
  · have h1 : (L.length : Int) ≤ k := by omega
    clear hk
    go_enter Tryd.func27, Tryd.ntmps27
    go_wp2_with fail
    refine bodyPost_ret (ret_mr rfl _ _ w.heap.size zmr rfl ?_) rfl ?_
    · exact HB.out
    · exact ⟨rfl, HBL.out⟩
theorem flat9_len (l : List MsR) : (l.flatMap mrCells).length = l.length * 9 := by
  induction l with
  | nil => simp
  | cons x r ih => rw [List.flatMap_cons, List.length_append, ih, mrCells_len, List.length_cons]; omega
theorem flat9_take : ∀ (l : List MsR) (k : Nat), (l.flatMap mrCells).take (k * 9) = (l.take k).flatMap mrCells
  | [], k => by simp
  | x :: l, 0 => by simp
  | x :: l, k + 1 => by
    have e : (k + 1) * 9 = 9 + k * 9 := by omega
    rw [List.flatMap_cons, List.take_succ_cons, List.flatMap_cons, e, ← flat9_take l k]
    rw [List.take_append, mrCells_len, Nat.add_sub_cancel_left, List.take_of_length_le (by rw [mrCells_len]; omega)]
theorem flat9_drop : ∀ (l : List MsR) (k : Nat), (l.flatMap mrCells).drop (k * 9) = (l.drop k).flatMap mrCells
  | [], k => by simp
  | x :: l, 0 => by simp
  | x :: l, k + 1 => by
    have e : (k + 1) * 9 = 9 + k * 9 := by omega
    rw [List.flatMap_cons, List.drop_succ_cons, e, ← flat9_drop l k]
    rw [List.drop_append, mrCells_len, Nat.add_sub_cancel_left, List.drop_of_length_le (by rw [mrCells_len]; omega), List.nil_append]
theorem flat9_erase (l : List MsR) (k : Nat) : (l.flatMap mrCells).take (k * 9) ++ (l.flatMap mrCells).drop ((k + 1) * 9) = (l.eraseIdx k).flatMap mrCells := by
  rw [flat9_take, flat9_drop, ← List.flatMap_append, List.eraseIdx_eq_take_drop_succ]
def fill9 (w : World) (g : Nat) (x : MsR) : World :=
  ((((((((w.setCell ⟨g, 0, none⟩ (.int .i64 x.m.kind)).setCell ⟨g, 1, none⟩ (.int .i64 x.m.from_)).setCell ⟨g, 2, none⟩ (.int .i64 x.m.to_)).setCell ⟨g, 3, none⟩ (.int .i64 x.m.epoch)).setCell ⟨g, 4, none⟩ (.int .i64 x.m.n)).setCell ⟨g, 5, none⟩ (.int .i64 x.m.cmd.kind)).setCell ⟨g, 6, none⟩ (.int .i64 x.m.cmd.tx)).setCell ⟨g, 7, none⟩ (.int .i64 x.m.cmd.time)).setCell ⟨g, 8, none⟩ (.slice x.A x.n x.k)
theorem fill9_fr (w : World) (g : Nat) (x : MsR) : Fr (fun i => i = g) w (fill9 w g x) :=
  (((((((((Fr.refl (fun i => i = g) w).setCell (p := ⟨g, 0, none⟩) (.inl rfl) _).setCell (p := ⟨g, 1, none⟩) (.inl rfl) _).setCell (p := ⟨g, 2, none⟩) (.inl rfl) _).setCell (p := ⟨g, 3, none⟩) (.inl rfl) _).setCell (p := ⟨g, 4, none⟩) (.inl rfl) _).setCell (p := ⟨g, 5, none⟩) (.inl rfl) _).setCell (p := ⟨g, 6, none⟩) (.inl rfl) _).setCell (p := ⟨g, 7, none⟩) (.inl rfl) _).setCell (p := ⟨g, 8, none⟩) (.inl rfl) _
theorem fill9_blk {w : World} {g : Nat} {x0 : MsR} (h : Blk w g 26 (msgCells x0.m x0.A x0.n x0.k)) (x : MsR) : Blk (fill9 w g x) g 26 (msgCells x.m x.A x.n x.k) := by
  have := ((((((((h.set_ 0 (.int .i64 x.m.kind)).set_ 1 (.int .i64 x.m.from_)).set_ 2 (.int .i64 x.m.to_)).set_ 3 (.int .i64 x.m.epoch)).set_ 4 (.int .i64 x.m.n)).set_ 5 (.int .i64 x.m.cmd.kind)).set_ 6 (.int .i64 x.m.cmd.tx)).set_ 7 (.int .i64 x.m.cmd.time)).set_ 8 (.slice x.A x.n x.k)
  unfold fill9
  simpa [msgCells] using this
def TakeYes (base g off nd : Nat) (T : TypeId) (cs : Array Value) (V : Value) (D : Option Nat) (L : List MsR) (dead : Int → Bool) (lost : Int) (k : Nat) (w : World) (e : Ending) (w' : World) : Prop :=
  ∃ V' x, L[k]? = some x ∧ e = .returned (.tuple #[mrV x, .nilIface]) ∧ NetI w' base g off T (cs.setIfInBounds off V') V' D nd (L.eraseIdx k) dead lost ∧ OwnW w' base x ∧ Fr (NetB g V D) w w' ∧ V'.ownBlock = V.ownBlock
/-- The row cut, the net's cell set. -/
theorem net_cut {w w2 w3 : World} {base g off nd : Nat} {T : TypeId} {cs : Array Value} {V : Value} {D : Option Nat} {L : List MsR} {dead : Int → Bool} {lost : Int} {k gv cap : Nat} {x : MsR}
    (hI : NetI w base g off T cs V D nd L dead lost) (hV : V = .slice (some ⟨gv, 0, none⟩) L.length cap) (hx : L[k]? = some x) (hf : Fr (fun k => w.heap.size ≤ k) w w2)
    (hrow : w3.ownsRow base 26 9 (.slice (some ⟨gv, 0, none⟩) (L.length - 1) cap) (L.length - 1) ((L.eraseIdx k).flatMap mrCells)) (hf3 : Fr (fun k => k = gv) w2 w3) :
    NetI (w3.setCell ⟨g, off, none⟩ (.slice (some ⟨gv, 0, none⟩) (L.length - 1) cap)) base g off T (cs.setIfInBounds off (.slice (some ⟨gv, 0, none⟩) (L.length - 1) cap)) (.slice (some ⟨gv, 0, none⟩) (L.length - 1) cap) D nd (L.eraseIdx k) dead lost ∧
      OwnW (w3.setCell ⟨g, off, none⟩ (.slice (some ⟨gv, 0, none⟩) (L.length - 1) cap)) base x ∧ Fr (NetB g V D) w (w3.setCell ⟨g, off, none⟩ (.slice (some ⟨gv, 0, none⟩) (L.length - 1) cap)) ∧ Blk w3 g T cs := by
  have hk : k < L.length := (List.getElem?_eq_some_iff.1 hx).1
  have hVo : V.ownBlock = some gv := by rw [hV]; rfl
  have hlt := hI.vlt hVo
  have hI2 : NetI w2 base g off T cs V D nd L dead lost := hI.fr hf (fun h => by have := hI.blk.lt; omega) (fun b hb h => by have := hI.vlt hb; omega) (fun b hb h => by have := hI.down; rw [hb] at this; have := this.lt; omega) (fun b t cs hb _ h => by have := hb.lt; omega)
  have hgV : ¬ g = gv := fun e => own_blk_ne hI2.row hI2.blk (fun e => hI.ne.1 e.symm) (by rw [hVo, e])
  have hb3 : Blk w3 g T cs := hf3.blk hI2.blk hgV
  have hset : Fr (fun k => k = g) w3 (w3.setCell ⟨g, off, none⟩ (.slice (some ⟨gv, 0, none⟩) (L.length - 1) cap)) := Fr.set1 g w3 off _
  have hown : ∀ y ∈ L, OwnW (w3.setCell ⟨g, off, none⟩ (.slice (some ⟨gv, 0, none⟩) (L.length - 1) cap)) base y := fun y hy => by
    have h2 := hI2.own y hy
    have h3 := hf3.own h2.1 (fun b hb e => by subst e; exact own_apart hI2.row h2.1 (by decide) hVo hb)
    exact ⟨hset.own h3 (fun b hb e => by subst e; exact own_blk_ne h3 hb3 (fun e => hI.ne.2 e.symm) hb), h2.2⟩
  have hoff : off < cs.size := by
    rcases Nat.lt_or_ge off cs.size with h | h
    · exact h
    · have := hI.c0; rw [Array.getElem?_eq_none h] at this; cases this
  have hel : (L.eraseIdx k).length = L.length - 1 := by rw [List.length_eraseIdx_of_lt hk]
  refine ⟨⟨hb3.set_ _ _, by simp [hoff], ?_, ?_, ?_, fun y hy => hown y (List.mem_of_mem_eraseIdx hy), ?_, by rw [hel]; have := hI.len; omega, hI.lo, hI.hi, hI.ne, ?_⟩, hown x (List.mem_of_getElem? hx), ?_, hb3⟩
  · rw [Array.getElem?_setIfInBounds_ne (by omega)]; exact hI.c1
  · rw [Array.getElem?_setIfInBounds_ne (by omega)]; exact hI.c2
  · rw [hel]
    exact hset.own hrow (fun b hb e => by subst e; exact own_blk_ne hrow hb3 (fun e => hI.ne.1 e.symm) hb)
  · refine (hI2.down.fr hf3 (fun b hb e => ?_)).fr hset (fun b hb e => ?_)
    · subst e; exact hI2.down.notOwn hI2.row hb hVo
    · subst e; exact hI2.down.notBlk hI2.blk hb
  · exact Nat.le_trans hI2.bg (Nat.le_trans hf3.size hset.size)
  · refine (hf.mono (T := NetB g V D) (fun i hi (h : w.heap.size ≤ i) => absurd hi (by omega))).trans' ((hf3.mono (T := fun k => k = gv ∨ k = g) (fun i _ h => .inl h)).trans' hset (fun i _ h => .inr h)) (fun i hi h => ?_)
    rcases h with rfl | rfl
    · exact .inr (.inl hVo.symm)
    · exact .inl rfl
theorem own_at {w : World} {base e size n : Nat} {v : Value} {xs : List Value} (h : w.ownsRow base e size v n xs) (hn : 0 < n) : ∃ g cap, v = .slice (some ⟨g, 0, none⟩) n cap ∧ base ≤ g ∧ g < w.heap.size := by
  obtain ⟨g, cap, hv, hb, hlt⟩ := h.form hn
  exact ⟨g, cap, hv, hb, hlt⟩
set_option maxRecDepth 100000 in
set_option maxHeartbeats 2000000 in
theorem take_yes (base g off nd : Nat) (T : TypeId) (cs : Array Value) (V : Value) (D : Option Nat) (L : List MsR) (dead : Int → Bool) (lost : Int) (k : Nat) (w : World)
    (hI : NetI w base g off T cs V D nd L dead lost) (hk : k < L.length) : Calls Tryd.prog 27 #[.pointer (some ⟨g, off, none⟩), .int .i64 k] w (TakeYes base g off nd T cs V D L dead lost k w) := by
  obtain ⟨gv, cap, hV, hbv, hlv⟩ := own_at hI.row (by omega)
  have hrd := Rd.of_own (by rw [← hV]; exact hI.row : w.ownsRow base 26 9 (.slice (some ⟨gv, 0, none⟩) L.length cap) L.length (L.flatMap mrCells))
  obtain ⟨g', o', x, hA, _, hx, h0, h1, h2, h3, h4, h5, h6, h7, h8⟩ := hrd.cells9 rfl hk
  simp only [Option.some.injEq, Addr.mk.injEq, and_true] at hA
  obtain ⟨rfl, rfl⟩ := hA
  rw [Nat.zero_add] at h0 h1 h2 h3 h4 h5 h6 h7 h8
  have c0 := (hI.blk.cell off).trans hI.c0
  rw [hV] at c0
  have hlen := hI.len
  have hgl := hI.blk.lt
  have HI := Lib.hid hI; clear hI
  have HV := Lib.hid hV; clear hV hrd
  have HX := Lib.hid hx; clear hx
  have hkl : (k : Int) < L.length := by omega
  have hk0 : ¬ (k : Int) < 0 := by omega
  have hkge : ¬ (L.length : Int) ≤ k := by omega
  go_enter Tryd.func27, Tryd.ntmps27
  go_wp2_with fail
  have hw2 : Fr (fun k => w.heap.size ≤ k) w ((w.alloc (.cells (msgCells zmr.m none 0 0) 26)).alloc (.cells (msgCells x.m x.A x.n x.k) 26)) := ((Fr.refl _ _).alloc _).alloc _
  have hba : Blk ((w.alloc (.cells (msgCells zmr.m none 0 0) 26)).alloc (.cells (msgCells x.m x.A x.n x.k) 26)) w.heap.size 26 (msgCells zmr.m none 0 0) := (Blk.new w _ _).alloc _
  have hbb : Blk ((w.alloc (.cells (msgCells zmr.m none 0 0) 26)).alloc (.cells (msgCells x.m x.A x.n x.k) 26)) (w.heap.size + 1) 26 (msgCells x.m x.A x.n x.k) := by
    have := Blk.new (w.alloc (.cells (msgCells zmr.m none 0 0) 26)) 26 (msgCells x.m x.A x.n x.k)
    simpa using this
  have hrow2 := hw2.own HI.out.row (fun b hb (h : w.heap.size ≤ b) => by have := HI.out.vlt hb; omega)
  rw [HV.out] at hrow2
  unfold msgCells zmr at hw2 hba hbb hrow2
  generalize ((w.alloc _).alloc _) = w2 at *
  refine (delete_any base gv L.length cap k _ w2 hrow2 hk (by omega) (mrs_one L)).mono ?_
  rintro e w3 ⟨rfl, hrow3, hf3⟩
  rw [flat9_erase] at hrow3
  obtain ⟨hN, hO, hF, hb3⟩ := net_cut HI.out HV.out HX.out hw2 hrow3 hf3
  have z0 := hb3.cell off
  have z1 := hb3.frozen off
  rw [HI.out.c0, HV.out] at z0
  have hgw : ¬ g = w.heap.size := by omega
  have hset : Fr (fun k => k = g) w3 (w3.setCell ⟨g, off, none⟩ (.slice (some ⟨gv, 0, none⟩) (L.length - 1) cap)) := Fr.set1 g w3 off _
  have ha4 := hset.blk (hf3.blk hba (fun h : w.heap.size = gv => by omega)) (fun h : w.heap.size = g => by omega)
  have hb4 := hset.blk (hf3.blk hbb (fun h : w.heap.size + 1 = gv => by omega)) (fun h : w.heap.size + 1 = g => by omega)
  have hz3 := hb3.lt
  have HN := Lib.hid hN; clear hN
  have HO := Lib.hid hO; clear hO
  have HF := Lib.hid hF; clear hF
  clear hset hb3 hrow3 hf3 hrow2 hw2 hba hbb h0 h1 h2 h3 h4 h5 h6 h7 h8 c0
  go_upto_region 5 with (fail)
  generalize w3.setCell ⟨g, off, none⟩ (.slice (some ⟨gv, 0, none⟩) (L.length - 1) cap) = w4 at *
  have a0 := ha4.cell 0
  have a1 := ha4.cell 1
  have a2 := ha4.cell 2
  have a3 := ha4.cell 3
  have a4 := ha4.cell 4
  have a5 := ha4.cell 5
  have a6 := ha4.cell 6
  have a7 := ha4.cell 7
  have a8 := ha4.cell 8
  have f0 := ha4.frozen 0
  have f1 := ha4.frozen 1
  have f2 := ha4.frozen 2
  have f3 := ha4.frozen 3
  have f4 := ha4.frozen 4
  have f5 := ha4.frozen 5
  have f6 := ha4.frozen 6
  have f7 := ha4.frozen 7
  have f8 := ha4.frozen 8
  have b0 := hb4.cell 0
  have b1 := hb4.cell 1
  have b2 := hb4.cell 2
  have b3 := hb4.cell 3
  have b4 := hb4.cell 4
  have b5 := hb4.cell 5
  have b6 := hb4.cell 6
  have b7 := hb4.cell 7
  have b8 := hb4.cell 8
  simp only [List.getElem?_toArray, List.getElem?_cons_succ, List.getElem?_cons_zero] at a0 a1 a2 a3 a4 a5 a6 a7 a8 b0 b1 b2 b3 b4 b5 b6 b7 b8
  have HA4 := Lib.hid ha4; clear ha4
  go_wp2_with fail
  have hfill := fill9_fr w4 w.heap.size x
  refine bodyPost_ret (ret_mr rfl _ _ w.heap.size x rfl (fill9_blk (x0 := zmr) HA4.out x)) rfl ⟨_, x, HX.out, rfl, HN.out.fr hfill (fun h => hgw h) (fun b hb h => ?_) (fun b hb h => ?_) (fun b t cs hb ht h => ?_), ⟨hfill.own HO.out.1 (fun b hb h => ?_), HO.out.2⟩, HF.out.trans' hfill (fun i hi (h : i = w.heap.size) => absurd hi (by omega)), by rw [HV.out]; rfl⟩
  · have e : gv = b := by simpa [Value.ownBlock] using hb
    have h' : b = w.heap.size := h
    omega
  · have h' : b = w.heap.size := h
    have := HI.out.down; rw [hb] at this; have := this.lt; omega
  · have h' : b = w.heap.size := h
    subst h'
    exact absurd rfl (Blk.ne_ HA4.out hb (by rw [ht]; decide))
  · have h' : b = w.heap.size := h
    subst h'
    exact own_blk_ne HO.out.1 HA4.out (by decide) hb
end Go.Proofs.YtnahkpfamocnfaaDoor
