/- Reading a message: the state, its steps; wire.ReadMsg. -/
import Derived.Test.YtnahkpfamocnfaaDoorCmdR
import Derived.Laws.ResultCell
namespace Go.Proofs.YtnahkpfamocnfaaDoor
open Go.RowKit
theorem own_lower {w : World} {b b' e size n : Nat} {v : Value} {xs : List Value} (h : w.ownsRow b e size v n xs) (hb : b' ≤ b) : w.ownsRow b' e size v n xs := by
  refine ⟨h.1, ?_⟩
  rcases h.2 with h | ⟨g, cap, cur, h1, h2, h3⟩
  · exact .inl h
  · exact .inr ⟨g, cap, cur, h1, by omega, h3⟩
def zmsg : Ms := ⟨0, 0, 0, 0, 0, ⟨0, 0, 0, []⟩⟩
structure MgI (T : TypeId) (w : World) (B g5 : Nat) (m : Ms) (A : Option Addr) (n k : Nat) (s : RS) (wr : World) : Prop where
  rdr : ∃ A n c, Rdr T wr B (w.heap.size + 1) A n c s
  b5 : Blk wr g5 26 (msgCells m A n k)
  b2 : Blk wr w.heap.size 26 (msgCells zmsg none 0 0)
  row : wr.ownsRow w.heap.size 123 3 (.slice A n k) n (m.cmd.writes.flatMap prCells)
  wl : m.cmd.writes.length = n
  low : w.heap.size + 2 ≤ g5
  below : Below w.heap.size w wr
theorem newRdr (T : TypeId) {w : World} {B n c : Nat} {A : Option Addr} {b : List Nat} (h : Rd w B 1 A n (b.map bv)) (hB : B ≤ w.heap.size) (hc : n ≤ c) (hb : Bytes b) (o : Obj) :
    Rdr T ((w.alloc o).alloc (.cells #[.slice A n c, .bool false] T)) B (w.heap.size + 1) A n c (b, false) := by
  have e1 : (w.alloc o).heap.size = w.heap.size + 1 := by simp
  refine ⟨?_, ?_, hc, by omega, hb⟩
  · have := Blk.new (w.alloc o) T #[.slice A n c, .bool false]
    rw [e1] at this
    exact this
  · exact h.below ((((Below.refl _ _).alloc (Nat.le_refl _) _).alloc (by simp) _).mono hB)
theorem MgI.start {T : TypeId} {w w5 : World} {B : Nat} {A : Option Addr} {n c : Nat} {s : RS} {cs : Array Value} (m : Ms) (hm : m.cmd = ⟨0, 0, 0, []⟩) (hF : Fr (fun k => k = w.heap.size + 1) ((w.alloc (.cells (msgCells zmsg none 0 0) 26)).alloc (.cells cs T)) w5) (hR : Rdr T w5 B (w.heap.size + 1) A n c s) :
    MgI T w B w5.heap.size m none 0 0 s (w5.alloc (.cells (msgCells m none 0 0) 26)) := by
  have hsz := hF.size
  simp only [World.size_alloc] at hsz
  refine ⟨⟨A, n, c, hR.below ((Below.refl w5.heap.size w5).alloc (Nat.le_refl _) _) (by omega)⟩, Blk.new w5 _ _, (hF.blk ((Blk.new w _ _).alloc _) (by omega)).alloc _, ?_, by rw [hm]; rfl, by omega, ?_⟩
  · rw [hm]; exact World.ownsRow_nil _ _ _ _
  · exact ((((Below.refl _ _).alloc (Nat.le_refl _) _).alloc (by simp) _).trans (hF.below (fun i e => by omega) (by simp; omega))).alloc (by omega) _
theorem MgI.bad {T : TypeId} {w wr : World} {B g5 : Nat} {m : Ms} {A : Option Addr} {n k : Nat} {s : RS} (h : MgI T w B g5 m A n k s wr) (hne : T ≠ 123) (b : Bool) : MgI T w B g5 m A n k (s.1, b) (wr.setCell ⟨w.heap.size + 1, 1, none⟩ (.bool b)) := by
  have hf := Fr.set1 (w.heap.size + 1) wr 1 (.bool b)
  obtain ⟨A1, n1, c1, hr⟩ := h.rdr
  have hlow := h.low
  refine ⟨⟨A1, n1, c1, hr.bad b⟩, hf.blk h.b5 (by omega), hf.blk h.b2 (by omega), hf.own h.row (fun g hg e => ?_), h.wl, h.low, h.below.trans (hf.below (fun i e => by omega) h.below.size)⟩
  subst e
  exact own_blk_ne h.row hr.1 (fun e => hne e.symm) hg
/-- The command laid in. -/
theorem MgI.cmd {T : TypeId} {k : Bool} {w wr w' : World} {B g5 : Nat} {m : Ms} {s : RS} {V : Value} (h : MgI T w B g5 m none 0 0 s wr) (hp : w.heap.size + 1 < wr.heap.size)
    (hrow : w'.ownsRow wr.heap.size 123 3 V (cmdR k s).1.writes.length ((cmdR k s).1.writes.flatMap prCells)) (hr : ∃ A n c, Rdr T w' B (w.heap.size + 1) A n c (cmdR k s).2) (hf : Fr (fun k => k = w.heap.size + 1) wr w') :
    ∃ A n c, V = .slice A n c ∧ MgI T w B g5 ⟨m.kind, m.from_, m.to_, m.epoch, m.n, (cmdR k s).1⟩ A n c (cmdR k s).2
      ((((w'.setCell ⟨g5, 5, none⟩ (.int .i64 (cmdR k s).1.kind)).setCell ⟨g5, 6, none⟩ (.int .i64 (cmdR k s).1.tx)).setCell ⟨g5, 7, none⟩ (.int .i64 (cmdR k s).1.time)).setCell ⟨g5, 8, none⟩ V) := by
  have hlow := h.low
  obtain ⟨A, c, rfl, _, _⟩ := own_slice hrow
  refine ⟨A, _, c, rfl, ?_⟩
  have hb5 := hf.blk h.b5 (by omega)
  have hb2 := hf.blk h.b2 (by omega)
  have hset : Fr (fun k => k = g5) w' ((((w'.setCell ⟨g5, 5, none⟩ (.int .i64 (cmdR k s).1.kind)).setCell ⟨g5, 6, none⟩ (.int .i64 (cmdR k s).1.tx)).setCell ⟨g5, 7, none⟩ (.int .i64 (cmdR k s).1.time)).setCell ⟨g5, 8, none⟩ (.slice A (cmdR k s).1.writes.length c)) :=
    ((((Fr.refl (fun k => k = g5) w').setCell (p := ⟨g5, 5, none⟩) (.inl rfl) _).setCell (p := ⟨g5, 6, none⟩) (.inl rfl) _).setCell (p := ⟨g5, 7, none⟩) (.inl rfl) _).setCell (p := ⟨g5, 8, none⟩) (.inl rfl) _
  obtain ⟨A1, n1, c1, hr⟩ := hr
  have hb0 : Below w.heap.size w w' := h.below.trans (hf.below (fun i e => by omega) h.below.size)
  refine ⟨⟨A1, n1, c1, hr.below (hset.below (B := w.heap.size + 2) (fun i e => by omega) (by have := hf.size; omega)) (by omega)⟩, ?_, hset.blk hb2 (by omega), ?_, rfl, h.low, hb0.trans (hset.below (fun i e => by omega) hb0.size)⟩
  · have := (((hb5.set_ 5 (.int .i64 (cmdR k s).1.kind)).set_ 6 (.int .i64 (cmdR k s).1.tx)).set_ 7 (.int .i64 (cmdR k s).1.time)).set_ 8 (.slice A (cmdR k s).1.writes.length c)
    simpa [msgCells] using this
  · exact own_lower (hset.own hrow (fun g hg e => by subst e; exact own_blk_ne hrow hb5 (by decide) hg)) h.below.size
def fillM (w : World) (g : Nat) (m : Ms) (A : Option Addr) (n k : Nat) : World :=
  ((((((((w.setCell ⟨g, 0, none⟩ (.int .i64 m.kind)).setCell ⟨g, 1, none⟩ (.int .i64 m.from_)).setCell ⟨g, 2, none⟩ (.int .i64 m.to_)).setCell ⟨g, 3, none⟩ (.int .i64 m.epoch)).setCell ⟨g, 4, none⟩ (.int .i64 m.n)).setCell ⟨g, 5, none⟩ (.int .i64 m.cmd.kind)).setCell ⟨g, 6, none⟩ (.int .i64 m.cmd.tx)).setCell ⟨g, 7, none⟩ (.int .i64 m.cmd.time)).setCell ⟨g, 8, none⟩ (.slice A n k)
theorem fillM_fr (w : World) (g : Nat) (m : Ms) (A : Option Addr) (n k : Nat) : Fr (fun i => i = g) w (fillM w g m A n k) :=
  (((((((((Fr.refl (fun i => i = g) w).setCell (p := ⟨g, 0, none⟩) (.inl rfl) _).setCell (p := ⟨g, 1, none⟩) (.inl rfl) _).setCell (p := ⟨g, 2, none⟩) (.inl rfl) _).setCell (p := ⟨g, 3, none⟩) (.inl rfl) _).setCell (p := ⟨g, 4, none⟩) (.inl rfl) _).setCell (p := ⟨g, 5, none⟩) (.inl rfl) _).setCell (p := ⟨g, 6, none⟩) (.inl rfl) _).setCell (p := ⟨g, 7, none⟩) (.inl rfl) _).setCell (p := ⟨g, 8, none⟩) (.inl rfl) _
theorem fillM_blk {w : World} {g : Nat} {m0 : Ms} {A0 : Option Addr} {n0 k0 : Nat} (h : Blk w g 26 (msgCells m0 A0 n0 k0)) (m : Ms) (A : Option Addr) (n k : Nat) : Blk (fillM w g m A n k) g 26 (msgCells m A n k) := by
  have := ((((((((h.set_ 0 (.int .i64 m.kind)).set_ 1 (.int .i64 m.from_)).set_ 2 (.int .i64 m.to_)).set_ 3 (.int .i64 m.epoch)).set_ 4 (.int .i64 m.n)).set_ 5 (.int .i64 m.cmd.kind)).set_ 6 (.int .i64 m.cmd.tx)).set_ 7 (.int .i64 m.cmd.time)).set_ 8 (.slice A n k)
  unfold fillM
  simpa [msgCells] using this
def RMPost (E : Int → Value) (o : Option Ms) (w : World) (e : Ending) (w' : World) : Prop :=
  ∃ A n k, e = .returned (.tuple #[msgV (o.getD zmsg) A n k, E (if o.isSome then 0 else 3)]) ∧ ReadsP w' w'.heap.size A n (o.getD zmsg).cmd.writes ∧ Below w.heap.size w w'
theorem MgI.good {T : TypeId} {w wr : World} {B g5 : Nat} {m : Ms} {A : Option Addr} {n k : Nat} {s : RS} {E : Int → Value} (h : MgI T w B g5 m A n k s wr) : RMPost E (some m) w (.returned (.tuple #[msgV m A n k, E 0])) (fillM wr w.heap.size m A n k) := by
  have hf := fillM_fr wr w.heap.size m A n k
  have hrow := hf.own h.row (fun g hg e => by subst e; exact own_blk_ne h.row h.b2 (by decide) hg)
  exact ⟨A, n, k, rfl, ⟨h.wl, Rd.of_own hrow⟩, h.below.trans (hf.below (fun i e => by omega) h.below.size)⟩
theorem MgI.fail {T : TypeId} {w wr : World} {B g5 : Nat} {m : Ms} {A : Option Addr} {n k : Nat} {s : RS} {E : Int → Value} (h : MgI T w B g5 m A n k s wr) : RMPost E none w (.returned (.tuple #[msgV zmsg none 0 0, E 3])) (fillM wr w.heap.size zmsg none 0 0) := by
  have hf := fillM_fr wr w.heap.size zmsg none 0 0
  exact ⟨none, 0, 0, rfl, ⟨rfl, Rd.none_ _ _ _ _⟩, h.below.trans (hf.below (fun i e => by omega) h.below.size)⟩
theorem msg_size : (Tryd.prog.info? 26).map (·.size) = some 9 := by kernel_rfl
theorem ret_msg {fn : Func} {p u : Tmp} (h : fn.results = #[.cell p 26, .tmp u]) (tmps : Array Value) (w : World) (g : Nat) (m : Ms) (A : Option Addr) (n k : Nat) (hp : tmps.getD p undef = .pointer (some ⟨g, 0, none⟩)) (hb : Blk w g 26 (msgCells m A n k)) :
    (results fn tmps).run Tryd.prog w = .ok (.tuple #[msgV m A n k, tmps.getD u undef]) w := by
  rw [results_cell_tmp h, hp]
  simp only [asAddr, Sem.run_pure, Result.andThen]
  rw [run_loadVar_row w g 26 26 (msgCells m A n k) (0, 0) _ hb Tryd.underlying26 rfl msg_size]
  rfl
theorem errno_any (k : Int) : errV k = if k = 0 then .nilIface else .iface 29 (.int .i64 k) := rfl
/- What is written is bytes. -/
theorem numS_bytes {st : St} (h : Bytes st.1) (n : Int) : Bytes (numS st n).1 := by
  unfold numS
  split
  · exact fun x hx => (List.mem_append.1 hx).elim (h x) (enc_bytes 0 x)
  · exact fun x hx => (List.mem_append.1 hx).elim (h x) (enc_bytes _ x)
theorem textS_bytes {st : St} (h : Bytes st.1) (s : ByteArray) (m : Int) : Bytes (textS st s m).1 := by
  unfold textS addS
  have h1 : Bytes (numS (limS st (decide (m < s.size))) s.size).1 := numS_bytes (st := limS st (decide (m < s.size))) h _
  exact fun x hx => (List.mem_append.1 hx).elim (h1 x) (strB_bytes s x)
theorem pairS_bytes {st : St} (h : Bytes st.1) (p : Pr) : Bytes (pairS st p).1 := by
  unfold pairS
  split
  · exact numS_bytes (textS_bytes h _ _) _
  · exact textS_bytes (numS_bytes (textS_bytes h _ _) _) _ _
theorem pairs_bytes : ∀ (l : List Pr) (st : St), Bytes st.1 → Bytes (l.foldl pairS st).1
  | [], st, h => h
  | p :: l, st, h => pairs_bytes l _ (pairS_bytes h p)
theorem cmdS_bytes {st : St} (h : Bytes st.1) (c : Cm) : Bytes (cmdS st c).1 := by
  unfold cmdS headS
  refine pairs_bytes _ _ (numS_bytes (numS_bytes (numS_bytes (numS_bytes ?_ _) _) _) _)
  exact h
theorem cmds_bytes : ∀ (l : List Cm) (st : St), Bytes st.1 → Bytes (l.foldl cmdS st).1
  | [], st, h => h
  | p :: l, st, h => cmds_bytes l _ (cmdS_bytes h p)
theorem Bytes.nil : Bytes [] := fun x hx => by cases hx
theorem outS_bytes {st : St} (h : Bytes st.1) : Bytes (outS st).1 := by
  unfold outS
  split
  · exact Bytes.nil
  · exact h
theorem msgOut_bytes (m : Ms) : Bytes (msgOut m).1 := by
  unfold msgOut
  split
  · exact Bytes.nil
  · refine outS_bytes ?_
    have h5 : Bytes (numS (numS (numS (numS (numS ([], 0) m.kind) m.from_) m.to_) m.epoch) m.n).1 := numS_bytes (numS_bytes (numS_bytes (numS_bytes (numS_bytes Bytes.nil _) _) _) _) _
    unfold msgS
    split
    · exact cmdS_bytes h5 _
    · exact h5
theorem logOut_bytes (l : List Cm) : Bytes (logOut l).1 := by
  refine outS_bytes ?_
  exact cmds_bytes l _ (numS_bytes Bytes.nil _)
theorem strOf_inj {a b : List Nat} (ha : Bytes a) (hb : Bytes b) : strOf a = strOf b ↔ a = b :=
  ⟨fun h => by have := congrArg strB h; rwa [strB_strOf ha, strB_strOf hb] at this, fun h => by rw [h]⟩
theorem strOf_list_inj {a b : List Nat} (ha : Bytes a) (hb : Bytes b) : ((strOf a).toList == (strOf b).toList) = decide (a = b) := by
  by_cases h : a = b
  · subst h; simp
  · rw [decide_eq_false h, beq_eq_false_iff_ne]
    intro e
    rw [strOf_toList, strOf_toList] at e
    exact h ((strOf_inj ha hb).1 (congrArg (fun l : List UInt8 => (⟨l.toArray⟩ : ByteArray)) e))
end Go.Proofs.YtnahkpfamocnfaaDoor
