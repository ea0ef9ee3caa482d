/- chainmailkeep.CheckFits: what holds in memory while it runs. -/
import Derived.Test.YtnahkpfamocnfaaCheckFits
namespace Go.Proofs.Ytnahkpfamocnfaa
open Go.RowKit
theorem tx_info : (Try.prog.info? 32).map (fun i => (i.zero, i.size, i.bytes)) = some (some (.agg #[.slice none 0 0, .int .i64 0, .int .i64 0]), 3, 40) := by kernel_rfl
theorem rtx_info : (Try.prog.info? 35).map (fun i => (i.zero, i.size, i.bytes)) = some (some (.agg #[.slice none 0 0, .int .i64 0, .int .i64 0]), 3, 40) := by kernel_rfl
theorem op_info : (Try.prog.info? 38).map (fun i => (i.zero, i.size, i.bytes)) = some (some (.agg #[.int .i64 0, .string ⟨#[]⟩, .string ⟨#[]⟩, .bool false]), 4, 48) := by kernel_rfl
theorem rop_info : (Try.prog.info? 40).map (fun i => (i.zero, i.size, i.bytes)) = some (some (.agg #[.int .i64 0, .string ⟨#[]⟩, .string ⟨#[]⟩, .bool false]), 4, 48) := by kernel_rfl
theorem own_some {w : World} {base e size n g : Nat} {v : Value} {xs : List Value} (h : w.ownsRow base e size v n xs) (hg : v.ownBlock = some g) : ∃ c, v = .slice (some ⟨g, 0, none⟩) n c := by
  rcases h.2 with ⟨rfl, _⟩ | ⟨g', cap, cur, rfl, _⟩
  · simp [Value.ownBlock] at hg
  · have : g' = g := by simpa [Value.ownBlock] using hg
    subst this
    exact ⟨_, rfl⟩
theorem own_own_ne {w : World} {base base' e e' size size' n n' : Nat} {v v' : Value} {xs xs' : List Value} (h : w.ownsRow base e size v n xs) (h' : w.ownsRow base' e' size' v' n' xs') (hne : e ≠ e') {g : Nat} (hg : v.ownBlock = some g) : v'.ownBlock ≠ some g := by
  intro hg'
  rcases h.2 with ⟨rfl, _⟩ | ⟨g1, cap, cur, rfl, _, hh, _⟩
  · simp [Value.ownBlock] at hg
  · rcases h'.2 with ⟨rfl, _⟩ | ⟨g2, cap', cur', rfl, _, hh', _⟩
    · simp [Value.ownBlock] at hg'
    · have e1 : g1 = g := by simpa [Value.ownBlock] using hg
      have e2 : g2 = g := by simpa [Value.ownBlock] using hg'
      subst e1
      subst e2
      rw [hh] at hh'
      injection hh' with hh'
      injection hh' with _ ht
      exact hne ht
theorem set_append_left' {α : Type} (a b : List α) (i : Nat) (u : α) (h : i < a.length) : (a ++ b).set i u = a.set i u ++ b := List.set_append_left _ _ h
theorem flat_set {α : Type} (size : Nat) (e1 : α → List Value) (hsz : ∀ x, (e1 x).length = size) (i : Nat) (u : Value) (hi : i < size) : ∀ (X : List α) (j : Nat) (x y : α), X[j]? = some x → (e1 x).set i u = e1 y → (X.flatMap e1).set (j * size + i) u = (X.set j y).flatMap e1
  | [], j, x, y, h, _ => by simp at h
  | z :: X, 0, x, y, h, hy => by
    simp at h
    subst h
    rw [List.flatMap_cons, Nat.zero_mul, Nat.zero_add, List.set_append_left _ _ (by rw [hsz]; exact hi), hy]
    simp
  | z :: X, j + 1, x, y, h, hy => by
    have h' : X[j]? = some x := by simpa using h
    have ih := flat_set size e1 hsz i u hi X j x y h' hy
    have e : (j + 1) * size + i = (e1 z).length + (j * size + i) := by rw [hsz, Nat.succ_mul]; omega
    rw [List.flatMap_cons, e, List.set_append_right _ _ (by omega)]
    have e2 : (e1 z).length + (j * size + i) - (e1 z).length = j * size + i := by omega
    rw [e2, ih]
    simp
def accJ (L0 : List TxR) (made : Bool) (j : Nat) : List TxP × Mp := ((tsOf L0).take j).foldl (transL made) ([], Mp.empty)
theorem accJ_len (L0 : List TxR) (made : Bool) (j : Nat) (h : j ≤ L0.length) : (accJ L0 made j).1.length = j := by
  unfold accJ
  rw [transL_len, List.length_take, tsOf_len]
  simp; omega
theorem accJ_step {L0 : List TxR} {made : Bool} {j : Nat} {x : TxR} (h : L0[j]? = some x) : accJ L0 made (j + 1) = ((accJ L0 made j).1 ++ [(transT made j (accJ L0 made j).2 x.t).1], (transT made j (accJ L0 made j).2 x.t).2) := by
  have hl : (tsOf L0)[j]? = some x.t := by unfold tsOf; rw [List.getElem?_map, h]; rfl
  have hj : j < L0.length := (List.getElem?_eq_some_iff.1 h).1
  have h1 := foldl_take' (transL made) (tsOf L0) ([], Mp.empty) j x.t hl
  have h2 := accJ_len L0 made j (by omega)
  have h3 : accJ L0 made (j + 1) = transL made (accJ L0 made j) x.t := h1
  rw [h3]
  show ((accJ L0 made j).1 ++ [(transT made (accJ L0 made j).1.length (accJ L0 made j).2 x.t).1], (transT made (accJ L0 made j).1.length (accJ L0 made j).2 x.t).2) = _
  rw [h2]
where
  foldl_take' {α β : Type} (f : β → α → β) (l : List α) (b : β) (j : Nat) (x : α) (h : l[j]? = some x) : (l.take (j + 1)).foldl f b = f ((l.take j).foldl f b) x := by
    rw [List.take_add_one, h]; simp
theorem foldl_take {α β : Type} (f : β → α → β) (l : List α) (b : β) (j : Nat) (x : α) (h : l[j]? = some x) : (l.take (j + 1)).foldl f b = f ((l.take j).foldl f b) x := by
  rw [List.take_add_one, h]; simp
/-- At the head of the outer loop. -/
structure OutI (w wr : World) (L0 : List TxR) (made : Bool) (n cx gx gm j : Nat) (X W : List TxR) (v5 : Value) : Prop where
  rowX : wr.ownsRow w.heap.size 32 3 (.slice (some ⟨gx, 0, none⟩) n cx) n (X.flatMap txCells)
  lenX : X.length = n
  dropX : X.drop j = L0.drop j
  tsX : tsOf (X.take j) = (accJ L0 made j).1
  ownX : ∀ y ∈ X.take j, wr.ownsRow w.heap.size 38 4 (.slice y.A y.n y.c) y.n (y.t.ops.flatMap opCells)
  rowW : wr.ownsRow w.heap.size 35 3 v5 j (W.flatMap txCells)
  tsW : tsOf W = (accJ L0 made j).1
  ownW : ∀ y ∈ W, wr.ownsRow w.heap.size 40 4 (.slice y.A y.n y.c) y.n (y.t.ops.flatMap opCells)
  map : MapV wr gm (100 * j) (accJ L0 made j).2
  few : ∀ x ∈ L0.take j, x.n ≤ 12
  gm : w.heap.size ≤ gm
  below : Below w.heap.size w wr
def OutRel (w : World) (L0 : List TxR) (made : Bool) (n cx gx gm : Nat) (v5 v8 : Value) (wr : World) : Prop :=
  ∃ (j : Nat) (X W : List TxR), v8 = .int .i64 j ∧ j ≤ n ∧ OutI w wr L0 made n cx gx gm j X W v5
/-- Before the inner loop. -/
structure MidI (w wo wx : World) (X : List TxR) (x : TxR) (n cx gx j : Nat) (AO : Option Addr) (cO : Nat) (ff tt : Int) : Prop where
  rowX : wx.ownsRow w.heap.size 32 3 (.slice (some ⟨gx, 0, none⟩) n cx) n ((X.set j ⟨⟨[], ff, tt⟩, AO, x.n, cO⟩).flatMap txCells)
  rowO : wx.ownsRow w.heap.size 38 4 (.slice AO x.n cO) x.n (x.t.ops.flatMap opCells)
  boxT : Blk wx wo.heap.size 35 #[.slice none 0 0, .int .i64 ff, .int .i64 tt]
  fr : Fr (fun k => k = gx) wo wx
  new : ∀ g, (Value.slice AO x.n cO).ownBlock = some g → wo.heap.size ≤ g
def accK (made : Bool) (m0 : Mp) (x : TxR) (k : Nat) : List OpP × Mp := (x.t.ops.take k).foldl (transS made) ([], m0)
theorem accK_len (made : Bool) (m0 : Mp) (x : TxR) (k : Nat) (h : k ≤ x.t.ops.length) : (accK made m0 x k).1.length = k := by
  unfold accK
  rw [transS_len, List.length_take]
  simp; omega
/-- At the head of the inner loop. -/
structure InI (w wo wr : World) (made : Bool) (m0 : Mp) (X : List TxR) (x : TxR) (n cx gx gm j : Nat) (AO : Option Addr) (cO : Nat) (ff tt : Int) (k : Nat) (tv : Value) : Prop where
  rowX : wr.ownsRow w.heap.size 32 3 (.slice (some ⟨gx, 0, none⟩) n cx) n ((X.set j ⟨⟨[], ff, tt⟩, AO, x.n, cO⟩).flatMap txCells)
  rowO : wr.ownsRow w.heap.size 38 4 (.slice AO x.n cO) x.n (((accK made m0 x k).1 ++ x.t.ops.drop k).flatMap opCells)
  boxT : Blk wr wo.heap.size 35 #[tv, .int .i64 ff, .int .i64 tt]
  rowT : wr.ownsRow w.heap.size 40 4 tv k ((accK made m0 x k).1.flatMap opCells)
  newT : ∀ g, tv.ownBlock = some g → wo.heap.size ≤ g
  map : MapV wr gm (100 * j + k) (accK made m0 x k).2
  fr : Fr (fun q => q = gx ∨ q = gm) wo wr
def InRel (w wo : World) (made : Bool) (m0 : Mp) (X : List TxR) (x : TxR) (n cx gx gm j : Nat) (AO : Option Addr) (cO : Nat) (ff tt : Int) (v10 : Value) (wr : World) : Prop :=
  ∃ (k : Nat) (tv : Value), v10 = .int .i64 k ∧ k ≤ x.n ∧ InI w wo wr made m0 X x n cx gx gm j AO cO ff tt k tv
/-- Behind the switch. -/
structure SwI (w wr wx : World) (made : Bool) (m0 : Mp) (x : TxR) (gm j : Nat) (gO cO k : Nat) (o : OpP) : Prop where
  rowO : wx.ownsRow w.heap.size 38 4 (.slice (some ⟨gO, 0, none⟩) x.n cO) x.n (((accK made m0 x k).1 ++ transO made (accK made m0 x k).2 o :: x.t.ops.drop (k + 1)).flatMap opCells)
  map : MapV wx gm (100 * j + (k + 1)) (transM (accK made m0 x k).2 o)
  fr : Fr (fun q => q = gO ∨ q = gm) wr wx
theorem accK_step {made : Bool} {m0 : Mp} {x : TxR} {k : Nat} {o : OpP} (h : x.t.ops[k]? = some o) : accK made m0 x (k + 1) = ((accK made m0 x k).1 ++ [transO made (accK made m0 x k).2 o], transM (accK made m0 x k).2 o) := by
  unfold accK
  rw [foldl_take _ _ _ k o h]
  rfl
theorem drop_at {α : Type} {l : List α} {k : Nat} {o : α} (h : l[k]? = some o) : l.drop k = o :: l.drop (k + 1) := by
  obtain ⟨hl, hx⟩ := List.getElem?_eq_some_iff.1 h
  rw [← hx]
  exact List.drop_eq_getElem_cons hl
theorem mid_at {α : Type} (a : List α) (x : α) (b : List α) (k : Nat) (h : a.length = k) : (a ++ x :: b)[k]? = some x := by
  rw [List.getElem?_append_right (by omega), h]; simp
theorem mid_set {α : Type} (a : List α) (x y : α) (b : List α) (k : Nat) (h : a.length = k) : (a ++ x :: b).set k y = a ++ y :: b := by
  rw [List.set_append_right _ _ (by omega), h]; simp
theorem accL_fine (N : Nat) (made : Bool) : ∀ (l : List TxP) (a : List TxP × Mp), (∀ t ∈ a.1, ∀ o ∈ t.ops, fineP N o) → fineM N a.2 → (∀ t ∈ l, ∀ o ∈ t.ops, fineP N o) → (∀ t ∈ (l.foldl (transL made) a).1, ∀ o ∈ t.ops, fineP N o)
  | [], _, h, _, _ => h
  | t :: l, a, h, hm, h2 => by
    rw [List.foldl_cons]
    obtain ⟨f1, f2⟩ := trans_fine N made t.ops ([], a.2) (fun o ho => by cases ho) hm (h2 t (List.mem_cons_self ..))
    refine accL_fine N made l _ (fun u hu => ?_) f2 (fun u hu => h2 u (List.mem_cons_of_mem _ hu))
    unfold transL at hu
    rcases List.mem_append.1 hu with hu | hu
    · exact h u hu
    · rw [List.mem_singleton.1 hu]; exact f1
/-- A cell of an owned row is stored. -/
theorem own_set {w : World} {base e size n c g : Nat} {xs : List Value} (h : w.ownsRow base e size (.slice (some ⟨g, 0, none⟩) n c) n xs) (i : Nat) (u : Value) : (w.setCell ⟨g, i, none⟩ u).ownsRow base e size (.slice (some ⟨g, 0, none⟩) n c) n (xs.set i u) := (h.stored i u).1
theorem mid0 {w wo w3 : World} {L0 : List TxR} {made : Bool} {n cx gx gm j cO : Nat} {X W : List TxR} {v5 : Value} {x : TxR} {AO : Option Addr} (h : OutI w wo L0 made n cx gx gm j X W v5) (hx : X[j]? = some x) (f3 : Fr (fun _ => False) wo w3)
    (hb : Blk w3 wo.heap.size 35 #[.slice none 0 0, .int .i64 x.t.from_, .int .i64 x.t.to_]) (ho : w3.ownsRow w.heap.size 38 4 (.slice AO x.n cO) x.n (x.t.ops.flatMap opCells)) (hnew : ∀ g, (Value.slice AO x.n cO).ownBlock = some g → wo.heap.size ≤ g) :
    MidI w wo (w3.setCell ⟨gx, j * 3, none⟩ (.slice AO x.n cO)) X x n cx gx j AO cO x.t.from_ x.t.to_ := by
  have hgl : gx < wo.heap.size := (h.rowX.lt gx rfl).2
  have hx3 := f3.own h.rowX (fun _ _ e => e)
  have f4 := Fr.set1 gx w3 (j * 3) (.slice AO x.n cO)
  refine ⟨?_, f4.own ho (fun g hg e => by have := hnew g hg; omega), f4.blk hb (by omega), (f3.mono (T := fun k => k = gx) (fun _ _ e => e.elim)).trans f4, hnew⟩
  have h1 := own_set hx3 (j * 3) (.slice AO x.n cO)
  have h2 := flat_set 3 txCells (fun _ => rfl) 0 (.slice AO x.n cO) (by omega) X j x ⟨⟨[], x.t.from_, x.t.to_⟩, AO, x.n, cO⟩ hx rfl
  rw [Nat.add_zero] at h2
  rw [h2] at h1
  exact h1
theorem mid1 {w wo wx : World} {n cx gx j cO : Nat} {X : List TxR} {x : TxR} {AO : Option Addr} {ff tt : Int} (h : MidI w wo wx X x n cx gx j AO cO ff tt) (hj : j < X.length) (hgl : gx < wo.heap.size) (a b : Int) (wy : World)
    (hy : wy = (((wx.setCell ⟨gx, j * 3 + 1, none⟩ (.int .i64 a)).setCell ⟨gx, j * 3 + 2, none⟩ (.int .i64 b)).setCell ⟨wo.heap.size, 1, none⟩ (.int .i64 a)).setCell ⟨wo.heap.size, 2, none⟩ (.int .i64 b)) :
    MidI w wo wy X x n cx gx j AO cO a b := by
  have g1 := Fr.set1 gx wx (j * 3 + 1) (.int .i64 a)
  have g2 := Fr.set1 gx (wx.setCell ⟨gx, j * 3 + 1, none⟩ (.int .i64 a)) (j * 3 + 2) (.int .i64 b)
  have g3 := Fr.set1 wo.heap.size ((wx.setCell ⟨gx, j * 3 + 1, none⟩ (.int .i64 a)).setCell ⟨gx, j * 3 + 2, none⟩ (.int .i64 b)) 1 (.int .i64 a)
  have g4 := Fr.set1 wo.heap.size (((wx.setCell ⟨gx, j * 3 + 1, none⟩ (.int .i64 a)).setCell ⟨gx, j * 3 + 2, none⟩ (.int .i64 b)).setCell ⟨wo.heap.size, 1, none⟩ (.int .i64 a)) 2 (.int .i64 b)
  have hfx : Fr (fun k => k = gx) wx ((wx.setCell ⟨gx, j * 3 + 1, none⟩ (.int .i64 a)).setCell ⟨gx, j * 3 + 2, none⟩ (.int .i64 b)) := g1.trans g2
  have hft : Fr (fun k => k = wo.heap.size) ((wx.setCell ⟨gx, j * 3 + 1, none⟩ (.int .i64 a)).setCell ⟨gx, j * 3 + 2, none⟩ (.int .i64 b)) wy := by rw [hy]; exact g3.trans g4
  have hob : ∀ g, (Value.slice AO x.n cO).ownBlock = some g → ¬ g = gx := fun g hg e => by have := h.new g hg; omega
  have hob2 : ∀ g, (Value.slice AO x.n cO).ownBlock = some g → ¬ g = wo.heap.size := fun g hg => by
    intro e
    subst e
    exact own_blk_ne h.rowO h.boxT (by decide) hg
  refine ⟨?_, hft.own (hfx.own h.rowO hob) hob2, ?_, (h.fr.trans hfx).trans' hft (fun i hi e => by omega), h.new⟩
  · have h1 := own_set (own_set h.rowX (j * 3 + 1) (.int .i64 a)) (j * 3 + 2) (.int .i64 b)
    rw [flat_set 3 txCells (fun _ => rfl) 1 (.int .i64 a) (by omega) _ j ⟨⟨[], ff, tt⟩, AO, x.n, cO⟩ ⟨⟨[], a, tt⟩, AO, x.n, cO⟩ (by simp [hj]) rfl,
      flat_set 3 txCells (fun _ => rfl) 2 (.int .i64 b) (by omega) _ j ⟨⟨[], a, tt⟩, AO, x.n, cO⟩ ⟨⟨[], a, b⟩, AO, x.n, cO⟩ (by simp [hj]) rfl] at h1
    rw [List.set_set, List.set_set] at h1
    exact hft.own h1 (fun g hg => by have : gx = g := Option.some.inj hg; omega)
  · have h1 := ((hfx.blk h.boxT (by omega)).set_ 1 (.int .i64 a)).set_ 2 (.int .i64 b)
    rw [hy]
    simpa using h1
theorem MidI.cells {w wo wx : World} {n cx gx j cO : Nat} {X : List TxR} {x : TxR} {AO : Option Addr} {ff tt : Int} (h : MidI w wo wx X x n cx gx j AO cO ff tt) (hj : j < X.length) (hn : X.length = n) :
    wx.cell? ⟨gx, j * 3, none⟩ = some (.slice AO x.n cO) ∧ wx.cell? ⟨gx, j * 3 + 1, none⟩ = some (.int .i64 ff) ∧ wx.cell? ⟨gx, j * 3 + 2, none⟩ = some (.int .i64 tt) ∧ gx < wx.heap.size := by
  have hat := flat_at 3 txCells (fun _ => rfl) (X.set j ⟨⟨[], ff, tt⟩, AO, x.n, cO⟩) j ⟨⟨[], ff, tt⟩, AO, x.n, cO⟩ (by simp [hj])
  exact ⟨(h.rowX.cellAt (j * 3) (by omega)).trans (hat 0 (by omega)), (h.rowX.cellAt (j * 3 + 1) (by omega)).trans (hat 1 (by omega)), (h.rowX.cellAt (j * 3 + 2) (by omega)).trans (hat 2 (by omega)), (h.rowX.lt gx rfl).2⟩
theorem InI.cells {w wo wx : World} {made : Bool} {m0 : Mp} {n cx gx gm j cO k : Nat} {X : List TxR} {x : TxR} {AO : Option Addr} {ff tt : Int} {tv : Value} (h : InI w wo wx made m0 X x n cx gx gm j AO cO ff tt k tv) (hj : j < X.length) (hn : X.length = n) :
    wx.cell? ⟨gx, j * 3, none⟩ = some (.slice AO x.n cO) ∧ gx < wx.heap.size := by
  have hat := flat_at 3 txCells (fun _ => rfl) (X.set j ⟨⟨[], ff, tt⟩, AO, x.n, cO⟩) j ⟨⟨[], ff, tt⟩, AO, x.n, cO⟩ (by simp [hj])
  exact ⟨(h.rowX.cellAt (j * 3) (by omega)).trans (hat 0 (by omega)), (h.rowX.lt gx rfl).2⟩
theorem transO_same {made : Bool} {m : Mp} {o : OpP} (h : ¬ (o.kind = 1 ∧ made = true)) : transO made m o = o := by unfold transO; rw [if_neg h]
/-- Nothing is done. -/
theorem sw0 {w wr : World} {made : Bool} {m0 : Mp} {x : TxR} {gm j gO cO k : Nat} {o : OpP} (hr : wr.ownsRow w.heap.size 38 4 (.slice (some ⟨gO, 0, none⟩) x.n cO) x.n (((accK made m0 x k).1 ++ o :: x.t.ops.drop (k + 1)).flatMap opCells))
    (hm : MapV wr gm (100 * j + k) (accK made m0 x k).2) (h1 : ¬ (o.kind = 1 ∧ made = true)) (h2 : transM (accK made m0 x k).2 o = (accK made m0 x k).2) : SwI w wr wr made m0 x gm j gO cO k o where
  rowO := by rw [transO_same h1]; exact hr
  map := by rw [h2]; exact hm.mono (by omega)
  fr := Fr.refl _ _
/-- The map is written. -/
theorem sw1 {w wr wx : World} {made : Bool} {m0 m' : Mp} {x : TxR} {gm j gO cO k nm : Nat} {o : OpP} (hr : wr.ownsRow w.heap.size 38 4 (.slice (some ⟨gO, 0, none⟩) x.n cO) x.n (((accK made m0 x k).1 ++ o :: x.t.ops.drop (k + 1)).flatMap opCells))
    (hm : MapV wr gm (100 * j + k) (accK made m0 x k).2) (h1 : ¬ (o.kind = 1 ∧ made = true)) (h2 : transM (accK made m0 x k).2 o = m') (hf : Fr (fun q => q = gm) wr wx) (hm' : MapV wx gm nm m') (hn : nm ≤ 100 * j + (k + 1)) : SwI w wr wx made m0 x gm j gO cO k o where
  rowO := by rw [transO_same h1]; exact hf.own hr (fun g hg e => hm.notOwn hr (by rw [hg, e]))
  map := by rw [h2]; exact hm'.mono hn
  fr := hf.mono (fun _ _ e => .inr e)
/-- What is found is told. -/
theorem sw2 {w wr : World} {m0 : Mp} {x : TxR} {gm j gO cO k : Nat} {o : OpP} (hr : wr.ownsRow w.heap.size 38 4 (.slice (some ⟨gO, 0, none⟩) x.n cO) x.n (((accK true m0 x k).1 ++ o :: x.t.ops.drop (k + 1)).flatMap opCells))
    (hm : MapV wr gm (100 * j + k) (accK true m0 x k).2) (h1 : o.kind = 1) (hl : (accK true m0 x k).1.length = k) (wx : World)
    (hx : wx = (wr.setCell ⟨gO, k * 4 + 2, none⟩ (.string (((accK true m0 x k).2 o.key).getD ⟨#[]⟩))).setCell ⟨gO, k * 4 + 3, none⟩ (.bool ((accK true m0 x k).2 o.key).isSome)) : SwI w wr wx true m0 x gm j gO cO k o := by
  have ht : transO true (accK true m0 x k).2 o = ⟨o.kind, o.key, ((accK true m0 x k).2 o.key).getD ⟨#[]⟩, ((accK true m0 x k).2 o.key).isSome⟩ := by unfold transO; rw [if_pos ⟨h1, rfl⟩]
  have hf : Fr (fun q => q = gO) wr wx := by rw [hx]; exact (Fr.set1 gO wr _ _).trans (Fr.set1 gO _ _ _)
  refine ⟨?_, ?_, hf.mono (fun _ _ e => .inl e)⟩
  · have h3 := own_set (own_set hr (k * 4 + 2) (.string (((accK true m0 x k).2 o.key).getD ⟨#[]⟩))) (k * 4 + 3) (.bool ((accK true m0 x k).2 o.key).isSome)
    rw [flat_set 4 opCells (fun _ => rfl) 2 _ (by omega) _ k o ⟨o.kind, o.key, ((accK true m0 x k).2 o.key).getD ⟨#[]⟩, o.found⟩ (mid_at _ _ _ k hl) rfl, mid_set _ _ _ _ k hl,
      flat_set 4 opCells (fun _ => rfl) 3 _ (by omega) _ k ⟨o.kind, o.key, ((accK true m0 x k).2 o.key).getD ⟨#[]⟩, o.found⟩ ⟨o.kind, o.key, ((accK true m0 x k).2 o.key).getD ⟨#[]⟩, ((accK true m0 x k).2 o.key).isSome⟩ (mid_at _ _ _ k hl) rfl, mid_set _ _ _ _ k hl, ← hx] at h3
    rw [ht]
    exact h3
  · have h4 : transM (accK true m0 x k).2 o = (accK true m0 x k).2 := by unfold transM; rw [if_pos h1]
    rw [h4]
    exact (hm.fr hf (fun e => hm.notOwn hr (by show some gO = some _; rw [e]))).mono (by omega)
end Go.Proofs.Ytnahkpfamocnfaa
