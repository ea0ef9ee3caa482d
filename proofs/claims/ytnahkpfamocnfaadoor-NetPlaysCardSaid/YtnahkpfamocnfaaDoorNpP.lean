/- chainmaillaw.NetPlays: the two nets side by side. -/
import Derived.Test.YtnahkpfamocnfaaDoorRefNet3
import Derived.Test.YtnahkpfamocnfaaDoorNetAll
import Derived.Test.YtnahkpfamocnfaaDoorNetLost
import Derived.Test.YtnahkpfamocnfaaDoorSame
import Derived.Test.YtnahkpfamocnfaaDoorTell
namespace Go.Proofs.YtnahkpfamocnfaaDoor
open Go.RowKit
def OkM (m : Ms) : Prop := okI m.from_ ∧ okI m.to_ ∧ m.cmd.writes.length ≤ 40
theorem sends_mem : ∀ (ms : List Ms) (s : NetS) (m : Ms), m ∈ (sendsS s ms).l → m ∈ s.l ∨ m ∈ ms
  | [], s, m, h => .inl h
  | x :: ms, s, m, h => by
    rcases sends_mem ms (sendS s x) m h with h | h
    · unfold sendS at h
      split at h
      · exact .inl h
      · rcases List.mem_append.1 h with h | h
        · exact .inl h
        · rw [List.mem_singleton.1 h]; exact .inr (List.mem_cons_self ..)
    · exact .inr (List.mem_cons_of_mem _ h)
/-- The two nets lie apart. -/
structure TwoI (W w : World) (cs : Array Value) (V VL VD : Value) (D : Option Nat) (nd : Nat) (L Lr : List MsR) (dead : Int → Bool) (dl : List Int) (lost lostr : Int) : Prop where
  n : NetI w W.heap.size W.heap.size 0 71 cs V D nd L dead lost
  r : RefI w W.heap.size (W.heap.size + 1) VL VD Lr dl lostr
  apart : ∀ b, V.ownBlock = some b → VL.ownBlock ≠ some b
  below : Below W.heap.size W w
  size : cs.size = 3
  mb : ∀ b, D = some b → W.heap.size ≤ b
structure NpI (W w : World) (cs : Array Value) (V VL VD : Value) (D : Option Nat) (nd : Nat) (L Lr : List MsR) (dl : List Int) (lost : Int) (m : Nat) : Prop where
  t : TwoI W w cs V VL VD D nd L Lr (memI dl) dl lost lost
  ms : msOf L = msOf Lr
  wf : ∀ x ∈ msOf L, OkM x
  bnd : nd ≤ m
  bdl : dl.length ≤ m
  blo : lost ≤ m
def NpS (W : World) (m : Nat) (w : World) : Prop := ∃ cs V VL VD D nd L Lr dl lost, NpI W w cs V VL VD D nd L Lr dl lost m
section
variable {W w w' : World} {cs : Array Value} {V VL VD : Value} {D : Option Nat} {nd m : Nat} {L Lr : List MsR} {dead : Int → Bool} {dl : List Int} {lost lostr : Int}
/-- What neither net's step writes leaves both; a net's step leaves the other one. -/
theorem TwoI.fr {S : Nat → Prop} (h : TwoI W w cs V VL VD D nd L Lr dead dl lost lostr) (hf : Fr S w w') (hS : ∀ i, S i → w.heap.size ≤ i) : TwoI W w' cs V VL VD D nd L Lr dead dl lost lostr :=
  ⟨h.n.fr hf (fun e => by have := hS _ e; have := h.n.blk.lt; omega) (fun b hb e => by have := hS _ e; have := h.n.vlt hb; omega) (fun b hb e => by have := hS _ e; have := h.n.down; rw [hb] at this; have := this.lt; omega) (fun b t cs hb _ e => by have := hS _ e; have := hb.lt; omega),
    h.r.fr hf (fun e => by have := hS _ e; have := h.r.blk.lt; omega) (fun b hb e => by have := hS _ e; have := (h.r.llt hb).2; omega) (fun b hb e => by have := hS _ e; have := (h.r.dlt hb).2; omega) (fun b hb e => by have := hS _ e; have := h.r.bg; omega),
    h.apart, h.below.trans (hf.below (fun i e => by have := hS i e; have := h.below.size; omega) h.below.size), h.size, h.mb⟩
theorem TwoI.tall (h : TwoI W w cs V VL VD D nd L Lr dead dl lost lostr) (hb : Below w.heap.size w w') : TwoI W w' cs V VL VD D nd L Lr dead dl lost lostr := h.fr (fr_of_below hb) (fun _ e => e)
/-- The net's own step leaves the document's net. -/
theorem TwoI.refStays (h : TwoI W w cs V VL VD D nd L Lr dead dl lost lostr) (hf : Fr (NetB W.heap.size V D) w w') : RefI w' W.heap.size (W.heap.size + 1) VL VD Lr dl lostr := by
  refine h.r.fr hf (fun e => ?_) (fun b hb e => ?_) (fun b hb e => ?_) (fun b hb e => ?_)
  · rcases e with e | e | e
    · omega
    · exact own_blk_ne h.n.row h.r.blk (by decide) e.symm
    · exact h.n.down.notBlk h.r.blk e.symm
  · rcases e with e | e | e
    · subst e; exact own_blk_ne h.r.rowL h.n.blk (by decide) hb
    · exact h.apart b e.symm hb
    · exact h.n.down.notOwn h.r.rowL e.symm hb
  · rcases e with e | e | e
    · subst e; exact own_blk_ne h.r.rowD h.n.blk (by decide) hb
    · exact own_apart h.r.rowD h.n.row (by decide) hb e.symm
    · exact h.n.down.notOwn h.r.rowD e.symm hb
  · rcases e with e | e | e
    · omega
    · have := (h.n.row.lt b e.symm).1; omega
    · have := h.mb b e.symm; omega
/-- The document's net's own step leaves the net. -/
theorem TwoI.netStays (h : TwoI W w cs V VL VD D nd L Lr dead dl lost lostr) (hf : Fr (RefB (W.heap.size + 1) VL VD) w w') : NetI w' W.heap.size W.heap.size 0 71 cs V D nd L dead lost := by
  refine h.n.fr hf (fun e => ?_) (fun b hb e => ?_) (fun b hb e => ?_) (fun b t cs hb ht e => ?_)
  · rcases e with e | e | e
    · omega
    · exact own_blk_ne h.r.rowL h.n.blk (by decide) e.symm
    · exact own_blk_ne h.r.rowD h.n.blk (by decide) e.symm
  · rcases e with e | e | e
    · subst e; exact own_blk_ne h.n.row h.r.blk (by decide) hb
    · exact h.apart b hb e.symm
    · exact own_apart h.n.row h.r.rowD (by decide) hb e.symm
  · rcases e with e | e | e
    · subst e; exact h.n.down.notBlk h.r.blk hb
    · exact h.n.down.notOwn h.r.rowL hb e.symm
    · exact h.n.down.notOwn h.r.rowD hb e.symm
  · subst ht
    rcases e with e | e | e
    · subst e; exact absurd rfl (Blk.ne_ h.r.blk hb (by decide))
    · exact own_blk_ne h.r.rowL hb (by decide) e.symm
    · exact own_blk_ne h.r.rowD hb (by decide) e.symm
theorem TwoI.vd (h : TwoI W w cs V VL VD D nd L Lr dead dl lost lostr) : ∀ b, VD.ownBlock = some b → VL.ownBlock ≠ some b := fun _ hb e => own_apart h.r.rowL h.r.rowD (by decide) e hb
theorem TwoI.hb (h : TwoI W w cs V VL VD D nd L Lr dead dl lost lostr) (hf : Fr (NetB W.heap.size V D) w w') : Below W.heap.size W w' :=
  h.below.trans (hf.below (fun i e => by
    rcases e with e | e | e
    · omega
    · exact (h.n.row.lt i e.symm).1
    · exact h.mb i e.symm) h.below.size)
theorem TwoI.hb2 (h : TwoI W w cs V VL VD D nd L Lr dead dl lost lostr) (hf : Fr (RefB (W.heap.size + 1) VL VD) w w') : Below W.heap.size W w' :=
  h.below.trans (hf.below (fun i e => by
    rcases e with e | e | e
    · omega
    · exact (h.r.llt e.symm).1
    · exact (h.r.dlt e.symm).1) h.below.size)
theorem TwoI.stepN {cs' : Array Value} {V' : Value} {D' : Option Nat} {nd' : Nat} {L' : List MsR} {dead' : Int → Bool} {lost' : Int} (h : TwoI W w cs V VL VD D nd L Lr dead dl lost lostr)
    (hN : NetI w' W.heap.size W.heap.size 0 71 cs' V' D' nd' L' dead' lost') (hF : Fr (NetB W.heap.size V D) w w') (hV : V'.ownBlock = V.ownBlock ∨ ∃ b, V'.ownBlock = some b ∧ w.heap.size ≤ b) (hD : DNew D D' w.heap.size) (hs : cs'.size = 3) :
    TwoI W w' cs' V' VL VD D' nd' L' Lr dead' dl lost' lostr :=
  ⟨hN, h.refStays hF, fun b hb e => by
    rcases hV with e2 | ⟨b', e2, hb'⟩
    · exact h.apart b (e2 ▸ hb) e
    · rw [e2] at hb; injection hb with hb; have := (h.r.llt e).2; omega, h.hb hF, hs, fun b hb => by
    rcases hD with e | ⟨b', e, hb'⟩
    · exact h.mb b (e ▸ hb)
    · rw [e] at hb; injection hb with hb; have := h.below.size; omega⟩
theorem TwoI.stepR {VL' VD' : Value} {Lr' : List MsR} {dl' : List Int} {lostr' : Int} (h : TwoI W w cs V VL VD D nd L Lr dead dl lost lostr)
    (hR : RefI w' W.heap.size (W.heap.size + 1) VL' VD' Lr' dl' lostr') (hF : Fr (RefB (W.heap.size + 1) VL VD) w w') (hV : ∀ b, VL'.ownBlock = some b → VL.ownBlock = some b ∨ w.heap.size ≤ b) :
    TwoI W w' cs V VL' VD' D nd L Lr' dead dl' lost lostr' :=
  ⟨h.netStays hF, hR, fun b hb e => by
    rcases hV b e with e2 | hb'
    · exact h.apart b hb e2
    · have := h.n.vlt hb; omega, h.hb2 hF, h.size, h.mb⟩
theorem TwoI.blkR {b : Nat} {t : TypeId} {cs1 : Array Value} (h : TwoI W w cs V VL VD D nd L Lr dead dl lost lostr) (hf : Fr (RefB (W.heap.size + 1) VL VD) w w') (hb : Blk w b t cs1) (ht : t ≠ 74 ∧ t ≠ 26 ∧ t ≠ 3) : Blk w' b t cs1 :=
  hf.blk hb (fun e => by
    rcases e with e | e | e
    · subst e; exact absurd rfl (Blk.ne_ h.r.blk hb (fun e => ht.1 e.symm))
    · exact own_blk_ne h.r.rowL hb (fun e => ht.2.1 e.symm) e.symm
    · exact own_blk_ne h.r.rowD hb (fun e => ht.2.2 e.symm) e.symm)
theorem TwoI.blkN {b : Nat} {t : TypeId} {cs1 : Array Value} (h : TwoI W w cs V VL VD D nd L Lr dead dl lost lostr) (hf : Fr (NetB W.heap.size V D) w w') (hb : Blk w b t cs1) (ht : t ≠ 71 ∧ t ≠ 26) : Blk w' b t cs1 :=
  hf.blk hb (fun e => by
    rcases e with e | e | e
    · subst e; exact absurd rfl (Blk.ne_ h.n.blk hb (fun e => ht.1 e.symm))
    · exact own_blk_ne h.n.row hb (fun e => ht.2 e.symm) e.symm
    · exact h.n.down.notBlk hb e.symm)
/-- A new block: no net's step touches it. -/
theorem TwoI.newN {b : Nat} (h : TwoI W w cs V VL VD D nd L Lr dead dl lost lostr) (hb : w.heap.size ≤ b) : ¬ NetB W.heap.size V D b := by
  rintro (e | e | e)
  · have := h.n.blk.lt; omega
  · have := h.n.vlt e.symm; omega
  · have := h.n.down; rw [← e] at this; have := this.lt; omega
theorem TwoI.newR {b : Nat} (h : TwoI W w cs V VL VD D nd L Lr dead dl lost lostr) (hb : w.heap.size ≤ b) : ¬ RefB (W.heap.size + 1) VL VD b := by
  rintro (e | e | e)
  · have := h.r.blk.lt; omega
  · have := (h.r.llt e.symm).2; omega
  · have := (h.r.dlt e.symm).2; omega
theorem msOf_erase (l : List MsR) (k : Nat) : msOf (l.eraseIdx k) = (msOf l).eraseIdx k := by unfold msOf; rw [List.eraseIdx_eq_take_drop_succ, List.eraseIdx_eq_take_drop_succ, List.map_append, List.map_take, List.map_drop]
theorem NpI.erased {cs' : Array Value} {V' VL' : Value} (h : NpI W w cs V VL VD D nd L Lr dl lost m) (k : Nat) (n' : Int) (hn : n' ≤ lost + 1) (ht : TwoI W w' cs' V' VL' VD D nd (L.eraseIdx k) (Lr.eraseIdx k) (memI dl) dl n' n') : NpI W w' cs' V' VL' VD D nd (L.eraseIdx k) (Lr.eraseIdx k) dl n' (m + 300) :=
  ⟨ht, by rw [msOf_erase, msOf_erase, h.ms], fun x hx => h.wf x (by rw [msOf_erase] at hx; exact List.mem_of_mem_eraseIdx hx), by have := h.bnd; omega, by have := h.bdl; omega, by have := h.blo; omega⟩
theorem NpI.len (h : NpI W w cs V VL VD D nd L Lr dl lost m) : L.length = Lr.length := by have := congrArg List.length h.ms; simpa [msOf] using this
theorem NpI.mono (h : NpI W w cs V VL VD D nd L Lr dl lost m) {m' : Nat} (hm : m ≤ m') : NpI W w cs V VL VD D nd L Lr dl lost m' :=
  ⟨h.t, h.ms, h.wf, Nat.le_trans h.bnd hm, Nat.le_trans h.bdl hm, by have := h.blo; omega⟩
theorem NpI.tall (h : NpI W w cs V VL VD D nd L Lr dl lost m) (hb : Below w.heap.size w w') : NpI W w' cs V VL VD D nd L Lr dl lost m := ⟨h.t.tall hb, h.ms, h.wf, h.bnd, h.bdl, h.blo⟩
theorem NpI.xn (h : NpI W w cs V VL VD D nd L Lr dl lost m) : ∀ x ∈ L, x.n ≤ 40 := fun x hx => by
  have h1 := h.wf x.m (List.mem_map.2 ⟨x, hx, rfl⟩)
  have h2 := (h.t.n.own x hx).2
  unfold OkM at h1
  omega
/-- At one place the two tell one message, of as many writes. -/
theorem NpI.at_ (h : NpI W w cs V VL VD D nd L Lr dl lost m) {k : Nat} {x y : MsR} (hx : L[k]? = some x) (hy : Lr[k]? = some y) : x.m = y.m ∧ x.n = y.n := by
  have e : (msOf L)[k]? = (msOf Lr)[k]? := by rw [h.ms]
  unfold msOf at e
  rw [List.getElem?_map, List.getElem?_map, hx, hy] at e
  have e : x.m = y.m := by simpa using e
  refine ⟨e, ?_⟩
  have h1 := (h.t.n.own x (List.mem_of_getElem? hx)).2
  have h2 := (h.t.r.rd y (List.mem_of_getElem? hy)).1
  rw [← h1, ← h2, e]
end
theorem msOf_kept (id : Int) (l : List MsR) : msOf (kept id l) = (msOf l).filter (fun m => !gone id m) := by
  unfold msOf kept
  rw [List.filter_map]
  rfl
theorem memI_snoc (dl : List Int) (id : Int) : (fun i => decide (i = id) || memI dl i) = memI (dl ++ [id]) := by
  funext i
  rw [Bool.eq_iff_iff, memI_iff, Bool.or_eq_true, memI_iff, decide_eq_true_eq, List.mem_append, List.mem_singleton]
  exact Or.comm
theorem rd_via {W w w' : World} {size n : Nat} {A : Option Addr} {xs : List Value} (h : Rd w W.heap.size size A n xs) (h1 : Below W.heap.size W w) (h2 : Below W.heap.size W w') : Rd w' W.heap.size size A n xs :=
  ⟨h.1, fun h0 => by
    obtain ⟨g, off, e, hg, hc⟩ := h.2 h0
    exact ⟨g, off, e, hg, fun j u hu => (h2.cell (p := ⟨g, off + j, none⟩) hg).trans ((h1.cell (p := ⟨g, off + j, none⟩) hg).symm.trans (hc j u hu))⟩⟩
theorem few_any (c : Cm) (A : Option Addr) (n k : Nat) (w : World) : Calls Tryd.prog 8 #[cmdV c A n k] w fun e w' => e = .returned (.bool (decide (n ≤ 40))) ∧ Below w.heap.size w w' := by
  have hbl : ∀ o, Below w.heap.size w (w.alloc o) := fun o => (Below.refl _ _).alloc (Nat.le_refl _) _
  have HBL := Lib.hid hbl; clear hbl
  unfold cmdV
  by_cases h : n ≤ 40
  · have h' : (n : Int) ≤ 40 := by omega
    rw [decide_eq_true h]
    clear h
    go_enter Tryd.func8, Tryd.ntmps8
    go_wp2_with fail
    go_ret
    exact ⟨rfl, HBL.out _⟩
  · have h' : ¬ (n : Int) ≤ 40 := by omega
    rw [decide_eq_false h]
    clear h
    go_enter Tryd.func8, Tryd.ntmps8
    go_wp2_with fail
    go_ret
    exact ⟨rfl, HBL.out _⟩
/-- One of the moves, as it lies. -/
structure WyR where
  what : Int
  k : Int
  A : Option Addr
  n : Nat
  c : Nat
  ms : List MsR
def wyCells (x : WyR) : List Value := [.int .i64 x.what, .int .i64 x.k, .slice x.A x.n x.c]
def MgOk (W : World) (y : MsR) : Prop := ReadsP W W.heap.size y.A y.n y.m.cmd.writes ∧ okI y.m.from_ ∧ okI y.m.to_ ∧ (y.A = none → y.k = 0)
def WyOk (W : World) (x : WyR) : Prop := okI x.k ∧ x.ms.length = x.n ∧ Rd W W.heap.size 9 x.A x.n (x.ms.flatMap mrCells) ∧ ∀ y ∈ x.ms, MgOk W y
end Go.Proofs.YtnahkpfamocnfaaDoor
