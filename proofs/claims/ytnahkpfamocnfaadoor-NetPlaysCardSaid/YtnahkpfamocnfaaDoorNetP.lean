/- Messages under way (2.1): plain, and how they lie in memory. -/
import Derived.Test.YtnahkpfamocnfaaDoorMapG
import Derived.Test.YtnahkpfamocnfaaDoorMsg0
import Derived.Test.YtnahkpfamocnfaaDoorRows
namespace Go.Proofs.YtnahkpfamocnfaaDoor
open Go.RowKit
structure NetS where
  l : List Ms
  dead : Int → Bool
  lost : Int
def stopB (s : NetS) (m : Ms) : Bool := s.dead m.from_ || s.dead m.to_ || decide (s.l.length = 200)
def sendS (s : NetS) (m : Ms) : NetS := if stopB s m then { s with lost := s.lost + 1 } else { s with l := s.l ++ [m] }
def sendsS (s : NetS) (ms : List Ms) : NetS := ms.foldl sendS s
def takeS (s : NetS) (k : Nat) : NetS := { s with l := s.l.eraseIdx k }
def gone (id : Int) (m : Ms) : Bool := decide (m.from_ = id) || decide (m.to_ = id)
def downS (s : NetS) (id : Int) : NetS := ⟨s.l.filter (fun m => !gone id m), fun i => decide (i = id) || s.dead i, s.lost + (s.l.length - (s.l.filter (fun m => !gone id m)).length : Nat)⟩
theorem sendS_len (s : NetS) (m : Ms) (h : s.l.length ≤ 200) : (sendS s m).l.length ≤ 200 := by
  unfold sendS stopB
  split
  · exact h
  · rename_i hn
    simp only [Bool.or_eq_true, decide_eq_true_eq, not_or] at hn
    simp; omega
theorem sendsS_len : ∀ (ms : List Ms) (s : NetS), s.l.length ≤ 200 → (sendsS s ms).l.length ≤ 200
  | [], _, h => h
  | m :: ms, s, h => sendsS_len ms (sendS s m) (sendS_len s m h)
theorem sendS_dead (s : NetS) (m : Ms) : (sendS s m).dead = s.dead := by unfold sendS; split <;> rfl
theorem sendsS_dead : ∀ (ms : List Ms) (s : NetS), (sendsS s ms).dead = s.dead
  | [], _ => rfl
  | m :: ms, s => (sendsS_dead ms (sendS s m)).trans (sendS_dead s m)
theorem sendS_lost (s : NetS) (m : Ms) : s.lost ≤ (sendS s m).lost ∧ (sendS s m).lost ≤ s.lost + 1 := by unfold sendS; split <;> simp <;> omega
theorem sendsS_lost : ∀ (ms : List Ms) (s : NetS), s.lost ≤ (sendsS s ms).lost ∧ (sendsS s ms).lost ≤ s.lost + ms.length
  | [], s => by simp [sendsS]
  | m :: ms, s => by
    have h1 := sendsS_lost ms (sendS s m)
    have h2 := sendS_lost s m
    have e : sendsS s (m :: ms) = sendsS (sendS s m) ms := rfl
    rw [e, List.length_cons]
    omega
theorem sendsS_snoc (s : NetS) (ms : List Ms) (m : Ms) : sendsS s (ms ++ [m]) = sendS (sendsS s ms) m := by simp [sendsS, List.foldl_append]
theorem sendsS_append (s : NetS) (ms ms' : List Ms) : sendsS s (ms ++ ms') = sendsS (sendsS s ms) ms' := by simp [sendsS, List.foldl_append]
/-- A message, and where its writes lie. -/
structure MsR where
  m : Ms
  A : Option Addr
  n : Nat
  k : Nat
def mrCells (x : MsR) : List Value := (msgCells x.m x.A x.n x.k).toList
theorem mrCells_len (x : MsR) : (mrCells x).length = 9 := rfl
def msOf (l : List MsR) : List Ms := l.map (·.m)
/-- A slice of messages that reads as a list, out of the way of what N names. -/
def ReadsM (w : World) (N : Nat → Prop) (A : Option Addr) (n : Nat) (l : List MsR) : Prop :=
  l.length = n ∧ Rd w w.heap.size 9 A n (l.flatMap mrCells) ∧ (∀ g off, A = some ⟨g, off, none⟩ → 0 < n → ¬ N g) ∧
    ∀ x ∈ l, ReadsP w w.heap.size x.A x.n x.m.cmd.writes ∧ ∀ g off, x.A = some ⟨g, off, none⟩ → 0 < x.n → ¬ N g
/-- What a message's writes in the net are: a row of the program's own. -/
def OwnW (w : World) (base : Nat) (x : MsR) : Prop := w.ownsRow base 123 3 (.slice x.A x.n x.k) x.n (x.m.cmd.writes.flatMap prCells) ∧ x.m.cmd.writes.length = x.n
noncomputable abbrev keyInt : KeyC Tryd.prog 3 Int := keyI Tryd.underlying3
def DeadM (w : World) (nd : Nat) (D : Option Nat) (dead : Int → Bool) : Prop :=
  match D with
  | none => ∀ i, dead i = false
  | some b => MapG keyInt w b nd (fun i => if dead i then some (.bool true) else none)
/-- The net's three cells at block g, from place off on. -/
structure NetI (w : World) (base g off : Nat) (T : TypeId) (cs : Array Value) (V : Value) (D : Option Nat) (nd : Nat) (L : List MsR) (dead : Int → Bool) (lost : Int) : Prop where
  blk : Blk w g T cs
  c0 : cs[off]? = some V
  c1 : cs[off + 1]? = some (.map D)
  c2 : cs[off + 2]? = some (.int .i64 lost)
  row : w.ownsRow base 26 9 V L.length (L.flatMap mrCells)
  own : ∀ x ∈ L, OwnW w base x
  down : DeadM w nd D dead
  len : L.length ≤ 200
  lo : 0 ≤ lost
  hi : lost ≤ 1099511627776
  ne : T ≠ 26 ∧ T ≠ 123
  bg : base ≤ w.heap.size
def NetI.st {w : World} {base g off : Nat} {T : TypeId} {cs : Array Value} {V : Value} {D : Option Nat} {nd : Nat} {L : List MsR} {dead : Int → Bool} {lost : Int} (_ : NetI w base g off T cs V D nd L dead lost) : NetS := ⟨msOf L, dead, lost⟩
abbrev okI (i : Int) : Prop := (Lit.int .i64 i).wf = true
theorem DeadM.look {w : World} {nd : Nat} {D : Option Nat} {dead : Int → Bool} (h : DeadM w nd D dead) {i : Int} (hi : okI i) : (Instr.lookup 69 (.map D) (.int .i64 i) false).run Tryd.prog w = .ok (.bool (dead i)) w := by
  have hz : (zeroValue 4).run Tryd.prog w = .ok (.bool false) w := by kernel_rfl
  unfold DeadM at h
  rcases D with _ | b
  · rw [h i]
    exact (look_nilG keyInt w Tryd.underlying69 hz (x := i) hi).2
  · have := (h.look Tryd.underlying69 hz (x := i) hi).2
    rw [show keyInt.val i = Value.int .i64 i from rfl] at this
    rw [this]
    cases dead i <;> rfl
theorem DeadM.fr {S : Nat → Prop} {w w' : World} {nd : Nat} {D : Option Nat} {dead : Int → Bool} (h : DeadM w nd D dead) (hf : Fr S w w') (hn : ∀ b, D = some b → ¬ S b) : DeadM w' nd D dead := by
  unfold DeadM at h ⊢
  rcases D with _ | b
  · exact h
  · exact h.fr hf (hn b rfl)
theorem DeadM.notBlk {w : World} {nd g : Nat} {D : Option Nat} {dead : Int → Bool} {t : TypeId} {cs : Array Value} (h : DeadM w nd D dead) (hb : Blk w g t cs) : D ≠ some g := by
  rintro rfl
  exact MapG.notBlk (C := keyInt) h hb rfl
theorem DeadM.notOwn {w : World} {nd base size k : Nat} {e : TypeId} {v : Value} {xs : List Value} {D : Option Nat} {dead : Int → Bool} (h : DeadM w nd D dead) (ho : w.ownsRow base e size v k xs) {b : Nat} (hb : D = some b) : v.ownBlock ≠ some b := by
  subst hb
  exact MapG.notOwn (C := keyInt) h ho
theorem DeadM.lt {w : World} {nd b : Nat} {dead : Int → Bool} (h : DeadM w nd (some b) dead) : b < w.heap.size := MapG.lt (C := keyInt) h
/-- Where messages lie, at place j. -/
theorem flat9 : ∀ (l : List MsR) (j : Nat) (x : MsR), l[j]? = some x → ∀ i, i < 9 → (l.flatMap mrCells)[j * 9 + i]? = (mrCells x)[i]?
  | [], j, p, h, i, hi => by simp at h
  | q :: l, 0, p, h, i, hi => by
    simp at h
    subst h
    rw [List.flatMap_cons, List.getElem?_append_left (by rw [mrCells_len]; omega)]
    simp
  | q :: l, j + 1, p, h, i, hi => by
    have h' : l[j]? = some p := by simpa using h
    have : (j + 1) * 9 + i = (j * 9 + i) + 9 := by omega
    rw [this, List.flatMap_cons, List.getElem?_append_right (by rw [mrCells_len]; omega), mrCells_len, Nat.add_sub_cancel]
    exact flat9 l j p h' i hi
/-- The nine cells of a message at block g from place o on. -/
def Cells9 (w : World) (g o : Nat) (x : MsR) : Prop :=
  w.cell? ⟨g, o, none⟩ = some (.int .i64 x.m.kind) ∧ w.cell? ⟨g, o + 1, none⟩ = some (.int .i64 x.m.from_) ∧ w.cell? ⟨g, o + 2, none⟩ = some (.int .i64 x.m.to_) ∧ w.cell? ⟨g, o + 3, none⟩ = some (.int .i64 x.m.epoch) ∧ w.cell? ⟨g, o + 4, none⟩ = some (.int .i64 x.m.n) ∧
    w.cell? ⟨g, o + 5, none⟩ = some (.int .i64 x.m.cmd.kind) ∧ w.cell? ⟨g, o + 6, none⟩ = some (.int .i64 x.m.cmd.tx) ∧ w.cell? ⟨g, o + 7, none⟩ = some (.int .i64 x.m.cmd.time) ∧ w.cell? ⟨g, o + 8, none⟩ = some (.slice x.A x.n x.k)
theorem Rd.cells9 {w : World} {B n j : Nat} {A : Option Addr} {l : List MsR} (h : Rd w B 9 A n (l.flatMap mrCells)) (hl : l.length = n) (hj : j < n) : ∃ g off x, A = some ⟨g, off, none⟩ ∧ g < B ∧ l[j]? = some x ∧ Cells9 w g (off + j * 9) x := by
  obtain ⟨g, off, e, hb, hc⟩ := h.2 (by omega)
  have hx : l[j]? = some l[j] := List.getElem?_eq_getElem (by omega)
  have hf := flat9 l j _ hx
  refine ⟨g, off, l[j], e, hb, hx, ?_, ?_, ?_, ?_, ?_, ?_, ?_, ?_, ?_⟩
  · exact hc (j * 9) _ (hf 0 (by omega))
  · exact hc (j * 9 + 1) _ (hf 1 (by omega))
  · exact hc (j * 9 + 2) _ (hf 2 (by omega))
  · exact hc (j * 9 + 3) _ (hf 3 (by omega))
  · exact hc (j * 9 + 4) _ (hf 4 (by omega))
  · exact hc (j * 9 + 5) _ (hf 5 (by omega))
  · exact hc (j * 9 + 6) _ (hf 6 (by omega))
  · exact hc (j * 9 + 7) _ (hf 7 (by omega))
  · exact hc (j * 9 + 8) _ (hf 8 (by omega))
theorem Cells9.fr {S : Nat → Prop} {w w' : World} {g o : Nat} {x : MsR} (h : Cells9 w g o x) (hf : Fr S w w') (hg : g < w.heap.size) (hn : ¬ S g) : Cells9 w' g o x := by
  obtain ⟨h0, h1, h2, h3, h4, h5, h6, h7, h8⟩ := h
  have hk : ∀ o, w'.cell? ⟨g, o, none⟩ = w.cell? ⟨g, o, none⟩ := fun o => hf.cell (p := ⟨g, o, none⟩) hg hn
  exact ⟨(hk _).trans h0, (hk _).trans h1, (hk _).trans h2, (hk _).trans h3, (hk _).trans h4, (hk _).trans h5, (hk _).trans h6, (hk _).trans h7, (hk _).trans h8⟩
/-- What a step of the net's may write. -/
def NetB (g : Nat) (V : Value) (D : Option Nat) (k : Nat) : Prop := k = g ∨ some k = V.ownBlock ∨ some k = D
end Go.Proofs.YtnahkpfamocnfaaDoor
