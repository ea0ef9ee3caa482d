/- Reading a log: the state, its steps. -/
import Derived.Test.YtnahkpfamocnfaaDoorReadM
import Derived.Test.YtnahkpfamocnfaaDoorLogW
namespace Go.Proofs.YtnahkpfamocnfaaDoor
open Go.RowKit
theorem own_some2 {w : World} {base e size n g : Nat} {v : Value} {xs : List Value} (h : w.ownsRow base e size v n xs) (hg : v.ownBlock = some g) : ∃ c, v = .slice (some ⟨g, 0, none⟩) n c := by
  rcases h.2 with ⟨rfl, _⟩ | ⟨g', cap, cur, rfl, _⟩
  · simp [Value.ownBlock] at hg
  · have : g' = g := by simpa [Value.ownBlock] using hg
    subst this
    exact ⟨_, rfl⟩
theorem own_own_ne2 {w : World} {base base' e e' size size' n n' : Nat} {v v' : Value} {xs xs' : List Value} (h : w.ownsRow base e size v n xs) (h' : w.ownsRow base' e' size' v' n' xs') (hne : e ≠ e') {g : Nat} (hg : v.ownBlock = some g) : v'.ownBlock ≠ some g := by
  intro hg'
  rcases h.2 with ⟨rfl, _⟩ | ⟨g1, cap, cur, rfl, _, hh, _⟩
  · simp [Value.ownBlock] at hg
  · rcases h'.2 with ⟨rfl, _⟩ | ⟨g2, cap', cur', rfl, _, hh', _⟩
    · simp [Value.ownBlock] at hg'
    · have e1 : g1 = g := by simpa [Value.ownBlock] using hg
      have e2 : g2 = g := by simpa [Value.ownBlock] using hg'
      subst e1
      subst e2
      rw [hh] at hh'
      injection hh' with hh'
      injection hh' with _ ht
      exact hne ht
theorem cmd_info2 : (Tryd.prog.info? 24).map (fun i => (i.zero, i.size, i.bytes)) = some (some (.agg #[.int .i64 0, .int .i64 0, .int .i64 0, .slice none 0 0]), 4, 48) := by kernel_rfl
theorem newRdr0 (T : TypeId) {w : World} {B n c : Nat} {A : Option Addr} {b : List Nat} (h : Rd w B 1 A n (b.map bv)) (hB : B ≤ w.heap.size) (hc : n ≤ c) (hb : Bytes b) :
    Rdr T (w.alloc (.cells #[.slice A n c, .bool false] T)) B w.heap.size A n c (b, false) :=
  ⟨Blk.new w _ _, h.below (((Below.refl _ _).alloc (Nat.le_refl _) _).mono hB), hc, hB, hb⟩
structure LgI (T : TypeId) (w : World) (B n0 : Nat) (s : RS) (L : List CmR) (V : Value) (wr : World) : Prop where
  rdr : ∃ A n c, Rdr T wr B w.heap.size A n c s
  row : wr.ownsRow w.heap.size 24 4 V L.length (L.flatMap crCells)
  own : ∀ x ∈ L, wr.ownsRow w.heap.size 123 3 (.slice x.A x.n x.k) x.n (x.c.writes.flatMap prCells) ∧ x.c.writes.length = x.n ∧ smallC x.c
  below : Below w.heap.size w wr
  len : s.1.length ≤ n0
  few : L.length ≤ n0 + 1
  few2 : s.2 = false → L.length + s.1.length ≤ n0
theorem LgI.start {T : TypeId} {w w1 : World} {B n0 : Nat} {A : Option Addr} {n c : Nat} {s : RS} {cs : Array Value} (hF : Fr (fun k => k = w.heap.size) (w.alloc (.cells cs T)) w1) (hR : Rdr T w1 B w.heap.size A n c s) (hl : s.1.length ≤ n0) :
    LgI T w B n0 s [] (.slice none 0 0) w1 :=
  ⟨⟨A, n, c, hR⟩, World.ownsRow_nil _ _ _ _, (fun x hx => by cases hx), ((Below.refl _ _).alloc (Nat.le_refl _) _).trans (hF.below (fun i e => by omega) (by simp)), hl, by simp, fun _ => by simpa using hl⟩
theorem LgI.bad {T : TypeId} {w wr : World} {B n0 : Nat} {s : RS} {V : Value} (h : LgI T w B n0 s [] V wr) (hV : V = .slice none 0 0) (b : Bool) : LgI T w B n0 (s.1, b) [] V (wr.setCell ⟨w.heap.size, 1, none⟩ (.bool b)) := by
  obtain ⟨A1, n1, c1, hr⟩ := h.rdr
  subst hV
  exact ⟨⟨A1, n1, c1, hr.bad b⟩, World.ownsRow_nil _ _ _ _, (fun x hx => by cases hx), h.below.trans ((Fr.set1 w.heap.size wr 1 (.bool b)).below (fun i e => by omega) h.below.size), h.len, by simp, fun _ => by have := h.len; simpa using this⟩
theorem LgI.step {T : TypeId} {k : Bool} {w wr w5 w6 : World} {B n0 : Nat} {s : RS} {L : List CmR} {V V' : Value} {A : Option Addr} {c : Nat} (hT : T ≠ 123 ∧ T ≠ 24) (h : LgI T w B n0 s L V wr) (hs : s.2 = false) (hsm : smallC (cmdR k s).1) (hf : Fr (fun k => k = w.heap.size) wr w5)
    (hrow5 : w5.ownsRow wr.heap.size 123 3 (.slice A (cmdR k s).1.writes.length c) (cmdR k s).1.writes.length ((cmdR k s).1.writes.flatMap prCells)) (hr : ∃ A n c, Rdr T w5 B w.heap.size A n c (cmdR k s).2)
    (hm : Moved w5 w6 V.ownBlock V'.ownBlock) (hrow : w6.ownsRow w.heap.size 24 4 V' (L.length + 1) (L.flatMap crCells ++ [.int .i64 (cmdR k s).1.kind, .int .i64 (cmdR k s).1.tx, .int .i64 (cmdR k s).1.time, .slice A (cmdR k s).1.writes.length c])) :
    LgI T w B n0 (cmdR k s).2 (L ++ [⟨(cmdR k s).1, A, (cmdR k s).1.writes.length, c⟩]) V' w6 := by
  obtain ⟨h1, h2, _, _⟩ := cmdR_len k s
  have hlen := h.len
  have hfew := h.few2 hs
  obtain ⟨Ar, nr, cr, hrd⟩ := h.rdr
  have hV5 : w5.ownsRow w.heap.size 24 4 V L.length (L.flatMap crCells) := hf.own h.row (fun g hg e => by subst e; exact own_blk_ne h.row hrd.1 (fun e => hT.2 e.symm) hg)
  have hbm : Below w.heap.size w5 w6 := hm.below (fun g hg => (hV5.lt g hg).1) (Nat.le_trans h.below.size hf.size)
  have hkeep : ∀ (v : Value) (n : Nat) (xs : List Value), w5.ownsRow w.heap.size 123 3 v n xs → w6.ownsRow w.heap.size 123 3 v n xs := fun v n xs ho => hm.1.own ho (fun g hg e => own_own_ne2 ho hV5 (by decide) hg e.symm)
  refine ⟨?_, ?_, fun x hx => ?_, ?_, by omega, by simp; omega, fun hq => by have := h2 hq; simp; omega⟩
  · obtain ⟨A1, n1, c1, hr⟩ := hr
    have hbl : Blk w6 w.heap.size T #[.slice A1 n1 c1, .bool (cmdR k s).2.2] := hm.1.blk hr.1 (fun e => own_blk_ne hV5 hr.1 (fun e => hT.2 e.symm) e.symm)
    exact ⟨A1, n1, c1, hbl, hr.2.1.below (hbm.mono (by have := hr.2.2.2.1; omega)), hr.2.2.1, hr.2.2.2.1, hr.2.2.2.2⟩
  · rw [List.length_append, List.flatMap_append, List.flatMap_singleton]
    exact hrow
  · rcases List.mem_append.1 hx with hx | hx
    · obtain ⟨g1, g2, g3⟩ := h.own x hx
      exact ⟨hkeep _ _ _ (hf.own g1 (fun g hg e => by subst e; exact own_blk_ne g1 hrd.1 (fun e => hT.1 e.symm) hg)), g2, g3⟩
    · rw [List.mem_singleton.1 hx]
      exact ⟨hkeep _ _ _ (own_lower hrow5 h.below.size), rfl, hsm⟩
  · exact (h.below.trans (hf.below (fun i e => by omega) h.below.size)).trans hbm
theorem cmdsR_stop {k : Bool} {m : Nat} {s : RS} {acc : List Cm} (h : m = 0 ∨ s.2 = true ∨ (k = false ∧ 500 < acc.length)) : cmdsR k m s acc = (acc, s) := by
  cases m with
  | zero => rfl
  | succ m =>
    unfold cmdsR
    rw [if_pos]
    rcases h with h | h | ⟨h, h2⟩
    · omega
    · simp [h]
    · simp [h]; omega
theorem cmdsR_go {k : Bool} {m : Nat} {s : RS} {acc : List Cm} (h : 0 < m) (hs : s.2 = false) (hk : k = true ∨ acc.length ≤ 500) : cmdsR k m s acc = cmdsR k (m - 1) (cmdR k s).2 (acc ++ [(cmdR k s).1]) := by
  obtain ⟨m, rfl⟩ : ∃ q, m = q + 1 := ⟨m - 1, by omega⟩
  conv => lhs; unfold cmdsR
  rw [if_neg (by rcases hk with rfl | hk <;> simp [hs]; omega)]
  rfl
def LgRel (T : TypeId) (k : Bool) (w : World) (B n0 N : Nat) (s0 : RS) (v5 v6 : Value) (wr : World) : Prop :=
  ∃ (m : Nat) (s : RS) (L : List CmR), v6 = .int .i64 m ∧ m ≤ 4398046511104 ∧ cmdsR k N s0 [] = cmdsR k m s (csOf L) ∧ LgI T w B n0 s L v5 wr ∧ (k = false → L.length ≤ 501)
def RLPost (E : Int → Value) (o : Option (List Cm)) (w : World) (e : Ending) (w' : World) : Prop :=
  ∃ L A n k, e = .returned (.tuple #[.slice A n k, E (if o.isSome then 0 else 3)]) ∧ csOf L = o.getD [] ∧ ReadsC w' w'.heap.size A n L ∧ Below w.heap.size w w' ∧ n ≤ 200000 ∧ ∀ x ∈ L, x.n ≤ 10000
theorem LgI.good {T : TypeId} {w wr : World} {B n0 : Nat} {s : RS} {L : List CmR} {A : Option Addr} {c : Nat} {E : Int → Value} (h : LgI T w B n0 s L (.slice A L.length c) wr) (h0 : n0 ≤ 100000) : RLPost E (some (csOf L)) w (.returned (.tuple #[.slice A L.length c, E 0])) wr :=
  ⟨L, A, _, c, rfl, rfl, ⟨rfl, Rd.of_own h.row, fun x hx => ⟨(h.own x hx).2.1, Rd.of_own (h.own x hx).1⟩⟩, h.below, by have := h.few; omega, fun x hx => by have h1 := (h.own x hx).2; have h2 := h1.2.1; omega⟩
theorem RLPost.fail {w wr : World} {E : Int → Value} (h : Below w.heap.size w wr) : RLPost E none w (.returned (.tuple #[.slice none 0 0, E 3])) wr :=
  ⟨[], none, 0, 0, rfl, rfl, ⟨rfl, Rd.none_ _ _ _ _, fun x hx => by cases hx⟩, h, by omega, fun x hx => by cases hx⟩
end Go.Proofs.YtnahkpfamocnfaaDoor
