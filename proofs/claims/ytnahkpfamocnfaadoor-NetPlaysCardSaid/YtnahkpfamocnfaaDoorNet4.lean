/- net.Many, Lost, Lose, Twice. -/
import Derived.Test.YtnahkpfamocnfaaDoorNet3
namespace Go.Proofs.YtnahkpfamocnfaaDoor
open Go.RowKit
section
variable (base g off nd : Nat) (T : TypeId) (cs : Array Value) (V : Value) (D : Option Nat) (L : List MsR) (dead : Int → Bool) (lost : Int) (w : World)
theorem many_any (hI : NetI w base g off T cs V D nd L dead lost) : Calls Tryd.prog 33 #[.pointer (some ⟨g, off, none⟩)] w fun e w' => e = .returned (.int .i64 L.length) ∧ w = w' := by
  obtain ⟨A', c', hV', hc', hA'⟩ := own_slice hI.row
  have c0 := (hI.blk.cell off).trans hI.c0
  rw [hV'] at c0
  clear hI hV'
  go_enter Tryd.func33, Tryd.ntmps33
  go_wp2_with fail
  go_ret
  exact ⟨rfl, rfl⟩
def LoseYes (base g off nd : Nat) (T : TypeId) (cs : Array Value) (V : Value) (D : Option Nat) (L : List MsR) (dead : Int → Bool) (lost : Int) (k : Nat) (w : World) (e : Ending) (w' : World) : Prop :=
  ∃ V', e = .returned .nilIface ∧ NetI w' base g off T ((cs.setIfInBounds off V').setIfInBounds (off + 2) (.int .i64 (lost + 1))) V' D nd (L.eraseIdx k) dead (lost + 1) ∧ Fr (NetB g V D) w w' ∧ V'.ownBlock = V.ownBlock
/-- The count raised. -/
theorem net_lost {w : World} {base g off nd : Nat} {T : TypeId} {cs : Array Value} {V : Value} {D : Option Nat} {L : List MsR} {dead : Int → Bool} {lost : Int} (hI : NetI w base g off T cs V D nd L dead lost) (n : Int) (h0 : 0 ≤ n) (h1 : n ≤ 1099511627776) :
    NetI (w.setCell ⟨g, off + 2, none⟩ (.int .i64 n)) base g off T (cs.setIfInBounds (off + 2) (.int .i64 n)) V D nd L dead n := by
  have hset := Fr.set1 g w (off + 2) (.int .i64 n)
  have hsz : off + 2 < cs.size := by
    have := hI.c2
    rcases Nat.lt_or_ge (off + 2) cs.size with h | h
    · exact h
    · rw [Array.getElem?_eq_none (by simpa using h)] at this; cases this
  refine ⟨hI.blk.set_ _ _, ?_, ?_, by simp [hsz], hset.own hI.row (fun b hb e => by subst e; exact own_blk_ne hI.row hI.blk (fun e => hI.ne.1 e.symm) hb), fun x hx => ⟨hset.own (hI.own x hx).1 (fun b hb e => by subst e; exact own_blk_ne (hI.own x hx).1 hI.blk (fun e => hI.ne.2 e.symm) hb), (hI.own x hx).2⟩, hI.down.fr hset (fun b hb e => by subst e; exact hI.down.notBlk hI.blk hb), hI.len, h0, h1, hI.ne, Nat.le_trans hI.bg hset.size⟩
  · rw [Array.getElem?_setIfInBounds_ne (by omega)]; exact hI.c0
  · rw [Array.getElem?_setIfInBounds_ne (by omega)]; exact hI.c1
set_option maxRecDepth 100000 in
set_option maxHeartbeats 2000000 in
theorem lose_yes (k : Nat) (hI : NetI w base g off T cs V D nd L dead lost) (hk : k < L.length) (hl : lost + 1 ≤ 1099511627776) :
    Calls Tryd.prog 28 #[.pointer (some ⟨g, off, none⟩), .int .i64 k] w (LoseYes base g off nd T cs V D L dead lost k w) := by
  have HI := Lib.hid hI; clear hI
  go_enter Tryd.func28, Tryd.ntmps28
  go_wp2_with fail
  refine (take_yes base g off nd T cs V D L dead lost k w HI.out hk).mono ?_
  rintro e w1 ⟨V', x, hx, rfl, hN, hO, hF, hV⟩
  have hb : ∀ o, NetI (w1.alloc o) base g off T (cs.setIfInBounds off V') V' D nd (L.eraseIdx k) dead lost := fun o => hN.fr ((Fr.refl (fun _ => False) _).alloc _) (fun h => h) (fun _ _ h => h) (fun _ _ h => h) (fun _ _ _ _ _ h => h)
  have c2 := fun o => ((hb o).blk.cell (off + 2)).trans (hb o).c2
  have f2 := fun o => (hb o).blk.frozen (off + 2)
  have hlo := hN.lo
  have hfin : ∀ o, LoseYes base g off nd T cs V D L dead lost k w (.returned .nilIface) ((w1.alloc o).setCell ⟨g, off + 2, none⟩ (.int .i64 (lost + 1))) := fun o =>
    ⟨V', rfl, net_lost (hb o) (lost + 1) (by omega) hl, (hF.alloc o).setCell (p := ⟨g, off + 2, none⟩) (.inl (.inl rfl)) _, hV⟩
  have HFIN := Lib.hid hfin; clear hfin hb hN hO hF hV hx HI
  unfold mrV msgV
  have c2' := c2 (.cells #[.int .i64 x.m.kind, .int .i64 x.m.from_, .int .i64 x.m.to_, .int .i64 x.m.epoch, .int .i64 x.m.n, .int .i64 x.m.cmd.kind, .int .i64 x.m.cmd.tx, .int .i64 x.m.cmd.time, .slice x.A x.n x.k] 26)
  have f2' := f2 (.cells #[.int .i64 x.m.kind, .int .i64 x.m.from_, .int .i64 x.m.to_, .int .i64 x.m.epoch, .int .i64 x.m.n, .int .i64 x.m.cmd.kind, .int .i64 x.m.cmd.tx, .int .i64 x.m.cmd.time, .slice x.A x.n x.k] 26)
  clear c2 f2
  go_wp2_with fail
  go_ret
  exact HFIN.out _
set_option maxRecDepth 100000 in
set_option maxHeartbeats 2000000 in
theorem lose_no (k : Int) (hI : NetI w base g off T cs V D nd L dead lost) (hk : k < 0 ∨ (L.length : Int) ≤ k) :
    Calls Tryd.prog 28 #[.pointer (some ⟨g, off, none⟩), .int .i64 k] w fun e w' => e = .returned rangeE ∧ Below w.heap.size w w' := by
  have HI := Lib.hid hI; clear hI
  have HK := Lib.hid hk; clear hk
  go_enter Tryd.func28, Tryd.ntmps28
  go_wp2_with fail
  refine (take_no base g off nd T cs V D L dead lost k w HI.out HK.out).mono ?_
  rintro e w1 ⟨rfl, hB⟩
  have hfin := fun o => hB.alloc hB.size o
  have HFIN := Lib.hid hfin; clear hfin
  unfold rangeE mrV msgV zmr
  go_wp2_with fail
  go_ret
  exact ⟨rfl, HFIN.out _⟩
end
end Go.Proofs.YtnahkpfamocnfaaDoor
