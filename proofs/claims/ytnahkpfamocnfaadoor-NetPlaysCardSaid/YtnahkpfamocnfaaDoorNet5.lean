/- net.Twice. -/
import Derived.Test.YtnahkpfamocnfaaDoorNet4
namespace Go.Proofs.YtnahkpfamocnfaaDoor
open Go.RowKit
def errnoV (k : Int) : Value := .iface 29 (.int .i64 k)
def TwiceYes (base g off nd : Nat) (T : TypeId) (cs : Array Value) (V : Value) (D : Option Nat) (L : List MsR) (dead : Int → Bool) (lost : Int) (x : MsR) (w : World) (e : Ending) (w' : World) : Prop :=
  ∃ V' L' lost', e = .returned .nilIface ∧ NetI w' base g off T ((cs.setIfInBounds off V').setIfInBounds (off + 2) (.int .i64 lost')) V' D nd L' dead lost' ∧ sendS ⟨msOf L, dead, lost⟩ x.m = ⟨msOf L', dead, lost'⟩ ∧ Fr (NetB g V D) w w' ∧ (V'.ownBlock = V.ownBlock ∨ ∃ b, V'.ownBlock = some b ∧ w.heap.size ≤ b)
section
variable (base g off nd : Nat) (T : TypeId) (cs : Array Value) (V : Value) (D : Option Nat) (L : List MsR) (dead : Int → Bool) (lost : Int) (w : World)
set_option maxRecDepth 100000 in
set_option maxHeartbeats 2000000 in
theorem twice_no (k : Int) (hI : NetI w base g off T cs V D nd L dead lost) (hk : k < 0 ∨ (L.length : Int) ≤ k) :
    Calls Tryd.prog 29 #[.pointer (some ⟨g, off, none⟩), .int .i64 k] w fun e w' => e = .returned (errnoV 2) ∧ w = w' := by
  obtain ⟨A', c', hV', hc', hA'⟩ := own_slice hI.row
  have c0 := (hI.blk.cell off).trans hI.c0
  rw [hV'] at c0
  clear hI hV'
  unfold errnoV
  by_cases h0 : k < 0
  · clear hk
    go_enter Tryd.func29, Tryd.ntmps29
    go_wp2_with fail
    go_ret
    exact ⟨rfl, rfl⟩
  · have h1 : (L.length : Int) ≤ k := by omega
    clear hk
    go_enter Tryd.func29, Tryd.ntmps29
    go_wp2_with fail
    go_ret
    exact ⟨rfl, rfl⟩
set_option maxRecDepth 100000 in
set_option maxHeartbeats 2000000 in
theorem twice_full (k : Nat) (hI : NetI w base g off T cs V D nd L dead lost) (hk : k < L.length) (hL : L.length = 200) :
    Calls Tryd.prog 29 #[.pointer (some ⟨g, off, none⟩), .int .i64 k] w fun e w' => e = .returned (errnoV 4) ∧ w = w' := by
  obtain ⟨A', c', hV', hc', hA'⟩ := own_slice hI.row
  have c0 := (hI.blk.cell off).trans hI.c0
  rw [hV'] at c0
  clear hI hV'
  rw [hL] at c0 hk
  unfold errnoV
  have hk0 : ¬ (k : Int) < 0 := by omega
  have hk1 : (k : Int) < 200 := by omega
  clear hL hc'
  go_enter Tryd.func29, Tryd.ntmps29
  go_wp2_with fail
  go_ret
  exact ⟨rfl, rfl⟩
set_option maxRecDepth 100000 in
set_option maxHeartbeats 2000000 in
theorem twice_yes (k : Nat) (x : MsR) (hI : NetI w base g off T cs V D nd L dead lost) (hx : L[k]? = some x) (hL : L.length < 200) (hl : lost + 1 ≤ 1099511627776) (hwf : okI x.m.from_ ∧ okI x.m.to_ ∧ x.n ≤ 100000) :
    Calls Tryd.prog 29 #[.pointer (some ⟨g, off, none⟩), .int .i64 k] w (TwiceYes base g off nd T cs V D L dead lost x w) := by
  have hk : k < L.length := (List.getElem?_eq_some_iff.1 hx).1
  obtain ⟨gv, cap, hV, hbv, hlv⟩ := own_at hI.row (by omega)
  have hrd := Rd.of_own (by rw [← hV]; exact hI.row : w.ownsRow base 26 9 (.slice (some ⟨gv, 0, none⟩) L.length cap) L.length (L.flatMap mrCells))
  obtain ⟨g', o', x', hA, _, hx', h0, h1, h2, h3, h4, h5, h6, h7, h8⟩ := hrd.cells9 rfl hk
  simp only [Option.some.injEq, Addr.mk.injEq, and_true] at hA
  obtain ⟨rfl, rfl⟩ := hA
  rw [hx] at hx'
  obtain rfl := Option.some.inj hx'
  rw [Nat.zero_add] at h0 h1 h2 h3 h4 h5 h6 h7 h8
  have c0 := (hI.blk.cell off).trans hI.c0
  rw [hV] at c0
  have hne : ((L.length : Int) == 200) = false := by simpa using (by omega : ¬ (L.length : Int) = 200)
  have hw1 : Fr (fun _ => False) w (w.alloc (.cells (msgCells x.m x.A x.n x.k) 26)) := (Fr.refl _ _).alloc _
  have hI1 := hI.fr hw1 (fun h => h) (fun _ _ h => h) (fun _ _ h => h) (fun _ _ _ _ _ h => h)
  have hrl := Rd.lit w (msgCells x.m x.A x.n x.k) 26 1 9 rfl
  have hOx := hI.own x (List.mem_of_getElem? hx)
  have hOx1 := hw1.own hOx.1 (fun _ _ h => h)
  have hrm : ReadsM (w.alloc (.cells (msgCells x.m x.A x.n x.k) 26)) (NetB g V D) (some ⟨w.heap.size, 0, none⟩) 1 [x] := by
    refine ⟨rfl, by have := hrl.more (B' := (w.alloc (.cells (msgCells x.m x.A x.n x.k) 26)).heap.size) (by simp); simpa [mrCells] using this, fun b o e _ => ?_, fun y hy => ?_⟩
    · simp only [Option.some.injEq, Addr.mk.injEq, and_true] at e
      obtain ⟨rfl, rfl⟩ := e
      rintro (h | h | h)
      · have := hI.blk.lt; omega
      · have := hI.vlt h.symm; omega
      · have := hI.down; rw [← h] at this; have := this.lt; omega
    · rw [List.mem_singleton.1 hy]
      refine ⟨⟨hOx.2, Rd.of_own hOx1⟩, fun b o e _ => ?_⟩
      have hob : Value.ownBlock (.slice x.A x.n x.k) = some b := by rw [e]; rfl
      rintro (h | h | h)
      · subst h; exact own_blk_ne hOx1 hI1.blk (fun e => hI.ne.2 e.symm) hob
      · exact own_apart hOx1 hI1.row (by decide) hob h.symm
      · exact hI1.down.notOwn hOx1 h.symm hob
  have hxk : x.A = none → x.k = 0 := fun e => by
    rcases hOx.1.2 with ⟨h, _⟩ | ⟨_, _, _, h, _⟩
    · injection h
    · rw [e] at h; cases h
  have hsend := send_any base g off nd 1 1 T cs V D L dead lost (some ⟨w.heap.size, 0, none⟩) [x] _ hI1 hrm (by omega) (by omega) (fun y hy => by rw [List.mem_singleton.1 hy]; exact ⟨hwf.1, hwf.2.1, hwf.2.2, hxk⟩)
  unfold msgCells at hsend hw1
  have HS := Lib.hid hsend; clear hsend
  have HW := Lib.hid hw1; clear hw1
  have hkl : (k : Int) < L.length := by omega
  have hk0 : ¬ (k : Int) < 0 := by omega
  clear hI hI1 hrm hrl hOx hOx1 hxk hrd hV hwf hx
  go_enter Tryd.func29, Tryd.ntmps29
  go_wp2_with fail
  refine HS.out.mono ?_
  rintro e w2 ⟨V', L', lost', d, rfl, _, hN, hs, hF, hVV⟩
  have hfin : TwiceYes base g off nd T cs V D L dead lost x w (.returned .nilIface) w2 := ⟨V', L', lost', rfl, hN, hs, (HW.out.mono (T := NetB g V D) (fun i _ h => h.elim)).trans' hF (fun i _ h => h), by
    rcases hVV with h | ⟨b, h, hb⟩
    · exact .inl h
    · exact .inr ⟨b, h, Nat.le_trans HW.out.size hb⟩⟩
  have HFIN := Lib.hid hfin; clear hfin hN hs hF hVV
  go_wp2_with fail
  go_ret
  exact HFIN.out
end
end Go.Proofs.YtnahkpfamocnfaaDoor
