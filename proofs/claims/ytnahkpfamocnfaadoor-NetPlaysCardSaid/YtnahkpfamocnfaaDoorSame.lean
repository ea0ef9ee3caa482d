/- plain.Cmd, Begins, Log, Msg, of the same data. -/
import Derived.Test.YtnahkpfamocnfaaDoorReadL
import Derived.Test.YtnahkpfamocnfaaDoorRegion
import Derived.BigQuiet
import Derived.Deep.QuietTactic
namespace Go.Proofs.YtnahkpfamocnfaaDoor
open Go.RowKit
theorem below_drewN2 {B : Nat} {w w' : World} (h : Below B w w') (n : Nat) : Below B w (w'.drewN n) := ⟨h.os, h.tape, h.output, h.size, h.block⟩
def TrueP (w : World) (e : Ending) (w' : World) : Prop := e = .returned (.bool true) ∧ Below w.heap.size w w'
def UpRel (n : Nat) (w : World) (v : Value) (wr : World) : Prop := ∃ j : Nat, v = .int .i64 j ∧ j ≤ n ∧ Below w.heap.size w wr
set_option maxRecDepth 100000 in
set_option maxHeartbeats 2000000 in
theorem sameCmd (c : Cm) (B B' n k k' : Nat) (A A' : Option Addr) (w : World) (h : ReadsP w B A n c.writes) (h' : ReadsP w B' A' n c.writes) (hB : B ≤ w.heap.size) (hB' : B' ≤ w.heap.size) (hn : n ≤ 10000) :
    Calls Tryd.prog 49 #[cmdV c A n k, cmdV c A' n k'] w (TrueP w) := by
  unfold cmdV
  have H := Lib.hid h; clear h
  have H' := Lib.hid h'; clear h'
  have hb2 : Below w.heap.size w ((w.alloc (.cells #[.int .i64 c.kind, .int .i64 c.tx, .int .i64 c.time, .slice A n k] 24)).alloc (.cells #[.int .i64 c.kind, .int .i64 c.tx, .int .i64 c.time, .slice A' n k'] 24)) := ((Below.refl _ _).alloc (Nat.le_refl _) _).alloc (by simp) _
  have hx : Blk ((w.alloc (.cells #[.int .i64 c.kind, .int .i64 c.tx, .int .i64 c.time, .slice A n k] 24)).alloc (.cells #[.int .i64 c.kind, .int .i64 c.tx, .int .i64 c.time, .slice A' n k'] 24)) w.heap.size 24 #[.int .i64 c.kind, .int .i64 c.tx, .int .i64 c.time, .slice A n k] := (Blk.new w _ _).alloc _
  have hy : Blk ((w.alloc (.cells #[.int .i64 c.kind, .int .i64 c.tx, .int .i64 c.time, .slice A n k] 24)).alloc (.cells #[.int .i64 c.kind, .int .i64 c.tx, .int .i64 c.time, .slice A' n k'] 24)) (w.heap.size + 1) 24 #[.int .i64 c.kind, .int .i64 c.tx, .int .i64 c.time, .slice A' n k'] := by
    have := Blk.new (w.alloc (.cells #[.int .i64 c.kind, .int .i64 c.tx, .int .i64 c.time, .slice A n k] 24)) 24 #[.int .i64 c.kind, .int .i64 c.tx, .int .i64 c.time, .slice A' n k']
    simpa using this
  obtain ⟨w0, hw0⟩ : ∃ w0 : World, w0 = ((w.alloc (.cells #[.int .i64 c.kind, .int .i64 c.tx, .int .i64 c.time, .slice A n k] 24)).alloc (.cells #[.int .i64 c.kind, .int .i64 c.tx, .int .i64 c.time, .slice A' n k'] 24)) := ⟨_, rfl⟩
  rw [← hw0] at hx hy hb2
  have HX := Lib.hid hx; clear hx
  have HY := Lib.hid hy; clear hy
  have HB2 := Lib.hid hb2; clear hb2
  go_enter Tryd.func49, Tryd.ntmps49
  go_wp2_with fail
  rw [← hw0]
  clear hw0
  go_loopw [37] (UpRel n w0) (fun v _ => n - (intOf v).toNat)
  case atStart => exact ⟨0, rfl, Nat.zero_le _, Below.refl _ _⟩
  case round =>
    obtain ⟨j, rfl, hj, hbw⟩ := hrel
    have hbb : Below w.heap.size w wr := HB2.out.trans (hbw.mono HB2.out.size)
    have hsz := HB2.out.size
    have hgx := HX.out.lt
    have hgy := HY.out.lt
    have hwz := hbw.size
    by_cases hlt : (j : Int) < n
    · obtain ⟨g, off, p, hA, hg, hp, k0, k1, k2⟩ := H.out.at_ (k := j) (by omega)
      obtain ⟨g', off', p', hA', hg', hp', q0, q1, q2⟩ := H'.out.at_ (k := j) (by omega)
      rw [hp] at hp'
      obtain rfl : p = p' := Option.some.inj hp'
      have a0 := (hbb.cell (p := ⟨g, off + j * 3, none⟩) (by show g < _; omega)).trans k0
      have a1 := (hbb.cell (p := ⟨g, off + j * 3 + 1, none⟩) (by show g < _; omega)).trans k1
      have a2 := (hbb.cell (p := ⟨g, off + j * 3 + 2, none⟩) (by show g < _; omega)).trans k2
      have b0 := (hbb.cell (p := ⟨g', off' + j * 3, none⟩) (by show g' < _; omega)).trans q0
      have b1 := (hbb.cell (p := ⟨g', off' + j * 3 + 1, none⟩) (by show g' < _; omega)).trans q1
      have b2 := (hbb.cell (p := ⟨g', off' + j * 3 + 2, none⟩) (by show g' < _; omega)).trans q2
      have x3 := (HX.out.below hbw hgx).cell 3
      have y3 := (HY.out.below hbw hgy).cell 3
      have hgl : g < wr.heap.size := by omega
      have hgl' : g' < wr.heap.size := by omega
      have hgx' : w.heap.size < wr.heap.size := by omega
      have hgy' : w.heap.size + 1 < wr.heap.size := by omega
      simp only [List.getElem?_toArray, List.getElem?_cons_succ, List.getElem?_cons_zero] at x3 y3
      rw [hA] at x3
      rw [hA'] at y3
      clear k0 k1 k2 q0 q1 q2 hp hp' hA hA'
      go_wp2_with fail
      go_quiet (fail)
      go_wp2_with fail
      go_roundw
      case rel => exact ⟨j + 1, rfl, by omega, below_drewN2 hbw _⟩
      case measure => simp [intOf]; omega
    · go_wp2_with fail
      go_ret
      exact ⟨rfl, hbb⟩
set_option maxRecDepth 100000 in
set_option maxHeartbeats 2000000 in
theorem sameBegins (L L' : List CmR) (hcs : csOf L = csOf L') (B B' n k k' : Nat) (A A' : Option Addr) (w : World) (h : ReadsC w B A n L) (h' : ReadsC w B' A' n L') (hB : B ≤ w.heap.size) (hB' : B' ≤ w.heap.size) (hn : n ≤ 200000) (hs : ∀ x ∈ L, x.n ≤ 10000) :
    Calls Tryd.prog 50 #[.slice A n k, .slice A' n k'] w (TrueP w) := by
  have H := Lib.hid h; clear h
  have H' := Lib.hid h'; clear h'
  have HS := Lib.hid hs; clear hs
  have HCS := Lib.hid hcs; clear hcs
  go_enter Tryd.func50, Tryd.ntmps50
  go_wp2_with fail
  go_loopw [13] (UpRel n w) (fun v _ => n - (intOf v).toNat)
  case atStart => exact ⟨0, rfl, Nat.zero_le _, Below.refl _ _⟩
  case round =>
    obtain ⟨j, rfl, hj, hbw⟩ := hrel
    have hwz := hbw.size
    by_cases hlt : (j : Int) < n
    · obtain ⟨g, off, x, hA, hg, hx, k0, k1, k2, k3, hp⟩ := (H.out.below (hbw.mono hB)).at_ (k := j) (by omega)
      obtain ⟨g', off', x', hA', hg', hx', q0, q1, q2, q3, hp'⟩ := (H'.out.below (hbw.mono hB')).at_ (k := j) (by omega)
      have hxc : x'.c = x.c := by
        have e1 : (csOf L)[j]? = some x.c := by unfold csOf; rw [List.getElem?_map, hx]; rfl
        have e2 : (csOf L')[j]? = some x'.c := by unfold csOf; rw [List.getElem?_map, hx']; rfl
        rw [← HCS.out, e1] at e2
        exact (Option.some.inj e2).symm
      have hxn := HS.out x (List.mem_of_getElem? hx)
      have hnn : x'.n = x.n := by rw [← hp.1, ← hp'.1, hxc]
      rw [hxc] at q0 q1 q2 hp'
      rw [hnn] at q3 hp'
      have hgl : g < wr.heap.size := by omega
      have hgl' : g' < wr.heap.size := by omega
      rw [hA, hA']
      have hcall : ∀ w2, Below wr.heap.size wr w2 → Calls Tryd.prog 49 #[cmdV x.c x.A x.n x.k, cmdV x.c x'.A x.n x'.k] w2 (TrueP w2) := fun w2 hb2 =>
        sameCmd x.c B B' x.n x.k x'.k x.A x'.A w2 ⟨hp.1, hp.2.below (hb2.mono (by omega))⟩ ⟨hp'.1, hp'.2.below (hb2.mono (by omega))⟩ (by have := hb2.size; omega) (by have := hb2.size; omega) hxn
      unfold cmdV at hcall
      have HC := Lib.hid hcall; clear hcall hp hp' hx hx' hA hA'
      go_wp2_with fail
      have hS0 : Below wr.heap.size wr wr.drew := (Below.refl _ _).drew
      have hcar : ∀ w2, Below wr.heap.size wr w2 → (w2.cell? ⟨g, off + j * 4, none⟩ = some (.int .i64 x.c.kind) ∧ w2.cell? ⟨g, off + j * 4 + 1, none⟩ = some (.int .i64 x.c.tx) ∧ w2.cell? ⟨g, off + j * 4 + 2, none⟩ = some (.int .i64 x.c.time) ∧ w2.cell? ⟨g, off + j * 4 + 3, none⟩ = some (.slice x.A x.n x.k)) ∧
          (w2.cell? ⟨g', off' + j * 4, none⟩ = some (.int .i64 x.c.kind) ∧ w2.cell? ⟨g', off' + j * 4 + 1, none⟩ = some (.int .i64 x.c.tx) ∧ w2.cell? ⟨g', off' + j * 4 + 2, none⟩ = some (.int .i64 x.c.time) ∧ w2.cell? ⟨g', off' + j * 4 + 3, none⟩ = some (.slice x'.A x.n x'.k)) := fun w2 hb2 =>
        ⟨⟨(hb2.cell (p := ⟨g, off + j * 4, none⟩) hgl).trans k0, (hb2.cell (p := ⟨g, off + j * 4 + 1, none⟩) hgl).trans k1, (hb2.cell (p := ⟨g, off + j * 4 + 2, none⟩) hgl).trans k2, (hb2.cell (p := ⟨g, off + j * 4 + 3, none⟩) hgl).trans k3⟩,
          (hb2.cell (p := ⟨g', off' + j * 4, none⟩) hgl').trans q0, (hb2.cell (p := ⟨g', off' + j * 4 + 1, none⟩) hgl').trans q1, (hb2.cell (p := ⟨g', off' + j * 4 + 2, none⟩) hgl').trans q2, (hb2.cell (p := ⟨g', off' + j * 4 + 3, none⟩) hgl').trans q3⟩
      have HCAR := Lib.hid hcar; clear hcar k0 k1 k2 k3 q0 q1 q2 q3
      refine wp_region_any (by kernel_rfl) ?_
      change wpAny _ _ _ _ _ _ _ (World.drew _)
      refine rheld (fun w' => Below wr.heap.size wr w') ?_
      refine rtakeH 0 rfl (by kernel_rfl) (by kernel_rfl) (by kernel_rfl) (fun _ _ _ h => h) (by kernel_rfl) hS0 (fun w' hw' => by go_simp; rfl) ?_
      refine rtakeH 1 rfl (by kernel_rfl) (by kernel_rfl) (by kernel_rfl) (fun _ _ _ h => h) (by kernel_rfl) hS0 (fun w' hw' => by go_simp; rfl) ?_
      refine rtakeH 2 rfl (by kernel_rfl) (by kernel_rfl) (by kernel_rfl) (fun _ _ _ h => h) (by kernel_rfl) hS0 (fun w' hw' => by go_simp; rfl) ?_
      refine rtakeH 3 rfl (by kernel_rfl) (by kernel_rfl) (by kernel_rfl) (fun _ _ _ h => h) (by kernel_rfl) hS0 (fun w' hw' => by obtain ⟨⟨c0, c1, c2, c3⟩, d0, d1, d2, d3⟩ := HCAR.out w' hw'; go_simp; rfl) ?_
      refine rtakeH 4 rfl (by kernel_rfl) (by kernel_rfl) (by kernel_rfl) (fun _ _ _ h => h) (by kernel_rfl) hS0 (fun w' hw' => by go_simp; rfl) ?_
      refine rtakeH 5 rfl (by kernel_rfl) (by kernel_rfl) (by kernel_rfl) (fun _ _ _ h => h) (by kernel_rfl) hS0 (fun w' hw' => by go_simp; rfl) ?_
      refine rtakeH 6 rfl (by kernel_rfl) (by kernel_rfl) (by kernel_rfl) (fun _ _ _ h => h) (by kernel_rfl) hS0 (fun w' hw' => by go_simp; rfl) ?_
      refine rtakeH 7 rfl (by kernel_rfl) (by kernel_rfl) (by kernel_rfl) (fun _ _ _ h => h) (by kernel_rfl) hS0 (fun w' hw' => by obtain ⟨⟨c0, c1, c2, c3⟩, d0, d1, d2, d3⟩ := HCAR.out w' hw'; go_simp; rfl) ?_
      refine ronlyH 8 (by kernel_rfl) rfl (by kernel_rfl) (fun K hK => ?_)
      go_simp
      refine (HC.out wr.drew hS0).mono ?_
      rintro e w9 ⟨rfl, hb9⟩
      have hS9 : Below wr.heap.size wr w9 := hS0.trans (hb9.mono hS0.size)
      go_simp
      refine hK _ _ hS9 ?_
      clear hK K
      refine rtakeH 9 rfl (by kernel_rfl) (by kernel_rfl) (by kernel_rfl) (fun _ _ _ h => h) (by kernel_rfl) hS9 (fun w' hw' => by go_simp; rfl) ?_
      refine wpAnyH_done (by kernel_rfl) ?_ _
      go_wp2_with fail
      go_roundw
      case rel => exact ⟨j + 1, rfl, by omega, hbw.trans (hS9.mono hwz)⟩
      case measure => simp [intOf]; omega
    · go_wp2_with fail
      go_ret
      exact ⟨rfl, hbw⟩
set_option maxRecDepth 100000 in
set_option maxHeartbeats 2000000 in
theorem sameLog (L L' : List CmR) (hcs : csOf L = csOf L') (B B' n k k' : Nat) (A A' : Option Addr) (w : World) (h : ReadsC w B A n L) (h' : ReadsC w B' A' n L') (hB : B ≤ w.heap.size) (hB' : B' ≤ w.heap.size) (hn : n ≤ 200000) (hs : ∀ x ∈ L, x.n ≤ 10000) :
    Calls Tryd.prog 23 #[.slice A n k, .slice A' n k'] w (TrueP w) := by
  have hc := sameBegins L L' hcs B B' n k k' A A' w h h' hB hB' hn hs
  have HC := Lib.hid hc; clear hc
  go_enter Tryd.func23, Tryd.ntmps23
  go_wp2_with fail
  refine HC.out.mono ?_
  rintro e w9 ⟨rfl, hb9⟩
  go_wp2_with fail
  go_ret
  exact ⟨rfl, hb9⟩
set_option maxRecDepth 100000 in
set_option maxHeartbeats 2000000 in
theorem sameMsg (m : Ms) (B B' n k k' : Nat) (A A' : Option Addr) (w : World) (h : ReadsP w B A n m.cmd.writes) (h' : ReadsP w B' A' n m.cmd.writes) (hB : B ≤ w.heap.size) (hB' : B' ≤ w.heap.size) (hn : n ≤ 10000) :
    Calls Tryd.prog 22 #[msgV m A n k, msgV m A' n k'] w (TrueP w) := by
  unfold msgV
  have hb2 : ∀ o1 o2, Below w.heap.size w ((w.alloc o1).alloc o2) := fun o1 o2 => ((Below.refl _ _).alloc (Nat.le_refl _) _).alloc (by simp) _
  have hcall : ∀ o1 o2, Calls Tryd.prog 49 #[cmdV m.cmd A n k, cmdV m.cmd A' n k'] ((w.alloc o1).alloc o2) (TrueP ((w.alloc o1).alloc o2)) := fun o1 o2 =>
    sameCmd m.cmd B B' n k k' A A' _ ⟨h.1, h.2.below ((hb2 o1 o2).mono hB)⟩ ⟨h'.1, h'.2.below ((hb2 o1 o2).mono hB')⟩ (Nat.le_trans hB (hb2 o1 o2).size) (Nat.le_trans hB' (hb2 o1 o2).size) hn
  unfold cmdV at hcall
  have HC := Lib.hid hcall; clear hcall h h'
  have HB := Lib.hid hb2; clear hb2
  go_enter Tryd.func22, Tryd.ntmps22
  go_wp2_with fail
  refine (HC.out _ _).mono ?_
  rintro e w9 ⟨rfl, hb9⟩
  have hbb := (HB.out _ _).trans (hb9.mono (HB.out _ _).size)
  go_wp2_with fail
  go_ret
  exact ⟨rfl, hbb⟩
end Go.Proofs.YtnahkpfamocnfaaDoor
