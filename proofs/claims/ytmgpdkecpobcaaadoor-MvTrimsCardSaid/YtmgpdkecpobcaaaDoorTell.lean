/- api.Tell, plain.Bare, chainmaillaw.bare at nil and at an api.Errno. -/
import Derived.Test.YtmgpdkecpobcaaaDoorErrAs
namespace Go.Proofs.YtmgpdkecpobcaaaDoor
open Go.RowKit
/-- errors.errorType holds the handle of the type error. -/
def Laid (w : World) : Prop := w.cell? ⟨0, 0, none⟩ = some (.iface 108 (.agg #[.pointer (some ⟨1, 33, none⟩)]))
theorem Laid.pos {w : World} (h : Laid w) : 0 < w.heap.size := World.block_lt_of_cell? w ⟨0, 0, none⟩ h
theorem Laid.below {B : Nat} {w w' : World} (h : Laid w) (hb : Below B w w') (hB : 0 < B) : Laid w' := (hb.cell (p := ⟨0, 0, none⟩) hB).trans h
theorem Laid.alloc {w : World} (h : Laid w) (o : Obj) : Laid (w.alloc o) := (World.cell?_alloc_lt w o ⟨0, 0, none⟩ h.pos).trans h
theorem Laid.fr {S : Nat → Prop} {w w' : World} (h : Laid w) (hf : Fr S w w') (hn : ¬ S 0) : Laid w' := (hf.cell (p := ⟨0, 0, none⟩) h.pos hn).trans h
/-- An error of this program: nil, or an Errno. -/
def errV (k : Int) : Value := if k = 0 then .nilIface else .iface 43 (.int .i64 k)
theorem errV_zero : errV 0 = .nilIface := by simp [errV]
theorem errV_ne {k : Int} (h : k ≠ 0) : errV k = .iface 43 (.int .i64 k) := by simp [errV, h]
theorem as_below (e : Int) (t : Addr) (w w' : World) (B : Nat) (hB : B ≤ w.heap.size) (ht : B ≤ t.block)
    (h : w' = ((((w.alloc (.cells #[.pointer (some t)] 77)).alloc (.cells #[.pointer (some ⟨1, 77, none⟩), .pointer (some ⟨w.heap.size, 0, none⟩), .int .u64 150] 90)).alloc (.cells #[.pointer (some ⟨1, 77, none⟩), .pointer (some ⟨w.heap.size, 0, none⟩), .int .u64 150] 90)).alloc (.cells #[.int .i64 e] 43)).setCell t (.int .i64 e)) : Below B w w' := by
  subst h
  exact (((((Below.refl _ _).alloc hB _).alloc (by simp; omega) _).alloc (by simp; omega) _).alloc (by simp; omega) _).setCell ht _
theorem as_cell (e : Int) (t : Addr) (old : Value) (w w' : World) (ht : w.cell? t = some old)
    (h : w' = ((((w.alloc (.cells #[.pointer (some t)] 77)).alloc (.cells #[.pointer (some ⟨1, 77, none⟩), .pointer (some ⟨w.heap.size, 0, none⟩), .int .u64 150] 90)).alloc (.cells #[.pointer (some ⟨1, 77, none⟩), .pointer (some ⟨w.heap.size, 0, none⟩), .int .u64 150] 90)).alloc (.cells #[.int .i64 e] 43)).setCell t (.int .i64 e)) : w'.cell? t = some (.int .i64 e) := by
  subst h
  have hl := World.block_lt_of_cell? w t ht
  have hc : ∀ o1 o2 o3 o4 : Obj, ((((w.alloc o1).alloc o2).alloc o3).alloc o4).cell? t = some old := fun o1 o2 o3 o4 => by
    rw [World.cell?_alloc_lt _ _ t (by simp; omega), World.cell?_alloc_lt _ _ t (by simp; omega), World.cell?_alloc_lt _ _ t (by simp; omega), World.cell?_alloc_lt _ _ t hl]
    exact ht
  exact World.cell?_setCell_same _ t _ (hc _ _ _ _)
set_option maxHeartbeats 400000 in
theorem tell_err (k : Int) (w : World) (hg : Laid w) : Calls Tryd.prog 12 #[.iface 43 (.int .i64 k)] w fun e w' => e = .returned (.int .i64 k) ∧ Below w.heap.size w w' := by
  have hg1 : (w.alloc (.cells #[.int .i64 0] 43)).cell? ⟨0, 0, none⟩ = some (.iface 108 (.agg #[.pointer (some ⟨1, 33, none⟩)])) := hg.alloc _
  have hc := as.as_hit k ⟨w.heap.size, 0, none⟩ (.int .i64 0) (w.alloc (.cells #[.int .i64 0] 43)) hg1 (by simp) (World.frozen?_alloc_at _ _ _ _ rfl)
  have HC := Lib.hid hc; clear hc hg1
  go_enter Tryd.func12, Tryd.ntmps12
  go_wp2_with fail
  refine HC.out.mono ?_
  rintro e w1 ⟨rfl, hw1⟩
  have hb := as_below _ _ _ _ w.heap.size (by simp) (Nat.le_refl _) hw1
  have hcell : w1.cell? ⟨w.heap.size, 0, none⟩ = some (.int .i64 k) := as_cell k ⟨w.heap.size, 0, none⟩ (.int .i64 0) _ _ (by simp) hw1
  clear hw1
  go_wp2_with fail
  go_ret
  exact ⟨rfl, ((Below.refl _ _).alloc (Nat.le_refl _) _).trans hb⟩
theorem tell_nil (w : World) : Calls Tryd.prog 12 #[.nilIface] w fun e w' => e = .returned (.int .i64 0) ∧ w = w' := by
  go_enter Tryd.func12, Tryd.ntmps12
  go_wp2_with fail
  go_ret
  exact ⟨rfl, rfl⟩
theorem assertAt (k : Int) (w : World) : (Instr.typeAssert (.iface 43 (.int .i64 k)) 33 99 true).run Tryd.prog w = .ok (.tuple #[.pointer none, .bool false]) w := by kernel_rfl
theorem assertUnwrap (k : Int) (w : World) : (Instr.typeAssert (.iface 43 (.int .i64 k)) 33 101 true).run Tryd.prog w = .ok (.tuple #[.nilIface, .bool false]) w := run_typeAssert_lacksB Tryd.underlying101 (by kernel_rfl) (by kernel_rfl) _ _ w
set_option maxRecDepth 100000 in
set_option maxHeartbeats 400000 in
theorem bare_err (k : Int) (w : World) (hg : Laid w) : Calls Tryd.prog 27 #[.iface 43 (.int .i64 k)] w fun e w' => e = .returned (.tuple #[.int .i64 k, .bool true]) ∧ Below w.heap.size w w' := by
  have HG := Lib.hid hg; clear hg
  have t1 := assertAt k
  have t2 := assertUnwrap k
  go_enter Tryd.func27, Tryd.ntmps27
  go_wp2_with fail
  refine (tell_err k w HG.out).mono ?_
  rintro e w1 ⟨rfl, hb⟩
  go_wp2_with fail
  refine wp_loop_rounds 1 ?_
  rw [rounds_succ]
  go_wp2_with fail
  go_ret2
  exact ⟨rfl, hb⟩
set_option maxRecDepth 100000 in
set_option maxHeartbeats 400000 in
theorem bare_nil (w : World) : Calls Tryd.prog 27 #[.nilIface] w fun e w' => e = .returned (.tuple #[.int .i64 0, .bool true]) ∧ Below w.heap.size w w' := by
  go_enter Tryd.func27, Tryd.ntmps27
  go_wp2_with fail
  refine (tell_nil w).mono ?_
  rintro e w1 ⟨rfl, rfl⟩
  go_wp2_with fail
  refine wp_loop_rounds 1 ?_
  rw [rounds_succ]
  go_wp2_with fail
  go_ret2
  exact ⟨rfl, Below.refl _ _⟩
/-- api.Tell of an error of this program. -/
theorem tell_any (k : Int) (w : World) (hg : Laid w) : Calls Tryd.prog 12 #[errV k] w fun e w' => e = .returned (.int .i64 k) ∧ Below w.heap.size w w' := by
  by_cases h : k = 0
  · subst h
    rw [errV_zero]
    refine (tell_nil w).mono ?_
    rintro e w1 ⟨rfl, rfl⟩
    exact ⟨rfl, Below.refl _ _⟩
  · rw [errV_ne h]
    exact tell_err k w hg
theorem Bare_any (k : Int) (w : World) (hg : Laid w) : Calls Tryd.prog 27 #[errV k] w fun e w' => e = .returned (.tuple #[.int .i64 k, .bool true]) ∧ Below w.heap.size w w' := by
  by_cases h : k = 0
  · subst h
    rw [errV_zero]
    exact bare_nil w
  · rw [errV_ne h]
    exact bare_err k w hg
set_option maxHeartbeats 400000 in
/-- chainmaillaw.bare: is the error this one? -/
theorem bare_any (k j : Int) (w : World) (hg : Laid w) : Calls Tryd.prog 13 #[errV k, .int .i64 j] w fun e w' => e = .returned (.bool (k == j)) ∧ Below w.heap.size w w' := by
  have HG := Lib.hid hg; clear hg
  generalize hv : errV k = v
  have HV := Lib.hid hv; clear hv
  go_enter Tryd.func13, Tryd.ntmps13
  go_wp2_with fail
  rw [← HV.out]
  refine (Bare_any k w HG.out).mono ?_
  rintro e w1 ⟨rfl, hb⟩
  go_wp2_with fail
  go_ret
  exact ⟨rfl, hb⟩
end Go.Proofs.YtmgpdkecpobcaaaDoor
