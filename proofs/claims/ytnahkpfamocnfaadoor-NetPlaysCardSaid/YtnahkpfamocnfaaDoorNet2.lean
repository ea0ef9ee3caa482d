/- slices.Delete of one message; net.Take, Lose. -/
import Derived.Test.YtnahkpfamocnfaaDoorNet1
import Derived.Test.YtnahkpfamocnfaaDoorRowOps
import Derived.Laws.ResultCell
import Derived.Deep.DeepCutAuto
namespace Go.Proofs.YtnahkpfamocnfaaDoor
open Go.RowKit
theorem elem_msg : Tryd.prog.elem 68 = 26 := by kernel_rfl
theorem und_msgs : Tryd.prog.underlying 68 = some (.slice (Tryd.prog.elem 68)) := by rw [elem_msg]; exact Tryd.underlying68
theorem size_msg (w : World) : (sizeOf (Tryd.prog.elem 68)).run Tryd.prog w = .ok 9 w := by rw [elem_msg]; kernel_rfl
def zmsgV : Value := .agg #[.int .i64 0, .int .i64 0, .int .i64 0, .int .i64 0, .int .i64 0, .int .i64 0, .int .i64 0, .int .i64 0, .slice none 0 0]
theorem zero_msg (w : World) : (zeroValue 26).run Tryd.prog w = .ok zmsgV w := by kernel_rfl
theorem mrs_one (l : List MsR) : ∀ u ∈ l.flatMap mrCells, u.oneCell' = true := fun u hu => by
  obtain ⟨p, _, hp⟩ := List.mem_flatMap.1 hu
  simp only [mrCells, msgCells, List.mem_cons, List.not_mem_nil, or_false] at hp
  rcases hp with rfl | rfl | rfl | rfl | rfl | rfl | rfl | rfl | rfl <;> rfl
def DelP (base gv n cap : Nat) (xs : List Value) (w : World) (e : Ending) (w' : World) : Prop :=
  e = .returned (.slice (some ⟨gv, 0, none⟩) n cap) ∧ w'.ownsRow base 26 9 (.slice (some ⟨gv, 0, none⟩) n cap) n xs ∧ Fr (fun k => k = gv) w w'
set_option maxRecDepth 100000 in
set_option maxHeartbeats 1000000 in
theorem delete_any (base gv n cap k : Nat) (xs : List Value) (w : World) (h : w.ownsRow base 26 9 (.slice (some ⟨gv, 0, none⟩) n cap) n xs) (hk : k < n) (hn : n ≤ 100000) (h1 : ∀ u ∈ xs, u.oneCell' = true) :
    Calls Tryd.prog 53 #[.slice (some ⟨gv, 0, none⟩) n cap, .int .i64 k, .int .i64 ((k : Int) + 1)] w (DelP base gv (n - 1) cap (xs.take (k * 9) ++ xs.drop ((k + 1) * 9)) w) := by
  have hcap := (own_cap h).1
  obtain ⟨i, hi, _, hsize, _⟩ := info_parts msg_info
  have hone : ((k : Int) == (k : Int) + 1) = false := by simpa using (by omega : ¬ (k : Int) = (k : Int) + 1)
  have s1 := fun w => slice_toG (size := 9) 68 und_msgs size_msg w gv n cap k (k : Int) rfl (by omega)
  have s2 := fun w => slice_fromG (size := 9) 68 und_msgs size_msg w gv n cap (k + 1) ((k : Int) + 1) (by omega) (by omega)
  obtain ⟨w1, hap, hrow, hf⟩ := run_cutOut (w := w.drew) 68 68 i Tryd.underlying68 hi hsize h h1 (a := k) (b := k + 1) (by omega) (by omega)
  have hkn : k + (n - (k + 1)) = n - 1 := by omega
  rw [hkn] at hap hrow
  have hf : Fr (fun k => k = gv) w w1 := ⟨hf.os, hf.tape, hf.output, hf.size, hf.block⟩
  obtain ⟨w2, hcl, hrow2, hf2⟩ := run_clear_rest 68 zmsgV Tryd.underlying68 zero_msg (by rfl) (by decide) hrow (m := n - (n - 1)) (c := cap - (n - 1)) (by omega)
  have s3 := fun w => slice_midG (size := 9) 68 und_msgs size_msg w gv (n - 1) cap (n - 1) n ((n - 1 : Nat) : Int) (n : Int) rfl rfl (by omega) (by omega)
  have hfin : DelP base gv (n - 1) cap (xs.take (k * 9) ++ xs.drop ((k + 1) * 9)) w (.returned (.slice (some ⟨gv, 0, none⟩) (n - 1) cap)) w2 := ⟨rfl, hrow2, hf.trans hf2⟩
  have HFIN := Lib.hid hfin; clear hfin hrow hrow2 hf hf2 h
  have hkn1 : (k : Int) + 1 ≤ n := by omega
  go_enter Tryd.func53, Tryd.ntmps53
  go_wp2_with fail
  refine wp_region_any (by kernel_rfl) ?_
  change wpAny _ _ _ _ _ _ _ (World.drew _)
  refine rtake 0 rfl (by kernel_rfl) (by kernel_rfl) (by kernel_rfl) (fun _ _ _ h => h) (by kernel_rfl) (fun w => by go_simp; rfl) ?_
  refine rtake 1 rfl (by kernel_rfl) (by kernel_rfl) (by kernel_rfl) (fun _ _ _ h => h) (by kernel_rfl) (fun w => by go_simp; rfl) ?_
  refine rtake 2 rfl (by kernel_rfl) (by kernel_rfl) (by kernel_rfl) (fun _ _ _ h => h) (by kernel_rfl) (fun w => by have := s1 w; go_simp; rfl) ?_
  refine rtake 3 rfl (by kernel_rfl) (by kernel_rfl) (by kernel_rfl) (fun _ _ _ h => h) (by kernel_rfl) (fun w => by go_simp; rfl) ?_
  refine rtake 4 rfl (by kernel_rfl) (by kernel_rfl) (by kernel_rfl) (fun _ _ _ h => h) (by kernel_rfl) (fun w => by go_simp; rfl) ?_
  refine rtake 5 rfl (by kernel_rfl) (by kernel_rfl) (by kernel_rfl) (fun _ _ _ h => h) (by kernel_rfl) (fun w => by have := s2 w; go_simp; rfl) ?_
  refine ronly 6 (by kernel_rfl) rfl (by kernel_rfl) (fun K hK => ?_)
  refine wp_append_run (.tmp 22) (.tmp 25) 68 rfl _ _ _ rfl rfl hap ?_
  go_simp
  refine hK _ _ ?_
  clear hK K
  refine ronly 7 (by kernel_rfl) rfl (by kernel_rfl) (fun K hK => ?_)
  go_simp
  refine hK _ _ ?_
  clear hK K
  refine wpAny_done (by kernel_rfl) ?_ _
  have := s3 w1
  go_wp2_with fail
  go_ret
  exact HFIN.out
end Go.Proofs.YtnahkpfamocnfaaDoor
