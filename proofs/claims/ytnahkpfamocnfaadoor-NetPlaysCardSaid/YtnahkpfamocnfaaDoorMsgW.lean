/- wire.Msg and chainmailref.Msg: what they write, or what is wrong. -/
import Derived.Test.YtnahkpfamocnfaaDoorWriter3
import Derived.Test.YtnahkpfamocnfaaDoorRegion
import Derived.Test.YtnahkpfamocnfaaDoorTell
namespace Go.Proofs.YtnahkpfamocnfaaDoor
open Go.RowKit
def outS (st : St) : St := if st.2 ≠ 0 then ([], st.2) else st
theorem outS_zero {st : St} (h : st.2 = 0) : outS st = (st.1, 0) := by unfold outS; rw [if_neg (by simpa using h), ← h]
theorem outS_ne {st : St} (h : st.2 ≠ 0) : outS st = ([], st.2) := by unfold outS; rw [if_pos h]
/-- What is handed back: the bytes' slice in new memory, the error as E says. -/
def OutPost (E : Int → Value) (r : St) (w : World) (e : Ending) (w' : World) : Prop :=
  ∃ A c, e = .returned (.tuple #[.slice A r.1.length c, E r.2]) ∧ Rd w' w'.heap.size 1 A r.1.length (r.1.map bv) ∧ ((∀ g off, A = some ⟨g, off, none⟩ → w.heap.size ≤ g) ∧ r.1.length ≤ c) ∧ Below w.heap.size w w'
def DonePost (v : Value) (st : St) (w : World) (e : Ending) (w' : World) : Prop :=
  e = .returned (.tuple #[if st.2 ≠ 0 then .slice none 0 0 else v, errV st.2]) ∧ Below w.heap.size w w'
set_option maxRecDepth 100000 in
set_option maxHeartbeats 1000000 in
theorem done_any (base p : Nat) (v : Value) (st : St) (w : World) (hW : Wr 93 w base p v st) :
    Calls Tryd.prog 39 #[.pointer (some ⟨p, 0, none⟩)] w (DonePost v st w) := by
  have hc0 := hW.c0
  have hc1 := hW.c1
  clear hW
  by_cases h : st.2 = 0
  · have d1 : (st.2 == 0) = true := by simpa using h
    have d2 : (st.2 != 0) = false := by simpa using h
    have hf : DonePost v st w (.returned (.tuple #[v, .nilIface])) w := ⟨by rw [if_neg (by simpa using h), h, errV_zero], Below.refl _ _⟩
    have HF := Lib.hid hf; clear hf h
    go_enter Tryd.func39, Tryd.ntmps39
    go_wp2_with fail
    go_ret2
    exact HF.out
  · have d1 : (st.2 == 0) = false := by simpa using h
    have d2 : (st.2 != 0) = true := by simpa using h
    have hf : DonePost v st w (.returned (.tuple #[.slice none 0 0, .iface 29 (.int .i64 st.2)])) w.drew := ⟨by rw [if_pos h, errV_ne h], (Below.refl _ _).drew⟩
    have HF := Lib.hid hf; clear hf h
    go_enter Tryd.func39, Tryd.ntmps39
    go_wp2_with fail
    refine wp_region_any (by kernel_rfl) ?_
    change wpAny _ _ _ _ _ _ _ (World.drew _)
    refine rtake 5 rfl (by kernel_rfl) (by kernel_rfl) (by kernel_rfl) (fun _ _ _ h => h) (by kernel_rfl) (fun w => by go_simp; rfl) ?_
    refine rtake 0 rfl (by kernel_rfl) (by kernel_rfl) (by kernel_rfl) (fun _ _ _ h => h) (by kernel_rfl) (fun w => by go_simp; rfl) ?_
    refine rtake 1 rfl (by kernel_rfl) (by kernel_rfl) (by kernel_rfl) (fun _ _ _ h => h) (by kernel_rfl) (fun w => by go_simp; rfl) ?_
    refine rtake 2 rfl (by kernel_rfl) (by kernel_rfl) (by kernel_rfl) (fun _ _ _ h => h) (by kernel_rfl) (fun w => by go_simp; rfl) ?_
    refine ronly 3 (by kernel_rfl) rfl (by kernel_rfl) (fun K hK => ?_)
    go_simp
    refine hK _ _ ?_
    clear hK K
    refine ronly 4 (by kernel_rfl) rfl (by kernel_rfl) (fun K hK => ?_)
    go_simp
    refine hK _ _ ?_
    clear hK K
    refine ronly 6 (by kernel_rfl) rfl (by kernel_rfl) (fun K hK => ?_)
    go_simp
    refine hK _ _ ?_
    clear hK K
    refine wpAny_done (by kernel_rfl) ?_ _
    go_wp2_with fail
    go_ret2
    exact HF.out
end Go.Proofs.YtnahkpfamocnfaaDoor
