/- A region that draws its order, walked operation by operation: what is taken first, what stands alone, what is branched over. -/
import Derived.Test.YtmgpdkecpobcaaaDoorFrame
import Derived.OrdersHeld
import Derived.RegionTactic
namespace Go.Proofs.YtmgpdkecpobcaaaDoor
open Go.RowKit
section
variable {P : Program} {ops : Array Oper} {Q : Exit → Act → World → Prop} {md : Region.Mode}
theorem rtake (i : Nat) {oi : Oper} {v : Value} {fuel : Nat} {listed : Array Bool} {a : Act} {w : World} (hi : ops[i]? = some oi)
    (hs : Region.noSelect ops = true) (hf : Region.free md ops listed i = true) (hr : (Region.ready md ops listed).contains i = true)
    (hQ : ∀ c a w, Q (.panic c) (a.put oi.dst v) w → Q (.panic c) a w) (hw : Region.wanted oi (yielded ops a.tmps) = true)
    (hy : ∀ w, (execOp a.eval oi).run P w = .ok (.value v) w)
    (h : wpAny P md ops Q fuel (listed.setIfInBounds i true) (a.put oi.dst v) w) : wpAny P md ops Q (fuel + 1) listed a w :=
  wpAny_take hi hs hf hr hQ (.inl ⟨hw, hy⟩) h
theorem ronly (i : Nat) {o : Oper} {fuel : Nat} {listed : Array Bool} {a : Act} {w : World} (hr : Region.ready md ops listed = [i]) (ho : ops[i]? = some o)
    (hw : Region.wanted o (yielded ops a.tmps) = true) (h : ∀ K' : Act → World → Prop, (∀ a w, wpAny P md ops Q fuel (listed.setIfInBounds i true) a w → K' a w) → Oper.wp P o a w K' Q) : wpAny P md ops Q (fuel + 1) listed a w :=
  wpAny_ready hr (by simp) (AllReady.cons ho (fun K' hK => by rw [if_pos hw]; exact h K' hK) AllReady.nil)
/-- The operation's guard is shut: nothing is done. -/
theorem rskip (i : Nat) {oi : Oper} {fuel : Nat} {listed : Array Bool} {a : Act} {w : World} (hi : ops[i]? = some oi)
    (hs : Region.noSelect ops = true) (hf : Region.free md ops listed i = true) (hr : (Region.ready md ops listed).contains i = true)
    (hQ : ∀ c a w, Q (.panic c) (a.put oi.dst undef) w → Q (.panic c) a w) (hw : Region.wanted oi (yielded ops a.tmps) = false)
    (h : wpAny P md ops Q fuel (listed.setIfInBounds i true) (a.put oi.dst undef) w) : wpAny P md ops Q (fuel + 1) listed a w :=
  wpAny_take hi hs hf hr hQ (.inr ⟨hw, rfl⟩) h
/-- Two may come up. -/
theorem rtwo (i j : Nat) {o o' : Oper} {fuel : Nat} {listed : Array Bool} {a : Act} {w : World} (hr : Region.ready md ops listed = [i, j]) (ho : ops[i]? = some o) (ho' : ops[j]? = some o')
    (hw : Region.wanted o (yielded ops a.tmps) = true) (hw' : Region.wanted o' (yielded ops a.tmps) = true)
    (h : ∀ K' : Act → World → Prop, (∀ a w, wpAny P md ops Q fuel (listed.setIfInBounds i true) a w → K' a w) → Oper.wp P o a w K' Q)
    (h' : ∀ K' : Act → World → Prop, (∀ a w, wpAny P md ops Q fuel (listed.setIfInBounds j true) a w → K' a w) → Oper.wp P o' a w K' Q) : wpAny P md ops Q (fuel + 1) listed a w :=
  wpAny_ready hr (by simp) (AllReady.cons ho (fun K' hK => by rw [if_pos hw]; exact h K' hK) (AllReady.cons ho' (fun K' hK => by rw [if_pos hw']; exact h' K' hK) AllReady.nil))
theorem ronlyH {S : World → Prop} (i : Nat) {o : Oper} {fuel : Nat} {listed : Array Bool} {a : Act} {w : World} (hr : Region.ready md ops listed = [i]) (ho : ops[i]? = some o)
    (hw : Region.wanted o (yielded ops a.tmps) = true) (h : ∀ K' : Act → World → Prop, (∀ a w, S w → wpAnyH P md ops Q S fuel (listed.setIfInBounds i true) a w → K' a w) → Oper.wp P o a w K' Q) : wpAnyH P md ops Q S (fuel + 1) listed a w :=
  wpAnyH_all hr (by simp) (fun j hj => by
    obtain rfl : j = i := by simpa using hj
    exact wpOp_step ho (fun K' hK => by rw [if_pos hw]; exact h K' (fun a w hs ha => hK a w ⟨hs, ha⟩)))
theorem rtakeH {S : World → Prop} (i : Nat) {oi : Oper} {v : Value} {fuel : Nat} {listed : Array Bool} {a : Act} {w : World} (hi : ops[i]? = some oi)
    (hs : Region.noSelect ops = true) (hf : Region.free md ops listed i = true) (hr : (Region.ready md ops listed).contains i = true)
    (hQ : ∀ c a w, Q (.panic c) (a.put oi.dst v) w → Q (.panic c) a w) (hw : Region.wanted oi (yielded ops a.tmps) = true) (hS : S w)
    (hy : ∀ w, S w → (execOp a.eval oi).run P w = .ok (.value v) w)
    (h : wpAnyH P md ops Q S fuel (listed.setIfInBounds i true) (a.put oi.dst v) w) : wpAnyH P md ops Q S (fuel + 1) listed a w :=
  wpAnyH_take hi hs hf hr hQ (.inl ⟨hw, hy⟩) hS h
/-- Two may come up, i that yields its value in every world that meets S, and j that keeps S: i first. -/
theorem rpair (S : World → Prop) (i j : Nat) {oi oj : Oper} {v : Value} {fuel : Nat} {listed : Array Bool} {a : Act} {w : World}
    (hr : Region.ready md ops listed = [i, j] ∨ Region.ready md ops listed = [j, i]) (hr1 : Region.ready md ops (listed.setIfInBounds i true) = [j]) (hr2 : Region.ready md ops (listed.setIfInBounds j true) = [i])
    (hi : ops[i]? = some oi) (hj : ops[j]? = some oj) (hs : Region.noSelect ops = true) (hap : oi.apart ops oj = true) (hne : i ≠ j)
    (hQ : ∀ c a w, Q (.panic c) (a.put oi.dst v) w → Q (.panic c) a w) (hw : Region.wanted oi (yielded ops a.tmps) = true) (hwj : Region.wanted oj (yielded ops (a.put oi.dst v).tmps) = true) (hS : S w)
    (hy : ∀ w, S w → (execOp a.eval oi).run P w = .ok (.value v) w)
    (h : ∀ K' : Act → World → Prop, (∀ a w, S w → wpAny P md ops Q fuel ((listed.setIfInBounds i true).setIfInBounds j true) a w → K' a w) → Oper.wp P oj (a.put oi.dst v) w K' Q) : wpAny P md ops Q (fuel + 2) listed a w := by
  have hyi : YieldsIf P ops S oi v a := .inl ⟨hw, hy⟩
  have hstep : wpOp P ops Q j (fun a' w' => S w' ∧ wpAny P md ops Q fuel ((listed.setIfInBounds i true).setIfInBounds j true) a' w') (a.put oi.dst v) w :=
    wpOp_step hj (fun K' hK => by rw [if_pos hwj]; exact h K' (fun a w hs ha => hK a w ⟨hs, ha⟩))
  have h1 : wpAny P md ops Q (fuel + 1) (listed.setIfInBounds i true) (a.put oi.dst v) w :=
    wpAny_all hr1 (by simp) (fun k hk => by
      obtain rfl : k = j := by simpa using hk
      exact wpOp_mono (fun _ _ h => h.2) hstep)
  have h2 : wpOp P ops Q j (wpAny P md ops Q (fuel + 1) (listed.setIfInBounds j true)) a w :=
    wpOp_mono (fun a' w' ⟨hy', hS', hrest⟩ => wpAny_all hr2 (by simp) (fun k hk => by
      obtain rfl : k = i := by simpa using hk
      rw [Array.setIfInBounds_comm _ _ (Ne.symm hne)]
      exact hy'.wpOp hi hS' hrest)) (wpOp_putIf hj hap (fun cs b => Region.noSelect_spec hs i oi cs b hi) (fun cs b => Region.noSelect_spec hs j oj cs b hj) hQ hyi hstep)
  have hi' : wpOp P ops Q i (wpAny P md ops Q (fuel + 1) (listed.setIfInBounds i true)) a w := hyi.wpOp hi hS h1
  rcases hr with hr | hr
  all_goals exact wpAny_all hr (by simp) (fun k hk => by
    rcases (by simpa using hk : _ ∨ _) with rfl | rfl
    all_goals assumption)
/-- From here on under a condition on the world (OrdersHeld). -/
theorem rheld (S : World → Prop) {fuel : Nat} {listed : Array Bool} {a : Act} {w : World} (h : wpAnyH P md ops Q S fuel listed a w) : wpAny P md ops Q fuel listed a w := wpAny_of_held fuel listed a w h
end
end Go.Proofs.YtmgpdkecpobcaaaDoor
