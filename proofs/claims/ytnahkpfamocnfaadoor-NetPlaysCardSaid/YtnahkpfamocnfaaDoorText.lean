/- wire's reader: text, truth. -/
import Derived.Test.YtnahkpfamocnfaaDoorReader
namespace Go.Proofs.YtnahkpfamocnfaaDoor
open Go.RowKit
theorem textR_over {k : Bool} {s : RS} {most : Nat} (h : (k = true ∧ most < (numR k s).1) ∨ (numR k s).2.1.length < (numR k s).1) : textR k s most = (⟨#[]⟩, ((numR k s).2.1, true)) := if_pos h
theorem textR_in {k : Bool} {s : RS} {most : Nat} (h : ¬ ((k = true ∧ most < (numR k s).1) ∨ (numR k s).2.1.length < (numR k s).1)) : textR k s most = (strOf ((numR k s).2.1.take (numR k s).1), ((numR k s).2.1.drop (numR k s).1, (numR k s).2.2)) := if_neg h
theorem str_of {w : World} {B n c : Nat} {A : Option Addr} {l : List Nat} (h : Rd w B 1 A n (l.map bv)) : (convert 28 9 (.slice A n c)).run Tryd.prog w = .ok (.string (strOf l)) w :=
  run_string_of w 28 9 5 Tryd.underlying28 Tryd.underlying5 Tryd.underlying9 B n c A l h.reads
theorem RPost.bad {T : TypeId} {B p : Nat} {A : Option Addr} {n c : Nat} {s s' : RS} {w w1 : World} {v : Value} (h : Rdr T w1 B p A n c s) (hf : Fr (fun k => k = p) w w1) (hs : s' = (s.1, true)) : RPost T B p v s' w (.returned v) (w1.setCell ⟨p, 1, none⟩ (.bool true)) := by
  subst hs
  exact ⟨A, n, c, rfl, h.bad true, hf.trans (Fr.set1 p w1 _ _)⟩
theorem RPost.rest {T : TypeId} {B p : Nat} {A : Option Addr} {n c x : Nat} {s s' : RS} {w w1 : World} {v : Value} (h : Rdr T w1 B p A n c s) (hf : Fr (fun k => k = p) w w1) (hx : x ≤ n) (hs : s' = (s.1.drop x, s.2)) :
    RPost T B p v s' w (.returned v) (w1.setCell ⟨p, 0, none⟩ (.slice (dropA A x c) (n - x) (c - x))) := by
  subst hs
  exact ⟨_, _, _, rfl, h.rest hx, hf.trans (Fr.set1 p w1 _ _)⟩
theorem Rdr.len {T : TypeId} {w : World} {B p : Nat} {A : Option Addr} {n c : Nat} {s : RS} (h : Rdr T w B p A n c s) : s.1.length = n := by have := h.2.1.1; simpa using this
set_option maxRecDepth 100000 in
set_option maxHeartbeats 1000000 in
theorem rtext_any (B p : Nat) (A : Option Addr) (n c : Nat) (s : RS) (most : Nat) (w : World) (hW : Rdr 118 w B p A n c s) :
    Calls Tryd.prog 68 #[.pointer (some ⟨p, 0, none⟩), .int .i64 most] w (RPost 118 B p (.string (textR true s most).1) (textR true s most).2 w) := by
  have HW := Lib.hid hW; clear hW
  go_enter Tryd.func68, Tryd.ntmps68
  go_wp2_with fail
  refine (rnum_any B p A n c s w HW.out).mono ?_
  rintro e w1 ⟨A1, n1, c1, rfl, hR, hF⟩
  have ho := textR_over (k := true) (s := s) (most := most)
  have hi := textR_in (k := true) (s := s) (most := most)
  generalize numR true s = q at *
  obtain ⟨v, l, b⟩ := q
  have hc0 := hR.1.cell 0
  have hc1 := hR.1.cell 1
  have hf0 := hR.1.frozen 0
  have hf1 := hR.1.frozen 1
  have hln := hR.len
  by_cases h1 : (v : Int) > most
  · have ho' := ho (.inl ⟨rfl, by dsimp only; omega⟩)
    have hp : RPost 118 B p (.string (textR true s most).1) (textR true s most).2 w (.returned (.string ⟨#[]⟩)) (w1.setCell ⟨p, 1, none⟩ (.bool true)) := by rw [ho']; exact RPost.bad hR hF rfl
    have HP := Lib.hid hp; clear hp ho hi ho' hR hF hln
    go_wp2_with fail
    go_ret
    exact HP.out
  · by_cases h2 : (v : Int) > n1
    · have ho' := ho (.inr (by dsimp only at hln ⊢; omega))
      have hp : RPost 118 B p (.string (textR true s most).1) (textR true s most).2 w (.returned (.string ⟨#[]⟩)) (w1.setCell ⟨p, 1, none⟩ (.bool true)) := by rw [ho']; exact RPost.bad hR hF rfl
      have HP := Lib.hid hp; clear hp ho hi ho' hR hF hln
      go_wp2_with fail
      go_ret
      exact HP.out
    · have hi' := hi (by rintro (⟨_, h⟩ | h) <;> (dsimp only at hln h; omega))
      have hp : RPost 118 B p (.string (textR true s most).1) (textR true s most).2 w (.returned (.string (strOf (l.take v)))) (w1.setCell ⟨p, 0, none⟩ (.slice (dropA A1 v c1) (n1 - v) (c1 - v))) := by rw [hi']; exact RPost.rest hR hF (by omega) rfl
      have HP := Lib.hid hp
      have hsf := slice_from w1 A1 n1 c1 v (v : Int) rfl (by omega)
      have hst := slice_to w1 A1 n1 c1 v (by have := hR.2.2.1; omega)
      have hcv := str_of (c := c1) (hR.2.1.taken (v := v) (by omega))
      dsimp only at hcv
      clear hp ho hi hi' hR hF hln
      go_wp2_with fail
      go_ret
      exact HP.out
set_option maxRecDepth 100000 in
set_option maxHeartbeats 1000000 in
theorem rtruth_any (B p : Nat) (A : Option Addr) (n c : Nat) (s : RS) (w : World) (hW : Rdr 118 w B p A n c s) :
    Calls Tryd.prog 69 #[.pointer (some ⟨p, 0, none⟩)] w (RPost 118 B p (.bool (goneR true s).1) (goneR true s).2 w) := by
  have HW := Lib.hid hW; clear hW
  go_enter Tryd.func69, Tryd.ntmps69
  go_wp2_with fail
  refine (rnum_any B p A n c s w HW.out).mono ?_
  rintro e w1 ⟨A1, n1, c1, rfl, hR, hF⟩
  have hg : goneR true s = (decide ((numR true s).1 = 1), ((numR true s).2.1, (numR true s).2.2 || (true && decide (1 < (numR true s).1)))) := rfl
  generalize numR true s = q at *
  obtain ⟨v, l, b⟩ := q
  have hc0 := hR.1.cell 0
  have hc1 := hR.1.cell 1
  have hf0 := hR.1.frozen 0
  have hf1 := hR.1.frozen 1
  have hp : ∀ b', b' = (b || decide (1 < v)) → ∀ t, t = decide (v = 1) → RPost 118 B p (.bool (goneR true s).1) (goneR true s).2 w (.returned (.bool t)) (w1.setCell ⟨p, 1, none⟩ (.bool b')) := fun b' e t et => by
    rw [hg]
    dsimp only
    rw [Bool.true_and, ← e, ← et]
    exact ⟨A1, n1, c1, rfl, hR.bad b', hF.trans (Fr.set1 p w1 _ _)⟩
  have HP := Lib.hid hp; clear hp hR hF hg
  dsimp only at hc0 hc1
  have hv1 : ((v : Int) == 1) = decide (v = 1) := by by_cases h : v = 1 <;> simp [h] <;> omega
  rcases b with _ | _
  · by_cases h1 : (v : Int) > 1
    · go_wp2_with fail
      go_ret
      exact HP.out _ (by simp; omega) _ (by first | rfl | exact hv1 | (simp; omega))
    · go_wp2_with fail
      go_ret
      exact HP.out _ (by simp; omega) _ (by first | rfl | exact hv1)
  · go_wp2_with fail
    go_ret
    exact HP.out _ (by simp) _ (by first | rfl | exact hv1)
end Go.Proofs.YtnahkpfamocnfaaDoor
