/- slices.Clone of pairs. -/
import Derived.Test.YtnahkpfamocnfaaDoorMsg0
import Derived.Test.YtnahkpfamocnfaaDoorFrame
import Derived.Test.YtnahkpfamocnfaaDoorRegion
import Derived.Test.YtnahkpfamocnfaaDoorRows
import Derived.WalkKit
import Derived.WalkSpells
import Derived.WalkLawsBesides
import Derived.BigQuiet
import Derived.Lib.LazyBuf
import Derived.Deep.QuietTactic
namespace Go.Proofs.YtnahkpfamocnfaaDoor
open Go.RowKit
theorem pair_info' : (Tryd.prog.info? 123).map (fun i => (i.zero, i.size, i.bytes)) = some (some (.agg #[.string ⟨#[]⟩, .string ⟨#[]⟩, .bool false]), 3, 40) := by kernel_rfl
theorem prs_one (l : List Pr) : ∀ u ∈ l.flatMap prCells, u.oneCell' = true := fun u hu => by
  obtain ⟨p, _, hp⟩ := List.mem_flatMap.1 hu
  unfold prCells at hp
  rcases List.mem_cons.1 hp with rfl | hp
  · rfl
  · rcases List.mem_cons.1 hp with rfl | hp
    · rfl
    · rw [List.mem_singleton.1 hp]; rfl
/-- An empty block of its own is a row of none. -/
theorem own_empty (w : World) (base : Nat) (e : TypeId) (size : Nat) (hb : base ≤ w.heap.size) : (w.alloc (.cells #[] e)).ownsRow base e size (.slice (some ⟨w.heap.size, 0, none⟩) 0 0) 0 [] :=
  ⟨by simp, .inr ⟨w.heap.size, 0, #[], rfl, hb, by simpa [Blk] using Blk.new w e #[], Nat.le_refl _, Nat.zero_le _, by simp, by simp⟩⟩
theorem own_apart {w : World} {base base' e e' size size' n n' : Nat} {v v' : Value} {xs xs' : List Value} (h : w.ownsRow base e size v n xs) (h' : w.ownsRow base' e' size' v' n' xs') (hne : e ≠ e') {g : Nat} (hg : v.ownBlock = some g) : v'.ownBlock ≠ some g := by
  intro hg'
  rcases h.2 with ⟨rfl, _⟩ | ⟨g1, cap, cur, rfl, _, hh, _⟩
  · simp [Value.ownBlock] at hg
  · rcases h'.2 with ⟨rfl, _⟩ | ⟨g2, cap', cur', rfl, _, hh', _⟩
    · simp [Value.ownBlock] at hg'
    · have e1 : g1 = g := by simpa [Value.ownBlock] using hg
      have e2 : g2 = g := by simpa [Value.ownBlock] using hg'
      subst e1
      subst e2
      rw [hh] at hh'
      injection hh' with hh'
      injection hh' with _ ht
      exact hne ht
theorem below_dN {B : Nat} {w w' : World} (h : Below B w w') (n : Nat) : Below B w (w'.drewN n) := ⟨h.os, h.tape, h.output, h.size, h.block⟩
theorem size_dN (w : World) (n : Nat) : (w.drewN n).heap.size = w.heap.size := rfl
theorem fr_of_below {B : Nat} {w w' : World} (h : Below B w w') : Fr (fun k => B ≤ k) w w' := ⟨h.os, h.tape, h.output, h.size, fun k _ hn => h.block k (by omega)⟩
def CloneP (base : Nat) (n : Nat) (l : List Pr) (w : World) (e : Ending) (w' : World) : Prop :=
  ∃ A k, e = .returned (.slice A n k) ∧ w'.ownsRow base 123 3 (.slice A n k) n (l.flatMap prCells) ∧ Below w.heap.size w w'
set_option maxRecDepth 100000 in
set_option maxHeartbeats 1000000 in
theorem clone_any (base B n k : Nat) (A : Option Addr) (l : List Pr) (w : World) (h : ReadsP w B A n l) (hB : B ≤ w.heap.size) (hb : base ≤ w.heap.size) (hn : n ≤ 100000) (hk : A = none → k = 0) :
    Calls Tryd.prog 51 #[.slice A n k] w (CloneP base n l w) := by
  have H := Lib.hid h; clear h
  rcases A with _ | a
  · have hk' := hk rfl
    subst hk'
    have hn0 : n = 0 := by
      rcases Nat.eq_zero_or_pos n with h0 | h0
      · exact h0
      · obtain ⟨g, off, h, _⟩ := H.out.2.2 h0; cases h
    subst hn0
    have hl : l = [] := List.eq_nil_of_length_eq_zero H.out.1
    subst hl
    have hf : CloneP base 0 [] w (.returned (.slice none 0 0)) w := ⟨none, 0, rfl, World.ownsRow_nil _ _ _ _, Below.refl _ _⟩
    have HF := Lib.hid hf; clear hf H
    have hnil := Lib.run_eql_slice_nil w 22 _ none 0 0 0 0 Tryd.underlying22
    go_enter Tryd.func51, Tryd.ntmps51
    go_wp2_with fail
    go_ret
    exact HF.out
  · clear hk
    have hnil := Lib.run_eql_slice_nil w 22 _ (some a) n k 0 0 Tryd.underlying22
    go_enter Tryd.func51, Tryd.ntmps51
    go_wp2_with (at_builtin; refine stop ?_)
    refine back ?_
    have hs : Below w.heap.size w (w.alloc (.cells #[] 123)) := (Below.refl _ _).alloc (Nat.le_refl _) _
    refine wpList_appendR _ rfl (.tmp 5) (.tmp 6) 22 rfl base 123 _ 3 40 Tryd.underlying22 pair_info' rfl (by decide) _ 0 [] rfl (own_empty w base _ _ hb) B _ n k (l.flatMap prCells) rfl ((H.out.2.below (hs.mono hB)).reads) (prs_one l) (by unfold maxLen; omega) (by omega) (by simp; omega) ?_
    intro v' w' hown hm
    rw [Nat.zero_add, List.nil_append] at hown
    obtain ⟨A', c, rfl, _, _⟩ := own_slice hown
    have hf : CloneP base n l w (.returned (.slice A' n c)) w' := ⟨A', c, rfl, hown, hs.trans (hm.below (fun g hg => by have e : some w.heap.size = some g := hg; injection e with e; omega) (by simp))⟩
    have HF := Lib.hid hf; clear hf hown hm hs
    go_wp2_with fail
    go_ret
    exact HF.out
end Go.Proofs.YtnahkpfamocnfaaDoor
