/- slices.Sort, sort.Strings of a row of strings of the call's own. -/
import Derived.Test.YtmgpdkecpobcaaaDoorFrame
import Derived.Test.YtmgpdkecpobcaaaDoorLkP
import Derived.Test.YtmgpdkecpobcaaaDoorSorts
import Derived.Sort.OwnSorted
import Derived.WalkKit
import Derived.WalkSpells
import Derived.WalkLawsBesides
namespace Go.Proofs.YtmgpdkecpobcaaaDoor
open Go.RowKit
theorem slsort_strs (base n : Nat) (V : Value) (l : List Sx) (w : World) (h : w.ownsRow base 9 1 V n (l.map encStr)) (hl : l.length = n) (hn : n < 1000000000) :
    Calls Tryd.prog 32 #[V] w fun e w' => e = .returned (.tuple #[]) ∧ w'.ownsRow base 9 1 V n ((sortS l).map encStr) ∧ Fr (fun k => V.ownBlock = some k) w w' := by
  subst hl
  rcases h.2 with ⟨rfl, h0⟩ | ⟨g, cap, cur, rfl, hbg, hblk, hnc, hcm, hsz, htk⟩
  · have e : l = [] := List.eq_nil_of_length_eq_zero h0
    subst e
    refine (srt_string_none none 0 w).mono ?_
    rintro e w' ⟨rfl, rfl⟩
    exact ⟨rfl, by rw [show sortS [] = [] by simp [sortS]]; exact World.ownsRow_nil _ _ _ _, Fr.refl _ _⟩
  · refine (srt_string g 0 cap l w (holds_of_block hblk (by rw [Nat.mul_one] at htk; exact htk)) (by have := Blk.lt (show Blk w g _ cur from hblk); omega) (by omega)).mono ?_
    rintro e w' ⟨rfl, n, os, rfl⟩
    exact ⟨rfl, ownsRow_sorted (List.length_mergeSort l) hbg hblk hnc hcm hsz, Fr.of_grown (grownBy_sorted _) (fun k hk => by injection hk with hk; subst hk; rfl)⟩
set_option maxHeartbeats 1000000 in
theorem sortStrs_any (base n : Nat) (V : Value) (l : List Sx) (w : World) (h : w.ownsRow base 9 1 V n (l.map encStr)) (hl : l.length = n) (hn : n < 1000000000) :
    Calls Tryd.prog 28 #[V] w fun e w' => e = .returned (.tuple #[]) ∧ w'.ownsRow base 9 1 V n ((sortS l).map encStr) ∧ Fr (fun k => V.ownBlock = some k) w w' := by
  have HS := Lib.hid (slsort_strs base n V l w h hl hn)
  clear h
  go_enter Tryd.func28, Tryd.ntmps28
  go_wp2_with fail
  refine HS.out.mono ?_
  rintro e w1 ⟨rfl, h1, h2⟩
  have H1 := Lib.hid (And.intro h1 h2); clear h1 h2 HS
  go_wp2_with fail
  go_end0
  exact ⟨rfl, H1.out⟩
end Go.Proofs.YtmgpdkecpobcaaaDoor
