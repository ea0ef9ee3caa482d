/- slices.Sort of a row of integers of the call's own. -/
import Derived.Test.YtopmehbncidpnaaGreatDoorFrame
import Derived.Test.YtopmehbncidpnaaGreatDoorLkP
import Derived.Test.YtopmehbncidpnaaGreatDoorSorts
import Derived.Sort.OwnSortedInts
namespace Go.Proofs.YtopmehbncidpnaaGreatDoor
open Go.RowKit
theorem sort_ints (base n : Nat) (V : Value) (l : List Int) (w : World) (h : w.ownsRow base 3 1 V n (l.map (Value.int .i64))) (hl : l.length = n) (hn : n < 1000000000) :
    Calls Tryz.prog 26 #[V] w fun e w' => e = .returned (.tuple #[]) ∧ w'.ownsRow base 3 1 V n ((sortI l).map (Value.int .i64)) ∧ Fr (fun k => V.ownBlock = some k) w w' := by
  subst hl
  rcases h.2 with ⟨rfl, h0⟩ | ⟨g, cap, cur, rfl, hbg, hblk, hnc, hcm, hsz, htk⟩
  · have e : l = [] := List.eq_nil_of_length_eq_zero h0
    subst e
    refine (srt_int_none none 0 w).mono ?_
    rintro e w' ⟨rfl, rfl⟩
    exact ⟨rfl, by rw [show sortI [] = [] by simp [sortI]]; exact World.ownsRow_nil _ _ _ _, Fr.refl _ _⟩
  · refine (srt_int g 0 cap l w (holds_of_blockI hblk (by rw [Nat.mul_one] at htk; exact htk)) (by have := Blk.lt (show Blk w g _ cur from hblk); omega) (by omega)).mono ?_
    rintro e w' ⟨rfl, n, os, rfl⟩
    exact ⟨rfl, ownsRow_sortedI (List.length_mergeSort l) hbg hblk hnc hcm hsz, Fr.of_grown (grownBy_sortedI _) (fun k hk => by injection hk with hk; subst hk; rfl)⟩
end Go.Proofs.YtopmehbncidpnaaGreatDoor
