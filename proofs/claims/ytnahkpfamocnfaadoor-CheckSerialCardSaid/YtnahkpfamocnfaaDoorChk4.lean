/- check's walker: copy. -/
import Derived.Test.YtnahkpfamocnfaaDoorChk3
namespace Go.Proofs.YtnahkpfamocnfaaDoor
open Go.RowKit Go.Maps Go.WideMaps
def CopyPost (nm : Nat) (m : Mp) (w : World) (e : Ending) (w' : World) : Prop := ∃ b', e = .returned (.map (some b')) ∧ w.heap.size ≤ b' ∧ MapV w' b' nm m ∧ Below w.heap.size w w'
set_option maxRecDepth 100000 in
set_option maxHeartbeats 1000000 in
theorem copy_any (B p nm : Nat) (L : List TxR) (r : WkR) (order : List Nat) (m : Mp) (w : World) (h : WkS w B p L r order nm m) (hnm : nm < 1000000) :
    Calls Tryd.prog 65 #[.pointer (some ⟨p, 0, none⟩)] w (CopyPost nm m w) := by
  have hp3 := h.c3
  have hpl := h.blk.lt
  obtain ⟨D0, hown, hview⟩ := h.map
  have hbl := hown.lt
  have hsn := hown.size_le
  have HV := Lib.hid hview; clear hview h
  have hmm := @run_makeMap Tryd.prog
  have e1 : (w.alloc (.map #[] 0)).heap.size = w.heap.size + 1 := by simp
  go_enter Tryd.func65, Tryd.ntmps65
  go_wp2_with (first
    | (at_range; refine wpList_range_own _ rfl _ 100 rfl 9 9 strLaw Tryd.underlying100 _ r.b nm _ rfl (hown.alloc _) ?_; intro w0 hrg0 hg0 hs0)
    | fail)
  go_frame
  rw [e1] at hrg0 hs0 ⊢
  go_loopw [4] (fun _ wr => ∃ (left : Lit → Bool) (cnt : Nat) (Dout : DataW Unit), wr.ranges Tryd.prog 9 (plainElem Tryd.prog 9) r.b (w.heap.size + 1) nm D0 left cnt ∧ cnt ≤ Maps.size D0 ∧
      wr.ownsMap Tryd.prog 9 (plainElem Tryd.prog 9) w.heap.size (Maps.size D0 - cnt) Dout ∧ Agree Dout D0 left ∧ Below w.heap.size w wr)
    (fun _ wr => wr.rangeLeft r.b (w.heap.size + 1))
  case atStart =>
    exact ⟨_, _, .map [], hrg0, Nat.le_refl _, ((World.ownsMap_made _ _ _ _).kept hg0 (by simp)).mono (Nat.zero_le _), agree_start D0, ((Below.refl _ _).alloc (Nat.le_refl _) _).grown hg0 (by simp) (fun j hj => by cases hj)⟩
  case round =>
    obtain ⟨left, cnt, Dout, hrg, hcs, hout, hA, hnx⟩ := hrel
    go_wp2_with (first
      | (at_next; refine wpList_next_ranges (α := ByteArray) (β := ByteArray) _ rfl _ rfl 9 strLaw (plainElem Tryd.prog 9) Value.string Value.string (fun key kl hkey => by obtain ⟨x, rfl, _⟩ := keyOf_str_inv hkey; exact ⟨x, rfl⟩) (fun v y hv => by obtain ⟨c, rfl, _⟩ := plainElem_string_inv Tryd.underlying9 hv; exact ⟨c, rfl⟩) r.b (w.heap.size + 1) nm _ _ _ rfl hrg ?_ ?_)
      | fail)
    · intro hc0 hl0
      go_wp2_with fail
      go_ret
      subst hc0
      have e := agree_end hA hl0 (hout.canon strLaw) (hown.canon strLaw)
      subst e
      exact ⟨_, rfl, Nat.le_refl _, ⟨_, hout.mono (by omega), HV.out⟩, hnx⟩
    · intro x c kl y ps w1 cnt1 hkey hlk hR hat hrg1 hlt hg1 hs1 hen
      have hout1 := hout.kept hg1 (by simp)
      obtain ⟨x', ex, hkl, hxs⟩ := keyOf_str_inv hkey
      injection ex with ex
      subst ex
      obtain ⟨c', ec, hy, hcs'⟩ := plainElem_string_inv Tryd.underlying9 hR
      injection ec with ec
      subst ec
      subst hkl
      obtain rfl : y = .lit (.string c.data.toList) := congrArg Prod.fst hy
      go_wp2_with (first
        | (at_mapUpdate; refine wpList_mapUpdate_own _ rfl _ _ _ 100 rfl 9 9 strLaw Tryd.underlying100 _ w.heap.size _ _ rfl hout1 (by unfold maxLen; omega) _ _ _ rfl rfl hkey _ [] (plainElem_string Tryd.underlying9 hcs') ?_; intro w2 hout2 hg2; go_frame)
        | fail)
      have hrg2 := hrg1.kept hg2 (fun e => by have := Option.some.inj e; omega) (fun e => by have := Option.some.inj e; omega)
      go_roundw
      case rel =>
        exact ⟨_, cnt1, _, hrg2, by omega, hout2.mono (by omega), agree_step hA hout.isMap (klS_key x) hat,
          (hnx.grown hg1 hnx.size (fun j hj => by cases hj; exact Nat.le_succ _)).grown hg2 (by have := hnx.size; omega) (fun j hj => by cases hj; exact Nat.le_refl _)⟩
      case measure => rw [hrg2.left_eq, hrg.left_eq]; exact hlt
end Go.Proofs.YtnahkpfamocnfaaDoor
