/- chainmailref.Put: its contract, by a walk, by induction on the number. -/
import Derived.Test.YtnahkpfamocnfaaDoorPut
namespace Go.Proofs.YtnahkpfamocnfaaDoor
open Go.RowKit
def RefPutPost (n : Nat) (w : World) (e : Ending) (w' : World) : Prop :=
  ∃ v, e = .returned v ∧ w'.ownsRow w.heap.size 5 1 v (enc n).length (encV n) ∧ Below w.heap.size w w'
set_option maxHeartbeats 400000 in
theorem refPut_any (k : Nat) : ∀ (n : Nat) (w : World), n ≤ k → n ≤ 1099511627776 → Calls Tryd.prog 57 #[.int .i64 n] w (RefPutPost n w) := by
  induction k with
  | zero =>
    intro n w hk _
    have hn : (n : Int) < 128 := by omega
    have hn' : n < 128 := by omega
    clear hk
    go_enter Tryd.func57, Tryd.ntmps57
    go_wp2_with fail
    go_ret
    refine ⟨_, rfl, ?_, (Below.refl _ _).alloc (Nat.le_refl _) _⟩
    rw [encV, enc_small hn']
    exact World.ownsRow_lit w #[_] 1 (Nat.le_refl _) (by unfold maxLen; omega) rfl
  | succ k ih =>
    intro n w hk hm
    by_cases hn : (n : Int) < 128
    · have hn' : n < 128 := by omega
      clear hk
      go_enter Tryd.func57, Tryd.ntmps57
      go_wp2_with fail
      go_ret
      refine ⟨_, rfl, ?_, (Below.refl _ _).alloc (Nat.le_refl _) _⟩
      rw [encV, enc_small hn']
      exact World.ownsRow_lit w #[_] 1 (Nat.le_refl _) (by unfold maxLen; omega) rfl
    · have hn' : ¬ n < 128 := by omega
      have ih' := ih (n / 128) (w.alloc (.cells #[bv (n % 128 + 128)] 5)) (by omega) (by omega)
      have IH := Lib.hid ih'; clear ih' ih
      have hel : (enc (n / 128)).length ≤ 10 := by have := enc_len 10 (n / 128) (by omega); omega
      go_enter Tryd.func57, Tryd.ntmps57
      go_wp2_with fail
      have HC : Calls Tryd.prog 57 #[.int .i64 ((n : Int) / 128)] (w.alloc (.cells #[.int .u8 ((n : Int) % 128 + 128)] 5)) (RefPutPost (n / 128) (w.alloc (.cells #[bv (n % 128 + 128)] 5))) := IH.out
      refine HC.mono ?_
      rintro e w1 ⟨v, rfl, ho, hb⟩
      go_wp2_with (at_builtin; refine stop ?_)
      obtain ⟨A, c, rfl, _, _⟩ := own_slice ho
      have ho0 : w1.ownsRow w.heap.size 5 1 (.slice (some ⟨w.heap.size, 0, none⟩) 1 1) 1 [bv (n % 128 + 128)] :=
        (Below.fr hb (fun _ => False)).own (World.ownsRow_lit w #[bv (n % 128 + 128)] 1 (Nat.le_refl _) (by unfold maxLen; omega) rfl) (fun _ _ x => x)
      have hz : w.heap.size < w1.heap.size := by have := hb.size; simp at this; omega
      refine back ?_
      refine wpList_appendR w1 rfl (.tmp 12) (.tmp 15) 28 rfl w.heap.size 5 (.int .u8 0) 1 1 Tryd.underlying28 u8_info rfl (by decide) _ _ _ rfl ho0 _ A _ c _ rfl (Reads.of_own ho) ?_ ?_ ?_ (by omega) ?_
      · simp [encV, bv, Value.oneCell']
      · unfold maxLen; omega
      · omega
      intro v' w2 ho2 hmv
      have hbw : Below w.heap.size w w2 := (((Below.refl _ _).alloc (Nat.le_refl _) _).trans (hb.mono (by simp))).trans (hmv.below (fun g hg => by cases hg; exact Nat.le_refl _) (by omega))
      have hfin : RefPutPost n w (.returned v') w2 := by
        refine ⟨v', rfl, ?_, hbw⟩
        rw [encV, enc_big hn', List.length_cons, List.map_cons, Nat.add_comm]
        exact ho2
      clear ho ho0 ho2 hbw hmv hb
      go_wp2_with fail
      go_ret
      exact hfin
end Go.Proofs.YtnahkpfamocnfaaDoor
