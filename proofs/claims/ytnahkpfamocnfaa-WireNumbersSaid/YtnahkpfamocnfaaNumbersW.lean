/- chainmaillaw.WireNumbers: the walk. -/
import Derived.Test.YtnahkpfamocnfaaRefPut
import Derived.Test.YtnahkpfamocnfaaStr
import Derived.Test.YtnahkpfamocnfaaRegion
namespace Go.Proofs.Ytnahkpfamocnfaa
open Go.RowKit
theorem u8_ofNat_map (n : Nat) : (List.map UInt8.ofNat ([7] ++ enc n) == [7] ++ List.map UInt8.ofNat (enc n)) = true := by simp
theorem str_add (n : Nat) (h : (strOf (enc n)).size ≤ 1000) {P : Program} (w : World) : (Op.stringOp .add ⟨#[7]⟩ (strOf (enc n))).run P w = .ok (.string (strOf ([7] ++ enc n))) w := by
  rw [run_string_add_sum (P := P) w _ _ (by have : (⟨#[7]⟩ : ByteArray).size = 1 := rfl; omega)]
  congr 2
set_option maxHeartbeats 400000 in
theorem numbers_mid (n : Nat) (hn : n ≤ 1099511627776) (w : World) : Calls Try.prog 3 #[.int .i64 n] w fun e w' => e = .returned (.bool true) ∧ Below w.heap.size w w' := by
  have h1 : (0 : Int) ≤ n := by omega
  have h2 : (n : Int) ≤ 1099511627776 := by omega
  have d1 : decide ((n : Int) < 0) = false := by simp
  have d2 : decide ((1099511627776 : Int) < n) = false := by simp; omega
  have hsz : (strOf (enc n)).size ≤ 1000 := by rw [strOf_size]; have := enc_len 10 n (by omega); omega
  have ho0 : ((w.alloc (.cells #[bv 7] 5)).drew).ownsRow w.heap.size 5 1 (.slice (some ⟨w.heap.size, 0, none⟩) 1 1) 1 [bv 7] := by
    exact (Fr.drew (Fr.refl (fun _ => False) _)).own (World.ownsRow_lit w #[bv 7] 1 (Nat.le_refl _) (by unfold maxLen; omega) rfl) (fun _ _ x => x)
  have hput := put_any w.heap.size _ 1 [bv 7] n ((w.alloc (.cells #[bv 7] 5)).drew) hn (by omega) ho0 (by simp)
  have HPUT := Lib.hid hput; clear hput ho0
  go_enter Try.func3, Try.ntmps3
  go_wp2_with fail
  refine wp_region_any (by kernel_rfl) ?_
  change wpAny _ _ _ _ _ _ _ (World.drew _)
  refine rtake 0 rfl (by kernel_rfl) (by kernel_rfl) (by kernel_rfl) (fun _ _ _ h => h) (by kernel_rfl) (fun w => by go_simp; rfl) ?_
  refine rtake 1 rfl (by kernel_rfl) (by kernel_rfl) (by kernel_rfl) (fun _ _ _ h => h) (by kernel_rfl) (fun w => by go_simp; rfl) ?_
  refine rtake 2 rfl (by kernel_rfl) (by kernel_rfl) (by kernel_rfl) (fun _ _ _ h => h) (by kernel_rfl) (fun w => by go_simp; rfl) ?_
  refine rtake 3 rfl (by kernel_rfl) (by kernel_rfl) (by kernel_rfl) (fun _ _ _ h => h) (by kernel_rfl) (fun w => by go_simp; rfl) ?_
  refine rtake 4 rfl (by kernel_rfl) (by kernel_rfl) (by kernel_rfl) (fun _ _ _ h => h) (by kernel_rfl) (fun w => by go_simp; rfl) ?_
  refine rtake 5 rfl (by kernel_rfl) (by kernel_rfl) (by kernel_rfl) (fun _ _ _ h => h) (by kernel_rfl) (fun w => by go_simp; rfl) ?_
  refine rtake 6 rfl (by kernel_rfl) (by kernel_rfl) (by kernel_rfl) (fun _ _ _ h => h) (by kernel_rfl) (fun w => by go_simp; rfl) ?_
  refine rtake 8 rfl (by kernel_rfl) (by kernel_rfl) (by kernel_rfl) (fun _ _ _ h => h) (by kernel_rfl) (fun w => by go_simp; rfl) ?_
  refine rtake 11 rfl (by kernel_rfl) (by kernel_rfl) (by kernel_rfl) (fun _ _ _ h => h) (by kernel_rfl) (fun w => by go_simp; rfl) ?_
  refine ronly 7 (by kernel_rfl) rfl (by kernel_rfl) (fun K hK => ?_)
  go_simp
  refine hK _ _ ?_
  clear hK K
  refine ronly 9 (by kernel_rfl) rfl (by kernel_rfl) (fun K hK => ?_)
  go_simp
  refine HPUT.out.mono ?_
  rintro e w1 ⟨v1, rfl, ho1, hm1⟩
  obtain ⟨A1, c1, rfl, _, _⟩ := own_slice ho1
  have hr1 := Reads.of_own ho1
  go_simp
  refine hK _ _ ?_
  clear hK K
  have hB0 : Below w.heap.size w ((w.alloc (.cells #[bv 7] 5)).drew) := ((Below.refl _ _).alloc (Nat.le_refl _) _).drew
  refine rheld (fun w' => Below w1.heap.size w1 w') ?_
  refine rtakeH 10 rfl (by kernel_rfl) (by kernel_rfl) (by kernel_rfl) (fun _ _ _ h => h) (by kernel_rfl) (Below.refl _ _) (fun w' hw' => by
    have hc := run_string_of (P := Try.prog) w' 22 9 5 Try.underlying22 Try.underlying5 Try.underlying9 _ _ c1 A1 ([7] ++ enc n) (by rw [List.map_append]; exact hr1.below hw')
    go_simp
    rfl) ?_
  refine ronlyH 12 (by kernel_rfl) rfl (by kernel_rfl) (fun K hK => ?_)
  go_simp
  refine (refPut_any n n _ (Nat.le_refl _) hn).mono ?_
  rintro e w2 ⟨v2, rfl, ho2, hm2⟩
  obtain ⟨A2, c2, rfl, _, _⟩ := own_slice ho2
  have hr2 := Reads.of_own ho2
  have hc2 := run_string_of (P := Try.prog) w2 22 9 5 Try.underlying22 Try.underlying5 Try.underlying9 _ _ c2 A2 (enc n) hr2
  have hadd := str_add n hsz (P := Try.prog) w2
  go_simp
  refine hK _ _ hm2 ?_
  clear hK K
  refine ronlyH 13 (by kernel_rfl) rfl (by kernel_rfl) (fun K hK => ?_)
  go_simp
  refine hK _ _ hm2 ?_
  clear hK K hc2
  refine ronlyH 14 (by kernel_rfl) rfl (by kernel_rfl) (fun K hK => ?_)
  go_simp
  refine hK _ _ hm2 ?_
  clear hK K hadd
  refine ronlyH 15 (by kernel_rfl) rfl (by kernel_rfl) (fun K hK => ?_)
  go_simp
  refine hK _ _ hm2 ?_
  clear hK K
  refine ronlyH 16 (by kernel_rfl) rfl (by kernel_rfl) (fun K hK => ?_)
  go_simp
  refine hK _ _ hm2 ?_
  clear hK K
  refine ronlyH 17 (by kernel_rfl) rfl (by kernel_rfl) (fun K hK => ?_)
  go_simp
  refine hK _ _ hm2 ?_
  clear hK K
  refine wpAnyH_done (by kernel_rfl) ?_ _
  go_wp2_with fail
  go_ret
  exact ⟨rfl, hB0.trans ((hm1.below (fun g hg => by cases hg; exact Nat.le_refl _) (by simp)).trans (hm2.mono (by have := hm1.size; simp at this; omega)))⟩
set_option maxHeartbeats 400000 in
theorem numbers_low (n : Int) (h : n < 0) (w : World) : Calls Try.prog 3 #[.int .i64 n] w fun e w' => e = .returned (.bool true) ∧ Below w.heap.size w w' := by
  have d1 : decide (n < 0) = true := by simpa using h
  go_enter Try.func3, Try.ntmps3
  go_wp2_with fail
  refine wp_region_any (by kernel_rfl) ?_
  change wpAny _ _ _ _ _ _ _ (World.drew _)
  refine rtake 0 rfl (by kernel_rfl) (by kernel_rfl) (by kernel_rfl) (fun _ _ _ h => h) (by kernel_rfl) (fun w => by go_simp; rfl) ?_
  refine rtake 1 rfl (by kernel_rfl) (by kernel_rfl) (by kernel_rfl) (fun _ _ _ h => h) (by kernel_rfl) (fun w => by go_simp; rfl) ?_
  refine rtake 2 rfl (by kernel_rfl) (by kernel_rfl) (by kernel_rfl) (fun _ _ _ h => h) (by kernel_rfl) (fun w => by go_simp; rfl) ?_
  refine rskip 3 rfl (by kernel_rfl) (by kernel_rfl) (by kernel_rfl) (fun _ _ _ h => h) (by kernel_rfl) ?_
  refine rskip 4 rfl (by kernel_rfl) (by kernel_rfl) (by kernel_rfl) (fun _ _ _ h => h) (by kernel_rfl) ?_
  refine rtake 5 rfl (by kernel_rfl) (by kernel_rfl) (by kernel_rfl) (fun _ _ _ h => h) (by kernel_rfl) (fun w => by go_simp; rfl) ?_
  refine rtake 6 rfl (by kernel_rfl) (by kernel_rfl) (by kernel_rfl) (fun _ _ _ h => h) (by kernel_rfl) (fun w => by go_simp; rfl) ?_
  refine rskip 7 rfl (by kernel_rfl) (by kernel_rfl) (by kernel_rfl) (fun _ _ _ h => h) (by kernel_rfl) ?_
  refine rskip 8 rfl (by kernel_rfl) (by kernel_rfl) (by kernel_rfl) (fun _ _ _ h => h) (by kernel_rfl) ?_
  refine rskip 9 rfl (by kernel_rfl) (by kernel_rfl) (by kernel_rfl) (fun _ _ _ h => h) (by kernel_rfl) ?_
  refine rskip 10 rfl (by kernel_rfl) (by kernel_rfl) (by kernel_rfl) (fun _ _ _ h => h) (by kernel_rfl) ?_
  refine rskip 11 rfl (by kernel_rfl) (by kernel_rfl) (by kernel_rfl) (fun _ _ _ h => h) (by kernel_rfl) ?_
  refine rskip 12 rfl (by kernel_rfl) (by kernel_rfl) (by kernel_rfl) (fun _ _ _ h => h) (by kernel_rfl) ?_
  refine rskip 13 rfl (by kernel_rfl) (by kernel_rfl) (by kernel_rfl) (fun _ _ _ h => h) (by kernel_rfl) ?_
  refine rskip 14 rfl (by kernel_rfl) (by kernel_rfl) (by kernel_rfl) (fun _ _ _ h => h) (by kernel_rfl) ?_
  refine rskip 15 rfl (by kernel_rfl) (by kernel_rfl) (by kernel_rfl) (fun _ _ _ h => h) (by kernel_rfl) ?_
  refine rtake 16 rfl (by kernel_rfl) (by kernel_rfl) (by kernel_rfl) (fun _ _ _ h => h) (by kernel_rfl) (fun w => by go_simp; rfl) ?_
  refine ronly 17 (by kernel_rfl) rfl (by kernel_rfl) (fun K hK => ?_)
  go_simp
  refine hK _ _ ?_
  clear hK K
  refine wpAny_done (by kernel_rfl) ?_ _
  go_wp2_with fail
  go_ret
  exact ⟨rfl, (Below.refl _ _).drew⟩
set_option maxHeartbeats 400000 in
theorem numbers_high (n : Int) (h : 1099511627776 < n) (w : World) : Calls Try.prog 3 #[.int .i64 n] w fun e w' => e = .returned (.bool true) ∧ Below w.heap.size w w' := by
  have d1 : decide (n < 0) = false := by simp; omega
  have d2 : decide ((1099511627776 : Int) < n) = true := by simpa using h
  go_enter Try.func3, Try.ntmps3
  go_wp2_with fail
  refine wp_region_any (by kernel_rfl) ?_
  change wpAny _ _ _ _ _ _ _ (World.drew _)
  refine rtake 0 rfl (by kernel_rfl) (by kernel_rfl) (by kernel_rfl) (fun _ _ _ h => h) (by kernel_rfl) (fun w => by go_simp; rfl) ?_
  refine rtake 1 rfl (by kernel_rfl) (by kernel_rfl) (by kernel_rfl) (fun _ _ _ h => h) (by kernel_rfl) (fun w => by go_simp; rfl) ?_
  refine rtake 2 rfl (by kernel_rfl) (by kernel_rfl) (by kernel_rfl) (fun _ _ _ h => h) (by kernel_rfl) (fun w => by go_simp; rfl) ?_
  refine rtake 3 rfl (by kernel_rfl) (by kernel_rfl) (by kernel_rfl) (fun _ _ _ h => h) (by kernel_rfl) (fun w => by go_simp; rfl) ?_
  refine rtake 4 rfl (by kernel_rfl) (by kernel_rfl) (by kernel_rfl) (fun _ _ _ h => h) (by kernel_rfl) (fun w => by go_simp; rfl) ?_
  refine rtake 5 rfl (by kernel_rfl) (by kernel_rfl) (by kernel_rfl) (fun _ _ _ h => h) (by kernel_rfl) (fun w => by go_simp; rfl) ?_
  refine rtake 6 rfl (by kernel_rfl) (by kernel_rfl) (by kernel_rfl) (fun _ _ _ h => h) (by kernel_rfl) (fun w => by go_simp; rfl) ?_
  refine rskip 7 rfl (by kernel_rfl) (by kernel_rfl) (by kernel_rfl) (fun _ _ _ h => h) (by kernel_rfl) ?_
  refine rskip 8 rfl (by kernel_rfl) (by kernel_rfl) (by kernel_rfl) (fun _ _ _ h => h) (by kernel_rfl) ?_
  refine rskip 9 rfl (by kernel_rfl) (by kernel_rfl) (by kernel_rfl) (fun _ _ _ h => h) (by kernel_rfl) ?_
  refine rskip 10 rfl (by kernel_rfl) (by kernel_rfl) (by kernel_rfl) (fun _ _ _ h => h) (by kernel_rfl) ?_
  refine rskip 11 rfl (by kernel_rfl) (by kernel_rfl) (by kernel_rfl) (fun _ _ _ h => h) (by kernel_rfl) ?_
  refine rskip 12 rfl (by kernel_rfl) (by kernel_rfl) (by kernel_rfl) (fun _ _ _ h => h) (by kernel_rfl) ?_
  refine rskip 13 rfl (by kernel_rfl) (by kernel_rfl) (by kernel_rfl) (fun _ _ _ h => h) (by kernel_rfl) ?_
  refine rskip 14 rfl (by kernel_rfl) (by kernel_rfl) (by kernel_rfl) (fun _ _ _ h => h) (by kernel_rfl) ?_
  refine rskip 15 rfl (by kernel_rfl) (by kernel_rfl) (by kernel_rfl) (fun _ _ _ h => h) (by kernel_rfl) ?_
  refine rtake 16 rfl (by kernel_rfl) (by kernel_rfl) (by kernel_rfl) (fun _ _ _ h => h) (by kernel_rfl) (fun w => by go_simp; rfl) ?_
  refine ronly 17 (by kernel_rfl) rfl (by kernel_rfl) (fun K hK => ?_)
  go_simp
  refine hK _ _ ?_
  clear hK K
  refine wpAny_done (by kernel_rfl) ?_ _
  go_wp2_with fail
  go_ret
  exact ⟨rfl, (Below.refl _ _).drew⟩
end Go.Proofs.Ytnahkpfamocnfaa
