/- chainmailref's pen: num. -/
import Derived.Test.YtnahkpfamocnfaaDoorRefPut
import Derived.Test.YtnahkpfamocnfaaDoorWriter3
import Derived.Test.YtnahkpfamocnfaaDoorRegion
namespace Go.Proofs.YtnahkpfamocnfaaDoor
open Go.RowKit
def PenCut (base p : Nat) (v : Value) (st : St) (x : Int) (w : World) (s1 : Value) (wx : World) : Prop :=
  ∃ (y : Int) (st' : St), s1 = .int .i64 y ∧ 0 ≤ y ∧ y ≤ 1099511627776 ∧ Wr 88 wx base p v st' ∧ st'.1 = st.1 ∧ numS st x = (st'.1 ++ enc y.toNat, st'.2) ∧ WMoved p w wx v.ownBlock v.ownBlock
theorem refPut_int (x : Int) (h0 : 0 ≤ x) (h : x ≤ 1099511627776) (w : World) : Calls Tryd.prog 57 #[.int .i64 x] w (RefPutPost x.toNat w) := by
  obtain ⟨n, rfl⟩ := Int.eq_ofNat_of_zero_le h0
  exact refPut_any n n w (Nat.le_refl _) (by omega)
set_option maxRecDepth 100000 in
set_option maxHeartbeats 1000000 in
theorem pnum_any (base p : Nat) (v : Value) (st : St) (x : Int) (w : World) (hW : Wr 88 w base p v st) (hl : st.1.length ≤ 98000000000) :
    Calls Tryd.prog 35 #[.pointer (some ⟨p, 0, none⟩), .int .i64 x] w (WrPost 88 base p v (numS st x) w) := by
  have hf1 := hW.f 1
  have hc1 := hW.c1
  have HW := Lib.hid hW; clear hW
  go_enter Tryd.func35, Tryd.ntmps35
  go_step
  go_cut [1] (PenCut base p v st x w)
  case first =>
    by_cases h1 : x < 0
    · have d1 : decide (x < 0) = true := by simpa using h1
      have hk : numS st x = (st.1 ++ enc (0 : Int).toNat, 2) := by unfold numS; rw [if_pos (.inl h1)]; rfl
      have HK := Lib.hid hk; clear hk
      go_wp2_with fail
      go_meet
      exact ⟨0, (st.1, 2), rfl, by omega, by omega, HW.out.setBad 2, rfl, HK.out, WMoved.setCell p w 1 _ _⟩
    · by_cases h2 : 1099511627776 < x
      · have d1 : decide (x < 0) = false := by simpa using h1
        have d2 : decide ((1099511627776 : Int) < x) = true := by simpa using h2
        have hk : numS st x = (st.1 ++ enc (0 : Int).toNat, 2) := by unfold numS; rw [if_pos (.inr h2)]; rfl
        have HK := Lib.hid hk; clear hk
        go_wp2_with fail
        go_meet
        exact ⟨0, (st.1, 2), rfl, by omega, by omega, HW.out.setBad 2, rfl, HK.out, WMoved.setCell p w 1 _ _⟩
      · have d1 : decide (x < 0) = false := by simpa using h1
        have d2 : decide ((1099511627776 : Int) < x) = false := by simpa using h2
        have hk : numS st x = (st.1 ++ enc x.toNat, st.2) := by unfold numS; rw [if_neg (by omega)]
        have HK := Lib.hid hk; clear hk
        go_wp2_with fail
        go_meet
        exact ⟨x, st, rfl, by omega, by omega, HW.out, rfl, HK.out, WMoved.refl p w _⟩
  case rest =>
    clear hf1 hc1
    obtain ⟨y, st', rfl, hy0, hy1, hW', hst, hnum, hm⟩ := hcut
    have hc0 := hW'.c0
    have hlt := hW'.lt
    have HW' := Lib.hid hW'; clear hW'
    have HN := Lib.hid hnum; clear hnum
    have HS := Lib.hid hst; clear hst
    have hlen : st'.1.length ≤ 98000000000 := by rw [HS.out]; exact hl
    have hel := enc_le y.toNat (by omega)
    go_wp2_with fail
    refine wp_region_any (by kernel_rfl) ?_
    change wpAny _ _ _ _ _ _ _ (World.drew _)
    refine rtake 0 rfl (by kernel_rfl) (by kernel_rfl) (by kernel_rfl) (fun _ _ _ h => h) (by kernel_rfl) (fun w => by go_simp; rfl) ?_
    refine rtake 1 rfl (by kernel_rfl) (by kernel_rfl) (by kernel_rfl) (fun _ _ _ h => h) (by kernel_rfl) (fun w => by go_simp; rfl) ?_
    refine rtake 2 rfl (by kernel_rfl) (by kernel_rfl) (by kernel_rfl) (fun _ _ _ h => h) (by kernel_rfl) (fun w => by go_simp; rfl) ?_
    refine rtake 3 rfl (by kernel_rfl) (by kernel_rfl) (by kernel_rfl) (fun _ _ _ h => h) (by kernel_rfl) (fun w => by go_simp; rfl) ?_
    refine rtake 5 rfl (by kernel_rfl) (by kernel_rfl) (by kernel_rfl) (fun _ _ _ h => h) (by kernel_rfl) (fun w => by go_simp; rfl) ?_
    refine rpair (fun w' => w'.cell? ⟨p, 0, none⟩ = some v) 4 6 (.inl (by kernel_rfl)) (by kernel_rfl) (by kernel_rfl) rfl rfl (by kernel_rfl) (by kernel_rfl) (by decide) (fun _ _ _ h => h) (by kernel_rfl) (by kernel_rfl) hc0 (fun w' hw' => by go_simp; rfl) (fun K hK => ?_)
    go_simp
    refine (refPut_int y hy0 hy1 _).mono ?_
    rintro e w1 ⟨v1, rfl, ho1, hb1⟩
    obtain ⟨A1, c1, rfl, _, _⟩ := own_slice ho1
    have hW1 : Wr 88 w1 base p v st' := HW'.out.drew.fr (Below.fr hb1 (fun _ => False)) (fun x => x) (fun _ _ x => x)
    have hm1 : WMoved p w w1 v.ownBlock v.ownBlock := (hm.trans (WMoved.drew p wc _)).trans ⟨Below.fr hb1 _, .inl rfl⟩
    have hr1 := Reads.of_own ho1
    have hc2 := hW1.c0
    have H1 := Lib.hid hW1; clear hW1 ho1
    go_simp
    refine hK _ _ hc2 ?_
    clear hK K
    refine ronly 7 (by kernel_rfl) rfl (by kernel_rfl) (fun K hK => ?_)
    refine wp_appendR w1 (.tmp 17) (.tmp 19) 28 rfl base 5 (.int .u8 0) 1 1 Tryd.underlying28 u8_info rfl (by decide) v _ _ rfl H1.out.2.1 _ A1 _ c1 _ rfl hr1 ?_ ?_ ?_ H1.out.2.2.2 ?_
    · simp [encV, bv, Value.oneCell']
    · unfold maxLen; omega
    · omega
    intro v2 w2 ho2 hm2
    obtain ⟨A2, c2, rfl, _, _⟩ := own_slice ho2
    go_simp
    refine hK _ _ ?_
    clear hK K
    have hfin : Wr 88 (w2.setCell ⟨p, 0, none⟩ (.slice A2 (st'.1.length + (enc y.toNat).length) c2)) base p (.slice A2 (st'.1.length + (enc y.toNat).length) c2) (numS st x) := by
      rw [HN.out]
      refine H1.out.setB (bs' := st'.1 ++ enc y.toNat) hm2 ?_
      rw [List.length_append, List.map_append]
      exact ho2
    have hmf := (hm1.trans (WMoved.of_moved hm2)).trans (WMoved.setCell p w2 0 (.slice A2 (st'.1.length + (enc y.toNat).length) c2) _)
    have hb2 := hm2.1.blk H1.out.1 (fun e => H1.out.2.2.1 e.symm)
    have hy0 := hb2.cell 0
    have hy1 := hb2.frozen 0
    have HF := Lib.hid hfin; clear hfin ho2
    refine ronly 8 (by kernel_rfl) rfl (by kernel_rfl) (fun K hK => ?_)
    go_simp
    refine hK _ _ ?_
    clear hK K
    refine ronly 9 (by kernel_rfl) rfl (by kernel_rfl) (fun K hK => ?_)
    go_simp
    refine hK _ _ ?_
    clear hK K
    refine ronly 10 (by kernel_rfl) rfl (by kernel_rfl) (fun K hK => ?_)
    go_simp
    refine hK _ _ ?_
    clear hK K
    refine wpAny_done (by kernel_rfl) ?_ _
    go_wp2_with fail
    go_end0
    exact ⟨_, rfl, HF.out, hmf⟩
end Go.Proofs.YtnahkpfamocnfaaDoor
