/- chainmailref.Log: its contract. -/
import Derived.Test.YtnahkpfamocnfaaDoorLogW
namespace Go.Proofs.YtnahkpfamocnfaaDoor
open Go.RowKit
set_option maxRecDepth 100000 in
set_option maxHeartbeats 1000000 in
theorem rlog_any (l : List CmR) (B : Nat) (A : Option Addr) (n k : Nat) (w : World) (hs : ∀ x ∈ l, smallC x.c) (hr : ReadsC w B A n l) (hB : B ≤ w.heap.size) (hn : n ≤ 1000) :
    Calls Tryd.prog 12 #[.slice A n k] w (OutPost (fun x => .int .i64 x) (outS (logS (csOf l))) w) := by
  have hW0 := newWr0 88 w
  have HW0 := Lib.hid hW0; clear hW0
  have hll : (csOf l).length = n := by simp [csOf, hr.1]
  have HLL := Lib.hid hll; clear hll
  have HS := Lib.hid hs; clear hs
  go_enter Tryd.func12, Tryd.ntmps12
  go_wp2_with fail
  refine (pnum_any w.heap.size w.heap.size (.slice none 0 0) ([], 0) (n : Int) _ HW0.out (by simp)).mono ?_
  rintro e w1 ⟨v1, rfl, h1, h2⟩
  have hb1 : Below w.heap.size w w1 := ((Below.refl _ _).alloc (Nat.le_refl _) _).trans (h2.below (Nat.le_refl _) (fun g hg => by simp [Value.ownBlock] at hg) (by simp))
  have H1 := Lib.hid h1; clear h1 h2 HW0
  go_wp2_with fail
  go_loopw [15] (LogRel 88 l n w) (fun i _ => n - (intOf i).toNat)
  case atStart => exact ⟨0, v1, rfl, Nat.zero_le _, H1.out, hb1⟩
  case round =>
    clear H1 hb1
    obtain ⟨j, v', rfl, hj, hW', hbw⟩ := hrel
    have HW' := Lib.hid hW'; clear hW'
    have hlen := logs_len l n j HS.out
    by_cases hlt : (j : Int) < n
    · obtain ⟨g, off, x, rfl, hab, hx, hk0, hk1, hk2, hk3, hrp⟩ := hr.at_ (k := j) (by omega)
      have hcar : ∀ (o : Nat) (u : Value), w.cell? ⟨g, o, none⟩ = some u → wr.cell? ⟨g, o, none⟩ = some u := fun o u h => by
        rw [hbw.cell (p := ⟨g, o, none⟩) (by show g < _; omega)]
        exact h
      have hq0 := hcar _ _ hk0
      have hq1 := hcar _ _ hk1
      have hq2 := hcar _ _ hk2
      have hq3 := hcar _ _ hk3
      clear hk0 hk1 hk2 hk3
      have HX := Lib.hid hx; clear hx
      have HCA := Lib.hid hcar; clear hcar
      have hsx : smallC x.c := HS.out x (List.mem_of_getElem? HX.out)
      have HSX := Lib.hid hsx; clear hsx
      have hrw : ∀ o, ReadsP (wr.alloc o) B x.A x.n x.c.writes := fun o => ⟨hrp.1, hrp.2.below ((hbw.alloc (by have := hbw.size; omega) o).mono hB)⟩
      have HRW := Lib.hid hrw; clear hrw
      have hcall := fun W => pcmd_any w.heap.size w.heap.size v' (((csOf l).take j).foldl cmdS (numS ([], 0) n)) x.c B x.A x.n x.k W
      unfold cmdV at hcall
      have HCALL := Lib.hid hcall; clear hcall
      have hst := take_step l n j x HX.out
      have HST := Lib.hid hst; clear hst
      have hbz := hbw.size
      go_wp2_with fail
      refine (HCALL.out _ (HW'.out.alloc _) (by omega) HSX.out (HRW.out _) (by simp; omega) ?_).mono ?_
      · intro g' off' hA h0
        obtain ⟨g2, off2, e, hg, _⟩ := hrp.2.2 h0
        rw [hA] at e
        injection e with e
        injection e with e1 e2
        exact ⟨by omega, fun e => by have := (HW'.out.row _ e).1; omega⟩
      rintro e w2 ⟨v2, rfl, h21, h22⟩
      have hb2 : Below w.heap.size w w2 := (hbw.alloc hbz _).trans (h22.below (Nat.le_refl _) (fun g hg => (HW'.out.row g hg).1) (by simp; omega))
      have H21 := Lib.hid h21; clear h21 h22
      go_wp2_with fail
      go_roundw
      case rel => exact ⟨j + 1, v2, rfl, by omega, by rw [HST.out]; exact H21.out, hb2⟩
      case measure => simp [intOf]; omega
    · have hjn : j = n := by omega
      subst hjn
      have hfull : ((csOf l).take j).foldl cmdS (numS ([], 0) j) = (csOf l).foldl cmdS (numS ([], 0) (csOf l).length) := by
        rw [List.take_of_length_le (Nat.le_of_eq HLL.out), HLL.out]
      have hq1 := HW'.out.c1
      have hqf := HW'.out.f 1
      have hq0 := HW'.out.c0
      obtain ⟨A1, c1, hv1, _, _⟩ := own_slice HW'.out.2.1
      subst hv1
      by_cases h5 : (500 : Int) < j
      · have hls : logS (csOf l) = ((((csOf l).take j).foldl cmdS (numS ([], 0) j)).1, 4) := by
          unfold logS limS
          rw [← hfull, HLL.out, decide_eq_true (by omega)]; rfl
        have HLS := Lib.hid hls; clear hls hfull
        have HW2 := Lib.hid (HW'.out.setBad 4)
        have hout : OutPost (fun x => .int .i64 x) (outS (logS (csOf l))) w (.returned (.tuple #[.slice none 0 0, .int .i64 4])) ((wr.setCell ⟨w.heap.size, 1, none⟩ (.int .i64 4)).drew) := by
          have h := out_of (E := fun x => .int .i64 x) HW2.out (hbw.setCell (Nat.le_refl _) _) (Below.refl _ _).drew
          rw [if_pos (show (4 : Int) ≠ 0 by decide)] at h
          rw [HLS.out]
          exact h
        have HF := Lib.hid hout; clear hout
        go_wp2_with fail
        refine wp_region_any (by kernel_rfl) ?_
        change wpAny _ _ _ _ _ _ _ (World.drew _)
        refine rtake 4 rfl (by kernel_rfl) (by kernel_rfl) (by kernel_rfl) (fun _ _ _ h => h) (by kernel_rfl) (fun w => by go_simp; rfl) ?_
        refine rtake 0 rfl (by kernel_rfl) (by kernel_rfl) (by kernel_rfl) (fun _ _ _ h => h) (by kernel_rfl) (fun w => by go_simp; rfl) ?_
        refine rtake 1 rfl (by kernel_rfl) (by kernel_rfl) (by kernel_rfl) (fun _ _ _ h => h) (by kernel_rfl) (fun w => by go_simp; rfl) ?_
        refine rtake 2 rfl (by kernel_rfl) (by kernel_rfl) (by kernel_rfl) (fun _ _ _ h => h) (by kernel_rfl) (fun w => by go_simp; rfl) ?_
        refine ronly 3 (by kernel_rfl) rfl (by kernel_rfl) (fun K hK => ?_)
        go_simp
        refine hK _ _ ?_
        clear hK K
        refine ronly 5 (by kernel_rfl) rfl (by kernel_rfl) (fun K hK => ?_)
        go_simp
        refine hK _ _ ?_
        clear hK K
        refine wpAny_done (by kernel_rfl) ?_ _
        go_wp2_with fail
        go_ret2
        exact HF.out
      · have hls : logS (csOf l) = (((csOf l).take j).foldl cmdS (numS ([], 0) j)) := by
          unfold logS limS
          rw [← hfull, HLL.out, decide_eq_false (by omega)]; rfl
        have HLS := Lib.hid hls; clear hls hfull
        by_cases hz : (((csOf l).take j).foldl cmdS (numS ([], 0) j)).2 = 0
        · have d1 : ((((csOf l).take j).foldl cmdS (numS ([], 0) j)).2 == 0) = true := by simpa using hz
          have d2 : ((((csOf l).take j).foldl cmdS (numS ([], 0) j)).2 != 0) = false := by simpa using hz
          have hout : OutPost (fun x => .int .i64 x) (outS (logS (csOf l))) w (.returned (.tuple #[.slice A1 (((csOf l).take j).foldl cmdS (numS ([], 0) j)).1.length c1, .int .i64 0])) wr := by
            have h := out_of (E := fun x => .int .i64 x) HW'.out hbw (Below.refl _ _)
            rw [if_neg (by simpa using hz), hz] at h
            rw [HLS.out]
            exact h
          have HF := Lib.hid hout; clear hout hz
          go_wp2_with fail
          go_ret2
          exact HF.out
        · have d1 : ((((csOf l).take j).foldl cmdS (numS ([], 0) j)).2 == 0) = false := by simpa using hz
          have d2 : ((((csOf l).take j).foldl cmdS (numS ([], 0) j)).2 != 0) = true := by simpa using hz
          have hout : OutPost (fun x => .int .i64 x) (outS (logS (csOf l))) w (.returned (.tuple #[.slice none 0 0, .int .i64 (((csOf l).take j).foldl cmdS (numS ([], 0) j)).2])) wr.drew := by
            have h := out_of (E := fun x => .int .i64 x) HW'.out hbw (Below.refl _ _).drew
            rw [if_pos hz] at h
            rw [HLS.out]
            exact h
          have HF := Lib.hid hout; clear hout hz
          go_wp2_with fail
          refine wp_region_any (by kernel_rfl) ?_
          change wpAny _ _ _ _ _ _ _ (World.drew _)
          refine rtake 4 rfl (by kernel_rfl) (by kernel_rfl) (by kernel_rfl) (fun _ _ _ h => h) (by kernel_rfl) (fun w => by go_simp; rfl) ?_
          refine rtake 0 rfl (by kernel_rfl) (by kernel_rfl) (by kernel_rfl) (fun _ _ _ h => h) (by kernel_rfl) (fun w => by go_simp; rfl) ?_
          refine rtake 1 rfl (by kernel_rfl) (by kernel_rfl) (by kernel_rfl) (fun _ _ _ h => h) (by kernel_rfl) (fun w => by go_simp; rfl) ?_
          refine rtake 2 rfl (by kernel_rfl) (by kernel_rfl) (by kernel_rfl) (fun _ _ _ h => h) (by kernel_rfl) (fun w => by go_simp; rfl) ?_
          refine ronly 3 (by kernel_rfl) rfl (by kernel_rfl) (fun K hK => ?_)
          go_simp
          refine hK _ _ ?_
          clear hK K
          refine ronly 5 (by kernel_rfl) rfl (by kernel_rfl) (fun K hK => ?_)
          go_simp
          refine hK _ _ ?_
          clear hK K
          refine wpAny_done (by kernel_rfl) ?_ _
          go_wp2_with fail
          go_ret2
          exact HF.out
end Go.Proofs.YtnahkpfamocnfaaDoor
