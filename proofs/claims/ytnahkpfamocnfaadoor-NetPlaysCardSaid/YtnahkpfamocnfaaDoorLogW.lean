/- wire.Log: its contract. -/
import Derived.Test.YtnahkpfamocnfaaDoorMsgW2
namespace Go.Proofs.YtnahkpfamocnfaaDoor
open Go.RowKit
def LogRel (T : TypeId) (l : List CmR) (n : Nat) (w : World) (i : Value) (wr : World) : Prop :=
  ∃ (j : Nat) (v' : Value), i = .int .i64 j ∧ j ≤ n ∧ Wr T wr w.heap.size w.heap.size v' (((csOf l).take j).foldl cmdS (numS ([], 0) n)) ∧ Below w.heap.size w wr
theorem newWr0 (T : TypeId) (w : World) : Wr T (w.alloc (.cells #[.slice none 0 0, .int .i64 0] T)) w.heap.size w.heap.size (.slice none 0 0) ([], 0) :=
  ⟨Blk.new w T _, World.ownsRow_nil _ _ _ _, by simp [Value.ownBlock], by simp⟩
theorem logs_len (l : List CmR) (n j : Nat) (hs : ∀ x ∈ l, smallC x.c) : (((csOf l).take j).foldl cmdS (numS ([], 0) n)).1.length ≤ 10 + 83888040 * j := by
  have h1 := cmds_len ((csOf l).take j) (numS ([], 0) n) (fun c hc => by
    obtain ⟨x, hx, rfl⟩ := List.mem_map.1 (List.mem_of_mem_take hc)
    exact hs x hx)
  have h2 := numS_len ([], 0) (n : Int)
  have h3 : ((csOf l).take j).length ≤ j := List.length_take_le _ _
  have h4 : 83888040 * ((csOf l).take j).length ≤ 83888040 * j := Nat.mul_le_mul_left _ h3
  simp at h2
  omega
theorem take_step (l : List CmR) (n j : Nat) (x : CmR) (h : l[j]? = some x) : ((csOf l).take (j + 1)).foldl cmdS (numS ([], 0) n) = cmdS (((csOf l).take j).foldl cmdS (numS ([], 0) n)) x.c :=
  foldl_take cmdS (csOf l) _ j x.c (by simp [csOf, h])
set_option maxRecDepth 100000 in
set_option maxHeartbeats 1000000 in
theorem wlog_any (l : List CmR) (B : Nat) (A : Option Addr) (n k : Nat) (w : World) (hs : ∀ x ∈ l, smallC x.c) (hr : ReadsC w B A n l) (hB : B ≤ w.heap.size) (hn : n ≤ 1000) :
    Calls Tryd.prog 13 #[.slice A n k] w (OutPost errV (outS (logS (csOf l))) w) := by
  have hW0 := newWr0 93 w
  have HW0 := Lib.hid hW0; clear hW0
  have hll : (csOf l).length = n := by simp [csOf, hr.1]
  have HLL := Lib.hid hll; clear hll
  have HS := Lib.hid hs; clear hs
  go_enter Tryd.func13, Tryd.ntmps13
  go_wp2_with fail
  refine (num_one w.heap.size w.heap.size (w.heap.size + 1) (.slice none 0 0) ([], 0) (n : Int) _ (by simp) HW0.out (by simp)).mono ?_
  rintro e w1 ⟨v1, rfl, h1, h2⟩
  have hb1 : Below w.heap.size w w1 := ((Below.refl _ _).alloc (Nat.le_refl _) _).trans (h2.below (Nat.le_refl _) (fun g hg => by simp [Value.ownBlock] at hg) (by simp))
  have H1 := Lib.hid h1; clear h1 h2 HW0
  go_wp2_with fail
  go_loopw [16] (LogRel 93 l n w) (fun i _ => n - (intOf i).toNat)
  case atStart => exact ⟨0, v1, rfl, Nat.zero_le _, H1.out, hb1⟩
  case round =>
    clear H1 hb1
    obtain ⟨j, v', rfl, hj, hW', hbw⟩ := hrel
    have HW' := Lib.hid hW'; clear hW'
    have hlen := logs_len l n j HS.out
    by_cases hlt : (j : Int) < n
    · obtain ⟨g, off, x, rfl, hab, hx, hk0, hk1, hk2, hk3, hrp⟩ := hr.at_ (k := j) (by omega)
      have hcar : ∀ (o : Nat) (u : Value), w.cell? ⟨g, o, none⟩ = some u → wr.cell? ⟨g, o, none⟩ = some u := fun o u h => by
        rw [hbw.cell (p := ⟨g, o, none⟩) (by show g < _; omega)]
        exact h
      have hq0 := hcar _ _ hk0
      have hq1 := hcar _ _ hk1
      have hq2 := hcar _ _ hk2
      have hq3 := hcar _ _ hk3
      clear hk0 hk1 hk2 hk3
      have HX := Lib.hid hx; clear hx
      have HCA := Lib.hid hcar; clear hcar
      have hsx : smallC x.c := HS.out x (List.mem_of_getElem? HX.out)
      have HSX := Lib.hid hsx; clear hsx
      have hrw : ∀ o, ReadsP (wr.alloc o) B x.A x.n x.c.writes := fun o => ⟨hrp.1, hrp.2.below ((hbw.alloc (by have := hbw.size; omega) o).mono hB)⟩
      have HRW := Lib.hid hrw; clear hrw
      have hcall := fun W => cmd_any w.heap.size w.heap.size v' (((csOf l).take j).foldl cmdS (numS ([], 0) n)) x.c B x.A x.n x.k W
      unfold cmdV at hcall
      have HCALL := Lib.hid hcall; clear hcall
      have hst := take_step l n j x HX.out
      have HST := Lib.hid hst; clear hst
      have hbz := hbw.size
      go_wp2_with fail
      refine (HCALL.out _ (HW'.out.alloc _) (by omega) HSX.out (HRW.out _) (by simp; omega) ?_).mono ?_
      · intro g' off' hA h0
        obtain ⟨g2, off2, e, hg, _⟩ := hrp.2.2 h0
        rw [hA] at e
        injection e with e
        injection e with e1 e2
        exact ⟨by omega, fun e => by have := (HW'.out.row _ e).1; omega⟩
      rintro e w2 ⟨v2, rfl, h21, h22⟩
      have hb2 : Below w.heap.size w w2 := (hbw.alloc hbz _).trans (h22.below (Nat.le_refl _) (fun g hg => (HW'.out.row g hg).1) (by simp; omega))
      have H21 := Lib.hid h21; clear h21 h22
      go_wp2_with fail
      go_roundw
      case rel => exact ⟨j + 1, v2, rfl, by omega, by rw [HST.out]; exact H21.out, hb2⟩
      case measure => simp [intOf]; omega
    · have hjn : j = n := by omega
      subst hjn
      have hfull : ((csOf l).take j).foldl cmdS (numS ([], 0) j) = (csOf l).foldl cmdS (numS ([], 0) (csOf l).length) := by
        rw [List.take_of_length_le (Nat.le_of_eq HLL.out), HLL.out]
      have hq1 := HW'.out.c1
      have hqf := HW'.out.f 1
      by_cases h5 : (500 : Int) < j
      · have hls : logS (csOf l) = ((((csOf l).take j).foldl cmdS (numS ([], 0) j)).1, 4) := by
          unfold logS limS
          rw [← hfull, HLL.out, decide_eq_true (by omega)]; rfl
        have HLS := Lib.hid hls; clear hls hfull
        go_wp2_with fail
        refine (done_any w.heap.size w.heap.size v' _ _ (HW'.out.setBad 4)).mono ?_
        rintro e w9 hd
        obtain ⟨a, b, rfl, hout⟩ := out_of_done (HW'.out.setBad 4) (hbw.setCell (Nat.le_refl _) _) hd
        have HF := Lib.hid hout; clear hout hd
        go_wp2_with fail
        go_ret2
        rw [HLS.out]
        exact HF.out
      · have hls : logS (csOf l) = ((csOf l).take j).foldl cmdS (numS ([], 0) j) := by
          unfold logS limS
          rw [← hfull, HLL.out, decide_eq_false (by omega)]; rfl
        have HLS := Lib.hid hls; clear hls hfull
        go_wp2_with fail
        refine (done_any w.heap.size w.heap.size v' _ wr HW'.out).mono ?_
        rintro e w9 hd
        obtain ⟨a, b, rfl, hout⟩ := out_of_done HW'.out hbw hd
        have HF := Lib.hid hout; clear hout hd
        go_wp2_with fail
        go_ret2
        rw [HLS.out]
        exact HF.out
end Go.Proofs.YtnahkpfamocnfaaDoor
