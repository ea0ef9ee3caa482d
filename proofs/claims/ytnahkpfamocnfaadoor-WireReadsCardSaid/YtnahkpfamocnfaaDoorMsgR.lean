/- chainmailref.Msg: its contract. -/
import Derived.Test.YtnahkpfamocnfaaDoorMsgW2
namespace Go.Proofs.YtnahkpfamocnfaaDoor
open Go.RowKit
def RefMInv (m : Ms) (A : Option Addr) (n k j : Nat) (w : World) (v' : Value) (wr : World) : Prop :=
  Wr 88 wr w.heap.size (w.heap.size + 1) v' (([m.kind, m.from_, m.to_, m.epoch, m.n].take j).foldl numS ([], 0)) ∧ Blk wr w.heap.size 26 (msgCells m A n k) ∧
    Blk wr (w.heap.size + 1 + 1) 3 #[.int .i64 m.kind, .int .i64 m.from_, .int .i64 m.to_, .int .i64 m.epoch, .int .i64 m.n] ∧ Below w.heap.size w wr ∧ (∀ g, v'.ownBlock = some g → w.heap.size + 2 < g)
def RefMRel (m : Ms) (A : Option Addr) (n k : Nat) (w : World) (i : Value) (wr : World) : Prop :=
  ∃ (j : Nat) (v' : Value), i = .int .i64 j ∧ j ≤ 5 ∧ RefMInv m A n k j w v' wr
theorem RefMInv.next {m : Ms} {A : Option Addr} {n k j : Nat} {w wr w1 : World} {v' v1 : Value} {x : Int} (h : RefMInv m A n k j w v' wr) (hx : [m.kind, m.from_, m.to_, m.epoch, m.n][j]? = some x)
    (h1 : Wr 88 w1 w.heap.size (w.heap.size + 1) v1 (numS (([m.kind, m.from_, m.to_, m.epoch, m.n].take j).foldl numS ([], 0)) x)) (hm : WMoved (w.heap.size + 1) wr w1 v'.ownBlock v1.ownBlock) : RefMInv m A n k (j + 1) w v1 w1 := by
  obtain ⟨a, b, c, d, e⟩ := h
  have hl := c.lt
  refine ⟨?_, hm.1.blk b ?_, hm.1.blk c ?_, d.trans (hm.below (by omega) (fun g hg => by have := e g hg; omega) (by omega)), fun g hg => ?_⟩
  · rw [foldl_take numS _ _ j x hx]; exact h1
  · rintro (h | h)
    · omega
    · have := e _ h.symm; omega
  · rintro (h | h)
    · omega
    · have := e _ h.symm; omega
  · rcases hm.2 with h | ⟨g', h, hg'⟩
    · exact e g (h ▸ hg)
    · rw [h] at hg; injection hg with hg; omega
set_option maxRecDepth 100000 in
set_option maxHeartbeats 1000000 in
theorem rmsg_any (m : Ms) (B : Nat) (A : Option Addr) (n k : Nat) (w : World) (hc : smallC m.cmd) (hr : ReadsP w B A n m.cmd.writes) (hB : B ≤ w.heap.size) :
    Calls Tryd.prog 9 #[msgV m A n k] w (OutPost (fun x => .int .i64 x) (msgOut m) w) := by
  unfold msgV
  have hbase : (w.alloc (.cells (msgCells m A n k) 26)) = (w.alloc (.cells (msgCells m A n k) 26)) := rfl
  clear hbase
  go_enter Tryd.func9, Tryd.ntmps9
  go_upto_region 1 with (fail)
  go_cut [14] (fun s14 wx => ∃ b : Bool, s14 = .bool b ∧ RowKit.Hid (b = kindB m.kind) ∧ w.alloc (.cells (msgCells m A n k) 26) = wx)
  case first =>
    by_cases h1 : m.kind < 1
    · have d1 : decide (m.kind < 1) = true := by simpa using h1
      have hk : kindB m.kind = true := by unfold kindB; rw [decide_eq_true (.inl h1)]
      have HK := Lib.hid hk; clear hk
      go_wp2_with fail
      go_meet
      exact ⟨true, rfl, HK.out.symm, rfl⟩
    · have d1 : decide (m.kind < 1) = false := by simpa using h1
      have hk : kindB m.kind = decide (4 < m.kind) := by unfold kindB; rw [decide_eq_decide]; omega
      have HK := Lib.hid hk; clear hk
      go_wp2_with fail
      go_meet
      exact ⟨_, rfl, HK.out.symm, rfl⟩
  case rest =>
    obtain ⟨b, rfl, hbk, rfl⟩ := hcut
    rcases b with _ | _
    · have ho : msgOut m = outS (msgS m) := by unfold msgOut; rw [← hbk.out]; rfl
      have HO := Lib.hid ho; clear ho
      have hbase : MsgCut0 88 m A n k w ((w.alloc (.cells (msgCells m A n k) 26)).alloc (.cells #[.slice none 0 0, .int .i64 0] 88)) :=
        ⟨newWr _ w _ _, (Blk.new w _ _).alloc _, ((Below.refl _ _).alloc (Nat.le_refl _) _).alloc (by simp) _⟩
      have HB := Lib.hid hbase; clear hbase
      have hx0 := HB.out.2.1.cell 0
      have hx1 := HB.out.2.1.cell 1
      have hx2 := HB.out.2.1.cell 2
      have hx3 := HB.out.2.1.cell 3
      have hx4 := HB.out.2.1.cell 4
      have hmc : msgCells m A n k = #[.int .i64 m.kind, .int .i64 m.from_, .int .i64 m.to_, .int .i64 m.epoch, .int .i64 m.n, .int .i64 m.cmd.kind, .int .i64 m.cmd.tx, .int .i64 m.cmd.time, .slice A n k] := rfl
      rw [hmc] at hx0 hx1 hx2 hx3 hx4
      simp only [hmc]
      go_wp2_with fail
      clear hx0 hx1 hx2 hx3 hx4
      go_loopw [29] (RefMRel m A n k w) (fun i _ => 5 - (intOf i).toNat)
      case atStart =>
        refine ⟨0, .slice none 0 0, rfl, by omega, HB.out.1.alloc _, HB.out.2.1.alloc _, ?_, HB.out.2.2.alloc (by simp; omega) _, fun g hg => by simp [Value.ownBlock] at hg⟩
        have hnew := Blk.new ((w.alloc (.cells (msgCells m A n k) 26)).alloc (.cells #[.slice none 0 0, .int .i64 0] 88)) 3 #[.int .i64 m.kind, .int .i64 m.from_, .int .i64 m.to_, .int .i64 m.epoch, .int .i64 m.n]
        have hsz : ((w.alloc (.cells (msgCells m A n k) 26)).alloc (.cells #[.slice none 0 0, .int .i64 0] 88)).heap.size = w.heap.size + 1 + 1 := by simp
        rw [hsz] at hnew
        exact hnew
      case round =>
        clear HB
        obtain ⟨j, v', rfl, hj, hI⟩ := hrel
        have HI := Lib.hid hI; clear hI
        have hlen0 := nums_len ([m.kind, m.from_, m.to_, m.epoch, m.n].take j) ([], 0)
        have hlen1 : ([m.kind, m.from_, m.to_, m.epoch, m.n].take j).length ≤ j := List.length_take_le _ _
        have hlen : (([m.kind, m.from_, m.to_, m.epoch, m.n].take j).foldl numS ([], 0)).1.length ≤ 50 := by simp at hlen0; omega
        clear hlen0 hlen1
        by_cases hlt : (j : Int) < 5
        · obtain ⟨x, hx⟩ : ∃ x, [m.kind, m.from_, m.to_, m.epoch, m.n][j]? = some x := ⟨_, List.getElem?_eq_getElem (by simp; omega)⟩
          have hcell : wr.cell? ⟨w.heap.size + 1 + 1, j, none⟩ = some (.int .i64 x) := by
            rw [HI.out.2.2.1.cell j]
            have : (#[Value.int .i64 m.kind, .int .i64 m.from_, .int .i64 m.to_, .int .i64 m.epoch, .int .i64 m.n] : Array Value)[j]? = ([m.kind, m.from_, m.to_, m.epoch, m.n].map (Value.int .i64))[j]? := by simp
            rw [this, List.getElem?_map, hx]
            rfl
          have HX := Lib.hid hx; clear hx
          go_wp2_with fail
          refine (pnum_any w.heap.size (w.heap.size + 1) v' _ x wr HI.out.1 (by omega)).mono ?_
          rintro e w1 ⟨v1, rfl, h1, h2⟩
          have hn := HI.out.next HX.out h1 h2
          have HN := Lib.hid hn; clear hn h1 h2
          go_wp2_with fail
          go_roundw
          case rel => exact ⟨j + 1, v1, rfl, by omega, HN.out⟩
          case measure => simp [intOf]; omega
        · have hj5 : j = 5 := by omega
          subst hj5
          have h1 : Wr 88 wr w.heap.size (w.heap.size + 1) v' (numS (numS (numS (numS (numS ([], 0) m.kind) m.from_) m.to_) m.epoch) m.n) := HI.out.1
          have hb1 := HI.out.2.2.2.1
          have hrow := HI.out.2.2.2.2
          have hhl := headM_len m
          have hx0 := HI.out.2.1.cell 0
          have hx5 := HI.out.2.1.cell 5
          have hx6 := HI.out.2.1.cell 6
          have hx7 := HI.out.2.1.cell 7
          have hx8 := HI.out.2.1.cell 8
          simp only [msgCells] at hx0 hx5 hx6 hx7 hx8
          have hy1 := h1.c1
          have hy0 := h1.c0
          obtain ⟨A1, c1, hv1, _, _⟩ := own_slice h1.2.1
          subst hv1
          clear hlen hlt
          have H1 := Lib.hid h1; clear h1 HI
          by_cases h3 : m.kind = 3
          · have d3 : (m.kind == 3) = true := by simpa using h3
            have hm : msgS m = cmdS (numS (numS (numS (numS (numS ([], 0) m.kind) m.from_) m.to_) m.epoch) m.n) m.cmd := by unfold msgS; rw [if_pos h3]
            have HM := Lib.hid hm; clear hm h3
            clear hy0 hy1
            go_wp2_with fail
            refine (pcmd_any w.heap.size (w.heap.size + 1) _ _ m.cmd B A n k wr H1.out (by omega) hc (hr.fr (S := fun k => w.heap.size ≤ k) (Fr.of_below hb1 (fun k _ h => by omega)) hB (fun g off h h0 => by
              obtain ⟨g', off', e, hg, _⟩ := hr.2.2 h0
              rw [h] at e
              injection e with e
              injection e with e1 e2
              omega)) (by have := hb1.size; omega) ?_).mono ?_
            · intro g off hA h0
              obtain ⟨g', off', e, hg, _⟩ := hr.2.2 h0
              rw [hA] at e
              injection e with e
              injection e with e1 e2
              exact ⟨by omega, fun e => by have := (H1.out.row _ e).1; omega⟩
            rintro e w2 ⟨v2, rfl, h1, h2⟩
            have hb2 : Below w.heap.size w w2 := hb1.trans (h2.below (by omega) (fun g hg => (H1.out.row g hg).1) (by have := hb1.size; omega))
            have hy1 := h1.c1
            have hy0 := h1.c0
            obtain ⟨A2, c2, hv2, _, _⟩ := own_slice h1.2.1
            subst hv2
            have H2 := Lib.hid h1; clear h1
            by_cases hz : (cmdS (numS (numS (numS (numS (numS ([], 0) m.kind) m.from_) m.to_) m.epoch) m.n) m.cmd).2 = 0
            · have d1 : ((cmdS (numS (numS (numS (numS (numS ([], 0) m.kind) m.from_) m.to_) m.epoch) m.n) m.cmd).2 == 0) = true := by simpa using hz
              have d2 : ((cmdS (numS (numS (numS (numS (numS ([], 0) m.kind) m.from_) m.to_) m.epoch) m.n) m.cmd).2 != 0) = false := by simpa using hz
              have hout : OutPost (fun x => .int .i64 x) (msgOut m) w (.returned (.tuple #[.slice A2 (cmdS (numS (numS (numS (numS (numS ([], 0) m.kind) m.from_) m.to_) m.epoch) m.n) m.cmd).1.length c2, .int .i64 0])) w2 := by
                have h := out_of (E := fun x => .int .i64 x) H2.out hb2 (Below.refl _ _)
                rw [if_neg (by simpa using hz), hz] at h
                rw [HO.out, HM.out]
                exact h
              have HF := Lib.hid hout; clear hout hz
              go_wp2_with fail
              go_ret2
              exact HF.out
            · have d1 : ((cmdS (numS (numS (numS (numS (numS ([], 0) m.kind) m.from_) m.to_) m.epoch) m.n) m.cmd).2 == 0) = false := by simpa using hz
              have d2 : ((cmdS (numS (numS (numS (numS (numS ([], 0) m.kind) m.from_) m.to_) m.epoch) m.n) m.cmd).2 != 0) = true := by simpa using hz
              have hout : OutPost (fun x => .int .i64 x) (msgOut m) w (.returned (.tuple #[.slice none 0 0, .int .i64 (cmdS (numS (numS (numS (numS (numS ([], 0) m.kind) m.from_) m.to_) m.epoch) m.n) m.cmd).2])) w2.drew := by
                have h := out_of (E := fun x => .int .i64 x) H2.out hb2 (Below.refl _ _).drew
                rw [if_pos hz] at h
                rw [HO.out, HM.out]
                exact h
              have HF := Lib.hid hout; clear hout hz
              go_wp2_with fail
              refine wp_region_any (by kernel_rfl) ?_
              change wpAny _ _ _ _ _ _ _ (World.drew _)
              refine rtake 4 rfl (by kernel_rfl) (by kernel_rfl) (by kernel_rfl) (fun _ _ _ h => h) (by kernel_rfl) (fun w => by go_simp; rfl) ?_
              refine rtake 0 rfl (by kernel_rfl) (by kernel_rfl) (by kernel_rfl) (fun _ _ _ h => h) (by kernel_rfl) (fun w => by go_simp; rfl) ?_
              refine rtake 1 rfl (by kernel_rfl) (by kernel_rfl) (by kernel_rfl) (fun _ _ _ h => h) (by kernel_rfl) (fun w => by go_simp; rfl) ?_
              refine rtake 2 rfl (by kernel_rfl) (by kernel_rfl) (by kernel_rfl) (fun _ _ _ h => h) (by kernel_rfl) (fun w => by go_simp; rfl) ?_
              refine ronly 3 (by kernel_rfl) rfl (by kernel_rfl) (fun K hK => ?_)
              go_simp
              refine hK _ _ ?_
              clear hK K
              refine ronly 5 (by kernel_rfl) rfl (by kernel_rfl) (fun K hK => ?_)
              go_simp
              refine hK _ _ ?_
              clear hK K
              refine wpAny_done (by kernel_rfl) ?_ _
              go_wp2_with fail
              go_ret2
              exact HF.out
          · have d3 : (m.kind == 3) = false := by simpa using h3
            have hm : msgS m = (numS (numS (numS (numS (numS ([], 0) m.kind) m.from_) m.to_) m.epoch) m.n) := by unfold msgS; rw [if_neg h3]
            have HM := Lib.hid hm; clear hm h3
            by_cases hz : (numS (numS (numS (numS (numS ([], 0) m.kind) m.from_) m.to_) m.epoch) m.n).2 = 0
            · have d1 : ((numS (numS (numS (numS (numS ([], 0) m.kind) m.from_) m.to_) m.epoch) m.n).2 == 0) = true := by simpa using hz
              have d2 : ((numS (numS (numS (numS (numS ([], 0) m.kind) m.from_) m.to_) m.epoch) m.n).2 != 0) = false := by simpa using hz
              have hout : OutPost (fun x => .int .i64 x) (msgOut m) w (.returned (.tuple #[.slice A1 (numS (numS (numS (numS (numS ([], 0) m.kind) m.from_) m.to_) m.epoch) m.n).1.length c1, .int .i64 0])) wr := by
                have h := out_of (E := fun x => .int .i64 x) H1.out hb1 (Below.refl _ _)
                rw [if_neg (by simpa using hz), hz] at h
                rw [HO.out, HM.out]
                exact h
              have HF := Lib.hid hout; clear hout hz
              go_wp2_with fail
              go_ret2
              exact HF.out
            · have d1 : ((numS (numS (numS (numS (numS ([], 0) m.kind) m.from_) m.to_) m.epoch) m.n).2 == 0) = false := by simpa using hz
              have d2 : ((numS (numS (numS (numS (numS ([], 0) m.kind) m.from_) m.to_) m.epoch) m.n).2 != 0) = true := by simpa using hz
              have hout : OutPost (fun x => .int .i64 x) (msgOut m) w (.returned (.tuple #[.slice none 0 0, .int .i64 (numS (numS (numS (numS (numS ([], 0) m.kind) m.from_) m.to_) m.epoch) m.n).2])) wr.drew := by
                have h := out_of (E := fun x => .int .i64 x) H1.out hb1 (Below.refl _ _).drew
                rw [if_pos hz] at h
                rw [HO.out, HM.out]
                exact h
              have HF := Lib.hid hout; clear hout hz
              go_wp2_with fail
              refine wp_region_any (by kernel_rfl) ?_
              change wpAny _ _ _ _ _ _ _ (World.drew _)
              refine rtake 4 rfl (by kernel_rfl) (by kernel_rfl) (by kernel_rfl) (fun _ _ _ h => h) (by kernel_rfl) (fun w => by go_simp; rfl) ?_
              refine rtake 0 rfl (by kernel_rfl) (by kernel_rfl) (by kernel_rfl) (fun _ _ _ h => h) (by kernel_rfl) (fun w => by go_simp; rfl) ?_
              refine rtake 1 rfl (by kernel_rfl) (by kernel_rfl) (by kernel_rfl) (fun _ _ _ h => h) (by kernel_rfl) (fun w => by go_simp; rfl) ?_
              refine rtake 2 rfl (by kernel_rfl) (by kernel_rfl) (by kernel_rfl) (fun _ _ _ h => h) (by kernel_rfl) (fun w => by go_simp; rfl) ?_
              refine ronly 3 (by kernel_rfl) rfl (by kernel_rfl) (fun K hK => ?_)
              go_simp
              refine hK _ _ ?_
              clear hK K
              refine ronly 5 (by kernel_rfl) rfl (by kernel_rfl) (fun K hK => ?_)
              go_simp
              refine hK _ _ ?_
              clear hK K
              refine wpAny_done (by kernel_rfl) ?_ _
              go_wp2_with fail
              go_ret2
              exact HF.out
    · have ho : msgOut m = ([], 1) := by unfold msgOut; rw [← hbk.out]; rfl
      have HO := Lib.hid ho; clear ho
      go_wp2_with fail
      go_ret2
      rw [HO.out]
      refine ⟨none, 0, rfl, Rd.none_ _ _ _ _, (fun g off hg => by cases hg), (Below.refl _ _).alloc (Nat.le_refl _) _⟩
end Go.Proofs.YtnahkpfamocnfaaDoor
