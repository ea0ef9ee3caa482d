/- chainmaillaw.history: its contract. -/
import Derived.Test.YtnahkpfamocnfaaDoorSerR2
namespace Go.Proofs.YtnahkpfamocnfaaDoor
open Go.RowKit
structure HisI (w wr : World) (L : List TxR) (j : Nat) (W : List TxR) (v3 : Value) : Prop where
  row : wr.ownsRow w.heap.size 108 3 v3 j (W.flatMap txCells)
  ts : tsOf W = (tsOf L).take j
  own : ∀ y ∈ W, wr.ownsRow w.heap.size 111 4 (.slice y.A y.n y.c) y.n (y.t.ops.flatMap opCells)
  below : Below w.heap.size w wr
def HisRel (w : World) (L : List TxR) (n : Nat) (v3 v4 : Value) (wr : World) : Prop := ∃ (j : Nat) (W : List TxR), v4 = .int .i64 j ∧ j ≤ n ∧ HisI w wr L j W v3
structure HiI (w wo wr : World) (x : TxR) (k : Nat) (tv : Value) : Prop where
  box : Blk wr wo.heap.size 108 #[tv, .int .i64 x.t.from_, .int .i64 x.t.to_]
  row : wr.ownsRow w.heap.size 111 4 tv k ((x.t.ops.take k).flatMap opCells)
  new : ∀ g, tv.ownBlock = some g → wo.heap.size ≤ g
  fr : Fr (fun _ => False) wo wr
def HiRel (w wo : World) (x : TxR) (v : Value) (wr : World) : Prop := ∃ (k : Nat) (tv : Value), v = .int .i64 k ∧ k ≤ x.n ∧ HiI w wo wr x k tv
theorem hi_step {w wo wr w1 w6 : World} {x : TxR} {k : Nat} {tv tv' : Value} {o : OpP} (h : HiI w wo wr x k tv) (ho : x.t.ops[k]? = some o) (f : Fr (fun _ => False) wr w1) (hm : Moved w1 w6 tv.ownBlock tv'.ownBlock)
    (hrow : w6.ownsRow w.heap.size 111 4 tv' (k + 1) ((x.t.ops.take k).flatMap opCells ++ opCells o)) : HiI w wo (w6.setCell ⟨wo.heap.size, 0, none⟩ tv') x (k + 1) tv' := by
  have f1 : Fr (fun q => tv.ownBlock = some q) wr w6 := (f.mono (fun _ _ e => e.elim)).trans (hm.1.mono (fun i _ e => e.symm))
  have hb6 := f1.blk h.box (fun e => own_blk_ne h.row h.box (by decide) e)
  have f2 : Fr (fun q => q = wo.heap.size) w6 (w6.setCell ⟨wo.heap.size, 0, none⟩ tv') := Fr.set1 _ _ _ _
  refine ⟨?_, ?_, fun g hg => ?_, ?_⟩
  · have := hb6.set_ 0 tv'
    simpa using this
  · rw [take_snoc _ _ _ ho, List.flatMap_append]
    have := f2.own hrow (fun g hg e => by subst e; exact own_blk_ne hrow hb6 (by decide) hg)
    simpa using this
  · rcases hm.2 with e | ⟨g2, e, h2⟩
    · exact h.new g (e ▸ hg)
    · rw [e] at hg; injection hg with hg
      have := f.size; have := h.fr.size; omega
  · exact (h.fr.trans' f1 (fun i hi e => by have := h.new i e; omega)).trans' f2 (fun i hi e => by omega)
theorem his_step {w wo wr w8 : World} {L W : List TxR} {x : TxR} {j cT : Nat} {AT : Option Addr} {v3 v3' : Value} (h : HisI w wo L j W v3) (hxl : L[j]? = some x) (hlen : x.t.ops.length = x.n) (hi : HiI w wo wr x x.n (.slice AT x.n cT)) (hm : Moved wr w8 v3.ownBlock v3'.ownBlock)
    (hrow : w8.ownsRow w.heap.size 108 3 v3' (j + 1) (W.flatMap txCells ++ [.slice AT x.n cT, .int .i64 x.t.from_, .int .i64 x.t.to_])) : HisI w w8 L (j + 1) (W ++ [⟨x.t, AT, x.n, cT⟩]) v3' := by
  have f1 : Fr (fun q => v3.ownBlock = some q) wr w8 := hm.1.mono (fun i _ e => e.symm)
  have hW : wr.ownsRow w.heap.size 108 3 v3 j (W.flatMap txCells) := hi.fr.own h.row (fun _ _ e => e)
  refine ⟨?_, ?_, fun y hy => ?_, ?_⟩
  · rw [List.flatMap_append]; simpa [txCells] using hrow
  · have hl : (tsOf L)[j]? = some x.t := by unfold tsOf; rw [List.getElem?_map, hxl]; rfl
    rw [take_snoc _ _ _ hl, ← h.ts]
    unfold tsOf; simp
  · rcases List.mem_append.1 hy with hy | hy
    · have h1 := hi.fr.own (h.own y hy) (fun _ _ e => e)
      exact f1.own h1 (fun g hg e => own_own_ne h1 hW (by decide) hg e)
    · rw [List.mem_singleton.1 hy]
      have h1 := hi.row
      rw [List.take_of_length_le (by omega)] at h1
      exact f1.own h1 (fun g hg e => own_own_ne h1 hW (by decide) hg e)
  · exact (h.below.trans (hi.fr.none_below.mono h.below.size)).trans (f1.below (fun i e => (hW.lt i e).1) (Nat.le_trans h.below.size hi.fr.size))
def HisPost (L : List TxR) (w : World) (e : Ending) (w' : World) : Prop :=
  ∃ (W : List TxR) (A : Option Addr) (c : Nat), e = .returned (.slice A L.length c) ∧ tsOf W = tsOf L ∧ ReadsT w' w'.heap.size A L.length W ∧ (∀ x ∈ W, x.n ≤ 1000) ∧ Below w.heap.size w w'
set_option maxRecDepth 100000 in
set_option maxHeartbeats 4000000 in
theorem history_any (L : List TxR) (B n c : Nat) (A : Option Addr) (w : World) (h : ReadsT w B A n L) (hB : B ≤ w.heap.size) (hn : n ≤ 100) (hs : ∀ x ∈ L, x.n ≤ 1000) :
    Calls Tryd.prog 16 #[.slice A n c] w (HisPost L w) := by
  have H := Lib.hid h; clear h
  have HS := Lib.hid hs; clear hs
  go_enter Tryd.func16, Tryd.ntmps16
  go_wp2_with fail
  go_loopw [3, 4] (HisRel w L n) (fun _ v _ => n - (intOf v).toNat)
  case atStart => exact ⟨0, [], rfl, Nat.zero_le _, World.ownsRow_nil _ _ _ _, rfl, (fun y hy => by cases hy), Below.refl _ _⟩
  case round =>
    obtain ⟨j, W, rfl, hj, hI⟩ := hrel
    obtain ⟨wo, rfl⟩ : ∃ wo : World, wo = wr := ⟨_, rfl⟩
    by_cases hlt : (j : Int) < n
    · obtain ⟨g, off, x, hA, hg, hx, hk0, hk1, hk2, hro0, _⟩ := (H.out.below (hI.below.mono hB)).at_ (k := j) (by omega)
      have hro := (H.out.2.2 x (List.mem_of_getElem? hx)).1
      have hxn := HS.out x (List.mem_of_getElem? hx)
      have hbz := hI.below.size
      have hgl : g < wo.heap.size := by omega
      have hgw : g < w.heap.size := by omega
      have HX := Lib.hid hx; clear hx hro0
      have HRO := Lib.hid hro; clear hro
      have HI := Lib.hid hI; clear hI
      rw [hA]
      clear hA
      go_wp2_with fail
      refine wp_region_any (by kernel_rfl) ?_
      change wpAny _ _ _ _ _ _ _ (World.drew _)
      refine nplain (fun w' => w'.cell? ⟨g, off + j * 3 + 1, none⟩ = some (.int .i64 x.t.from_) ∧ w'.cell? ⟨g, off + j * 3 + 2, none⟩ = some (.int .i64 x.t.to_)) 13 ?_
      have HCC := And.intro hk1 hk2
      refine ntake 0 rfl (by kernel_rfl) (by kernel_rfl) (by kernel_rfl) (by kernel_rfl) (fun _ _ _ h => h) (by kernel_rfl) HCC (fun w' hw' => by go_simp; rfl) ?_
      refine ntake 1 rfl (by kernel_rfl) (by kernel_rfl) (by kernel_rfl) (by kernel_rfl) (fun _ _ _ h => h) (by kernel_rfl) HCC (fun w' hw' => by go_simp; rfl) ?_
      refine ntake 2 rfl (by kernel_rfl) (by kernel_rfl) (by kernel_rfl) (by kernel_rfl) (fun _ _ _ h => h) (by kernel_rfl) HCC (fun w' hw' => by go_simp; rfl) ?_
      refine ntake 3 rfl (by kernel_rfl) (by kernel_rfl) (by kernel_rfl) (by kernel_rfl) (fun _ _ _ h => h) (by kernel_rfl) HCC (fun w' hw' => by go_simp; rfl) ?_
      refine ntake 4 rfl (by kernel_rfl) (by kernel_rfl) (by kernel_rfl) (by kernel_rfl) (fun _ _ _ h => h) (by kernel_rfl) HCC (fun w' hw' => by obtain ⟨h1, h2⟩ := hw'; go_simp; rfl) ?_
      refine ntake 5 rfl (by kernel_rfl) (by kernel_rfl) (by kernel_rfl) (by kernel_rfl) (fun _ _ _ h => h) (by kernel_rfl) HCC (fun w' hw' => by go_simp; rfl) ?_
      refine ntake 6 rfl (by kernel_rfl) (by kernel_rfl) (by kernel_rfl) (by kernel_rfl) (fun _ _ _ h => h) (by kernel_rfl) HCC (fun w' hw' => by go_simp; rfl) ?_
      refine ntake 7 rfl (by kernel_rfl) (by kernel_rfl) (by kernel_rfl) (by kernel_rfl) (fun _ _ _ h => h) (by kernel_rfl) HCC (fun w' hw' => by go_simp; rfl) ?_
      refine ntake 8 rfl (by kernel_rfl) (by kernel_rfl) (by kernel_rfl) (by kernel_rfl) (fun _ _ _ h => h) (by kernel_rfl) HCC (fun w' hw' => by go_simp; rfl) ?_
      refine ntake 9 rfl (by kernel_rfl) (by kernel_rfl) (by kernel_rfl) (by kernel_rfl) (fun _ _ _ h => h) (by kernel_rfl) HCC (fun w' hw' => by obtain ⟨h1, h2⟩ := hw'; go_simp; rfl) ?_
      refine ntake 10 rfl (by kernel_rfl) (by kernel_rfl) (by kernel_rfl) (by kernel_rfl) (fun _ _ _ h => h) (by kernel_rfl) HCC (fun w' hw' => by go_simp; rfl) ?_
      have hq1 : ∀ o, ((wo.alloc o).drew).cell? ⟨g, off + j * 3 + 1, none⟩ = some (.int .i64 x.t.from_) := fun o => (World.cell?_alloc_lt wo o ⟨g, off + j * 3 + 1, none⟩ hgl).trans hk1
      have hq2 : ∀ o, ((wo.alloc o).drew).cell? ⟨g, off + j * 3 + 2, none⟩ = some (.int .i64 x.t.to_) := fun o => (World.cell?_alloc_lt wo o ⟨g, off + j * 3 + 2, none⟩ hgl).trans hk2
      refine nonly 11 (by kernel_rfl) rfl (by kernel_rfl) (fun K hK => ?_)
      go_simp
      refine hK _ _ (fun _ => ⟨hq1 _, hq2 _⟩) ?_
      clear hK K
      refine nonly 12 (by kernel_rfl) rfl (by kernel_rfl) (fun K hK => ?_)
      go_simp
      refine hK _ _ (fun _ => ⟨hq1 _, hq2 _⟩) ?_
      clear hK K hq1 hq2 HCC
      refine ndone (by kernel_rfl) ?_ _
      have hst : HiI w wo ((wo.alloc (.cells #[.slice none 0 0, .int .i64 x.t.from_, .int .i64 x.t.to_] 108)).drew) x 0 (.slice none 0 0) := ⟨(Blk.new wo _ _).drew, World.ownsRow_nil _ _ _ _, (fun g hg => by simp [Value.ownBlock] at hg), ((Fr.refl _ _).alloc _).drew⟩
      have HST := Lib.hid hst; clear hst
      go_wp2_with fail
      go_loopw [6] (HiRel w wo x) (fun v _ => x.n - (intOf v).toNat)
      case atStart => exact ⟨0, _, rfl, Nat.zero_le _, HST.out⟩
      case round =>
        clear HST
        obtain ⟨k, tv, rfl, hk, hIn⟩ := hrel
        have hx0 : wr.cell? ⟨g, off + j * 3, none⟩ = some (.slice x.A x.n x.c) := (hIn.fr.cell (p := ⟨g, off + j * 3, none⟩) hgl (fun e => e)).trans hk0
        have hgl2 : g < wr.heap.size := by have := hIn.fr.size; omega
        have hbw : Below w.heap.size w wr := HI.out.below.trans (hIn.fr.none_below.mono hbz)
        by_cases hltk : (k : Int) < x.n
        · obtain ⟨g3, off3, o, hA3, hg3, ho, q0, q1, q2, q3⟩ := (HRO.out.below (hbw.mono hB)).at_ (k := k) (by omega)
          have hgl3 : g3 < wr.heap.size := by have := hbw.size; omega
          rw [hA3] at hx0
          clear hA3
          have hb0 := hIn.box.cell 0
          have hbl := hIn.box.lt
          simp only [List.getElem?_toArray, List.getElem?_cons_zero] at hb0
          have hwb : w.heap.size ≤ wr.heap.size := hbw.size
          have HIN := Lib.hid hIn; clear hIn
          have HO := Lib.hid ho; clear ho
          go_wp2_with (at_builtin; refine stop ?_)
          refine back ?_
          refine wpList_append1H (wr.alloc (.cells #[.int .i64 o.kind, .string o.key, .string o.val, .bool o.found] 110)) (wr.heap.size + 1) (by simp) _ rfl (.tmp 44) (.tmp 54) 106 rfl w.heap.size 111 _ 4 48 Tryd.underlying106 rop_info rfl (by decide) _ _ _ #[.int .i64 o.kind, .string o.key, .string o.val, .bool o.found] rfl (HIN.out.row.alloc _) 1 rfl _ rfl rfl (by simp [Value.oneCell']) (by unfold maxLen; omega) (by omega) (by simp; omega) ?_
          intro tv' w6 hT6 hm6
          obtain ⟨AT, cT, rfl, _, _⟩ := own_slice hT6
          have hb6 := hm6.1.blk (HIN.out.box.alloc _) (fun e => own_blk_ne HIN.out.row HIN.out.box (by decide) e.symm)
          have hy0 := hb6.cell 0
          have hy1 := hb6.frozen 0
          have hin := hi_step HIN.out HO.out ((Fr.refl _ _).alloc _) hm6 hT6
          have HIN2 := Lib.hid hin; clear hin hT6 hm6 hb6
          go_wp2_with fail
          go_roundw
          case rel => exact ⟨k + 1, _, rfl, by omega, HIN2.out⟩
          case measure => simp [intOf]; omega
        · obtain rfl : k = x.n := by omega
          obtain ⟨AT, cT, rfl, _, _⟩ := own_slice hIn.row
          have hb0 := hIn.box.cell 0
          have hb1 := hIn.box.cell 1
          have hb2 := hIn.box.cell 2
          have hbl := hIn.box.lt
          simp only [List.getElem?_toArray, List.getElem?_cons_succ, List.getElem?_cons_zero] at hb0 hb1 hb2
          have hW := hIn.fr.own HI.out.row (fun _ _ e => e)
          have hwb : w.heap.size ≤ wr.heap.size := hbw.size
          have HIN := Lib.hid hIn; clear hIn
          go_wp2_with (at_builtin; refine stop ?_)
          refine back ?_
          refine wpList_append1 wr _ rfl (.tmp 57) (.tmp 59) 52 rfl w.heap.size 108 _ 3 40 Tryd.underlying52 rtx_info rfl (by decide) _ _ _ #[.slice AT x.n cT, .int .i64 x.t.from_, .int .i64 x.t.to_] rfl hW 1 rfl _ rfl rfl (by simp [Value.oneCell']) (by unfold maxLen; omega) (by omega) hwb ?_
          intro v3' w8 hW8 hm8
          have hout := his_step HI.out HX.out HRO.out.1 HIN.out hm8 hW8
          have HOUT := Lib.hid hout; clear hout hW hW8 hm8
          go_wp2_with fail
          go_roundw
          case rel => exact ⟨j + 1, _, rfl, by omega, HOUT.out⟩
          case measure => simp [intOf]; omega
    · have hjn : j = L.length := by rw [H.out.1]; omega
      subst hjn
      obtain ⟨A3, c3, rfl, _, _⟩ := own_slice hI.row
      have hts : tsOf W = tsOf L := by rw [hI.ts, List.take_of_length_le (by rw [tsOf_len]; exact Nat.le_refl _)]
      have hpost : HisPost L w (.returned (.slice A3 L.length c3)) wo := by
        have hlen : ∀ y ∈ W, y.t.ops.length = y.n := fun y hy => by
          have h1 := (hI.own y hy).1
          rw [flat_len 4 opCells (fun _ => rfl)] at h1
          omega
        have hmem : ∀ y ∈ W, ∃ x ∈ L, x.t = y.t := fun y hy => by
          have h1 : y.t ∈ tsOf W := List.mem_map.2 ⟨y, hy, rfl⟩
          rw [hts] at h1
          exact List.mem_map.1 h1
        refine ⟨W, A3, c3, rfl, hts, ⟨?_, Rd.of_own hI.row, fun y hy => ?_⟩, fun y hy => ?_, hI.below⟩
        · have h1 := hI.row.1
          rw [flat_len 3 txCells (fun _ => rfl)] at h1
          omega
        · obtain ⟨x, hx, e⟩ := hmem y hy
          refine ⟨⟨hlen y hy, Rd.of_own (hI.own y hy)⟩, fun o ho => (H.out.2.2 x hx).2 o (by rw [e]; exact ho)⟩
        · obtain ⟨x, hx, e⟩ := hmem y hy
          have h1 := HS.out x hx
          have h2 := (H.out.2.2 x hx).1.1
          have h3 := hlen y hy
          rw [e] at h2
          omega
      have HP := Lib.hid hpost; clear hpost hI hts
      go_wp2_with fail
      go_ret
      exact HP.out
end Go.Proofs.YtnahkpfamocnfaaDoor
