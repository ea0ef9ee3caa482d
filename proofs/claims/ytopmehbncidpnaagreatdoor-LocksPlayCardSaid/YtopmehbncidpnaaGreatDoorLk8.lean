/- locks: (*Table).Lock: it gets the key. -/
import Derived.Test.YtopmehbncidpnaaGreatDoorLk7
import Derived.Test.YtopmehbncidpnaaGreatDoorHeldV
import Derived.StillTailTactics
namespace Go.Proofs.YtopmehbncidpnaaGreatDoor
open Go.RowKit
theorem putT_put (T : Tb) (x : Sx) (a b : Option Kx) : putT (putT T x a) x b = putT T x b := by
  funext y
  unfold putT
  split <;> rfl
theorem locP_put (loc : Sx → KLoc) (x : Sx) (L L' : KLoc) : locP (locP loc x L) x L' = locP loc x L' := by
  funext y
  unfold locP
  split <;> rfl
theorem hM_gain (h : Int → Option Int) (tx mode : Int) : putM (hM h) tx (some (.int .i64 (if mode > holdK h tx then mode else holdK h tx))) = hM (gainH h tx mode) := by
  have e : (if mode > holdK h tx then mode else holdK h tx) = max (holdK h tx) mode := by split <;> omega
  funext o
  unfold putM hM gainH setH
  rw [e]
  split <;> rfl
theorem okN_mode {m : Int} (h : OkMode m) : okN m := by rcases h with rfl | rfl <;> rfl
theorem gain_ok {h : Int → Option Int} {tx mode : Int} (hh : ∀ o m, h o = some m → okN o ∧ okN m) (htx : okN tx) (hm : OkMode mode) : ∀ o m, gainH h tx mode o = some m → okN o ∧ okN m := fun o m e => by
  unfold gainH setH at e
  split at e
  · rename_i e1
    injection e with e
    subst e1
    refine ⟨htx, ?_⟩
    rw [← e]
    unfold holdK
    rcases Int.le_total ((h o).getD 0) mode with h1 | h1
    · rw [Int.max_eq_right h1]; exact okN_mode hm
    · rw [Int.max_eq_left h1]
      cases e2 : h o with
      | none => rfl
      | some m2 => exact (hh _ _ e2).2
  · exact hh o m e
set_option maxRecDepth 100000 in
set_option maxHeartbeats 12000000 in
theorem lock_got (base n g off : Nat) (ty : TypeId) (cs : Array Value) (mb : Option Nat) (loc : Sx → KLoc) (T : Tb) (s : ByteArray) (tx mode : Int) (w : World) (hI : TabI w base n g off ty cs mb loc T) (hmode : OkMode mode) (hl : (sx s).length ≤ 20) (htx : okN tx) (hn : n < 1000000)
    (hw : waitsB (atT T (sx s)).ws tx = false) (hfb : freeB (atT T (sx s)).h tx mode (atT T (sx s)).ws = true) :
    Calls Tryz.prog 5 #[.pointer (some ⟨g, off, none⟩), .int .i64 tx, .string s, .int .i64 mode] w (LockPost base n g off ty cs mb loc T ⟨tx, sx s, mode⟩ w) := by
  have hb0 : Below w.heap.size w (w.alloc (.cells #[.int .i64 tx] 3)) := (Below.refl _ _).alloc (Nat.le_refl _) _
  have hI0 := hI.tall hb0
  have hB0 : Blk (w.alloc (.cells #[.int .i64 tx] 3)) w.heap.size 3 #[.int .i64 tx] := Blk.new w _ _
  have hat := at_any base n g off ty cs mb loc T s _ hI0 hl hn
  have HAT := Lib.hid hat; clear hat hI0
  have HI := Lib.hid hI; clear hI
  have HB0 := Lib.hid hB0; clear hB0
  have HBW := Lib.hid hb0; clear hb0
  have hl20 : ¬ ((s.size : Int) > 20) := by rw [sx_size]; omega
  go_enter Tryz.func5, Tryz.ntmps5
  go_upto_block 0 with (fail)
  go_cut [] (fun wx => wx = w.alloc (.cells #[.int .i64 tx] 3))
  case first =>
    rcases hmode with rfl | rfl
    · go_wp2_with fail
      go_meet
      rfl
    · go_wp2_with fail
      go_meet
      rfl
  case rest =>
    subst hcut
    go_wp2_with fail
    refine HAT.out.mono ?_
    rintro e w1 ⟨b1, L, rfl, hI1, hf1, hor, hL1, hL2⟩
    have hT1 : putT T (sx s) (some (atT T (sx s))) (sx s) = some (atT T (sx s)) := by unfold putT; rw [if_pos rfl]
    have hK1 := hI1.keys (sx s) _ hT1
    rw [show locP loc (sx s) L (sx s) = L by unfold locP; rw [if_pos rfl]] at hK1
    have hb1 := hf1.blk HB0.out (fun h => by
      rcases h with h | h
      · have := HI.out.blk.lt; omega
      · have := (HI.out.foot_lt (.inl h)).2; omega)
    have cb := hb1.cell 0
    have ck0 := hK1.blk.cell 0
    have ck1 := hK1.blk.cell 1
    have hgl := hK1.blk.lt
    have hblt := hb1.lt
    obtain ⟨A, c, hV, hnc, _⟩ := own_slice hK1.row
    simp only [List.getElem?_toArray, List.getElem?_cons_zero, List.getElem?_cons_succ] at cb ck0 ck1
    rw [hV] at ck1
    have hct := wcontains_any 21 #[.pointer (some ⟨w.heap.size, 0, none⟩)] (fun x => decide (x.1 = tx)) A _ c _ w1 (enters_w Tryz.func21 (by kernel_rfl) rfl) (lock1_any w.heap.size tx w1 cb) (Rd.of_own (hV ▸ hK1.row)) rfl (by have := hK1.len; omega)
    rw [show (atT T (sx s)).ws.any (fun x => decide (x.1 = tx)) = false from hw] at hct
    have HCT := Lib.hid hct; clear hct
    have HK1 := Lib.hid hK1; clear hK1
    have HI1 := Lib.hid hI1; clear hI1
    have HF1 := Lib.hid hf1; clear hf1
    have HOR := Lib.hid hor; clear hor
    have HL1 := Lib.hid hL1; clear hL1
    have HL2 := Lib.hid hL2; clear hL2
    have HV := Lib.hid hV; clear hV
    have HBB := Lib.hid hb1; clear hb1 hT1 HAT
    go_wp2_with fail
    refine HCT.out.mono ?_
    rintro e w2 ⟨rfl, hb2⟩
    have hkeep : ∀ W, Below w1.heap.size w1 W → KeyI W base (n + 1) L (atT T (sx s)) ∧ W.cell? ⟨w.heap.size, 0, none⟩ = some (.int .i64 tx) ∧ W.cell? ⟨L.g, 0, none⟩ = some (.map (some L.hb)) ∧ W.cell? ⟨L.g, 1, none⟩ = some (.slice A (atT T (sx s)).ws.length c) := fun W hW => by
      have h1 := HK1.out.tall hW
      have h2 := h1.blk.cell 0
      have h3 := h1.blk.cell 1
      have h4 := (HBB.out.below hW hblt).cell 0
      simp only [List.getElem?_toArray, List.getElem?_cons_zero, List.getElem?_cons_succ] at h2 h3 h4
      rw [HV.out] at h3
      exact ⟨h1, h4, h2, h3⟩
    have hfree : ∀ W, Below w1.heap.size w1 W → Calls Tryz.prog 22 #[.pointer (some ⟨L.g, 0, none⟩), .int .i64 tx, .int .i64 mode, .slice A (atT T (sx s)).ws.length c] W fun e w' => e = .returned (.bool true) ∧ Below W.heap.size W w' := fun W hW => by
      have h1 := (hkeep W hW).1
      have h2 := free_any L.g L.hb (n + 1) (atT T (sx s)).ws.length c L.V (atT T (sx s)).h tx mode A (atT T (sx s)).ws W h1.blk h1.holds h1.okh htx (Rd.of_own (HV.out ▸ h1.row)) rfl (by have := h1.len; omega)
      rw [hfb] at h2
      exact h2
    have HKEEP := Lib.hid hkeep; clear hkeep
    have HFREE := Lib.hid hfree; clear hfree
    have HB2 := Lib.hid hb2; clear hb2 HCT
    have HLG := Lib.hid hgl; clear hgl
    clear cb ck0 ck1 hblt hnc
    go_wp2_with fail
    refine wp_region_any (by kernel_rfl) ?_
    change wpAny _ _ _ _ _ _ _ (World.drew _)
    refine nplainQ (fun w' => w'.cell? ⟨w.heap.size, 0, none⟩ = some (.int .i64 tx) ∧ w'.cell? ⟨L.g, 1, none⟩ = some (.slice A (atT T (sx s)).ws.length c)) 8 (fun _ _ _ _ _ h => h) (fun HQP => ?_)
    have hk0 := HKEEP.out w2.drew HB2.out.drew
    have HCC := And.intro hk0.2.1 hk0.2.2.2
    clear hk0
    refine ntake 0 rfl (by kernel_rfl) (by kernel_rfl) (by kernel_rfl) (by kernel_rfl) (fun _ _ _ h => HQP _ _ _ _ _ h) (by kernel_rfl) HCC (fun w' hw' => by go_simp; rfl) ?_
    refine ntake 1 rfl (by kernel_rfl) (by kernel_rfl) (by kernel_rfl) (by kernel_rfl) (fun _ _ _ h => HQP _ _ _ _ _ h) (by kernel_rfl) HCC (fun w' hw' => by obtain ⟨h0, h1⟩ := hw'; go_simp; rfl) ?_
    refine ntake 2 rfl (by kernel_rfl) (by kernel_rfl) (by kernel_rfl) (by kernel_rfl) (fun _ _ _ h => HQP _ _ _ _ _ h) (by kernel_rfl) HCC (fun w' hw' => by go_simp; rfl) ?_
    refine ntake 3 rfl (by kernel_rfl) (by kernel_rfl) (by kernel_rfl) (by kernel_rfl) (fun _ _ _ h => HQP _ _ _ _ _ h) (by kernel_rfl) HCC (fun w' hw' => by go_simp; rfl) ?_
    refine ntake 4 rfl (by kernel_rfl) (by kernel_rfl) (by kernel_rfl) (by kernel_rfl) (fun _ _ _ h => HQP _ _ _ _ _ h) (by kernel_rfl) HCC (fun w' hw' => by go_simp; rfl) ?_
    refine ntake 5 rfl (by kernel_rfl) (by kernel_rfl) (by kernel_rfl) (by kernel_rfl) (fun _ _ _ h => HQP _ _ _ _ _ h) (by kernel_rfl) HCC (fun w' hw' => by go_simp; rfl) ?_
    refine ntake 6 rfl (by kernel_rfl) (by kernel_rfl) (by kernel_rfl) (by kernel_rfl) (fun _ _ _ h => HQP _ _ _ _ _ h) (by kernel_rfl) HCC (fun w' hw' => by obtain ⟨h0, h1⟩ := hw'; go_simp; rfl) ?_
    refine nonly 7 (by kernel_rfl) rfl (by kernel_rfl) (fun K hK => ?_)
    go_simp
    refine (HFREE.out w2.drew HB2.out.drew).mono ?_
    rintro e w3 ⟨rfl, hb3⟩
    have hB3 : Below w1.heap.size w1 w3 := HB2.out.drew.trans (hb3.mono (by have := HB2.out.size; simpa using this))
    have HB3 := Lib.hid hB3; clear hB3 hb3
    have hk0 := HKEEP.out w3 HB3.out
    go_simp
    refine hK _ _ (fun _ => ⟨hk0.2.1, hk0.2.2.2⟩) ?_
    clear hK K HCC
    refine ndone (by kernel_rfl) ?_ _
    clear HQP hk0
    go_wp2_with fail
    refine wp_region_still_tail 13 (by kernel_rfl) (by kernel_rfl) ?_
    change wpStill _ _ (World.drew _) _ _ _
    simp only [List.take_succ_cons, List.take_zero, List.drop_succ_cons, List.drop_zero]
    have HTX := Lib.hid htx; clear htx
    obtain ⟨hkI, c0, c1, _⟩ := HKEEP.out w3.drew HB3.out.drew
    have hlk := hM_look hkI.holds HTX.out
    have HH := Lib.hid hkI.holds; clear hkI
    repeat still_step
    refine wpStill_nil ?_
    refine wpList_setG (C := kI) rfl 63 3 Tryz.underlying63 (.tmp 51) (.tmp 52) (.tmp 60) rfl (by simp [Act.eval]) HH.out (by unfold maxLen; omega) tx (.int .i64 (if mode > holdK (atT T (sx s)).h tx then mode else holdK (atT T (sx s)).h tx)) (by simp [Act.eval]; rfl) (by simp [Act.eval]) HTX.out ?_
    intro w4 hm4 hf4
    have HM4 := Lib.hid hm4; clear hm4
    have HF4 := Lib.hid hf4; clear hf4
    clear hlk c0 c1 HH
    have hK3 := (HKEEP.out w3.drew HB3.out.drew).1
    have hI3 := HI1.out.tall HB3.out.drew
    have hgain : putM (hM (atT T (sx s)).h) tx (some (.int .i64 (if mode > holdK (atT T (sx s)).h tx then mode else holdK (atT T (sx s)).h tx))) = hM (gainH (atT T (sx s)).h tx mode) := hM_gain _ _ _
    have hm4 := HM4.out
    rw [hgain] at hm4
    have hK4 : KeyI w4 base (n + 2) L ⟨gainH (atT T (sx s)).h tx mode, (atT T (sx s)).ws⟩ :=
      ⟨HF4.out.blk hK3.blk (fun e => hK3.holds.notBlk hK3.blk e.symm), hm4, HF4.out.own hK3.row (fun b hb e => by subst e; exact hK3.holds.notOwn hK3.row hb), hK3.log, hK3.loh, fun o m h => gain_ok hK3.okh HTX.out hmode o m h, hK3.okw, hK3.len⟩
    have hT1 : putT T (sx s) (some (atT T (sx s))) (sx s) = some (atT T (sx s)) := by unfold putT; rw [if_pos rfl]
    have hLL : locP loc (sx s) L (sx s) = L := by unfold locP; rw [if_pos rfl]
    have hI4 := hI3.turn (n' := n + 2) (L' := L) (k' := ⟨gainH (atT T (sx s)).h tx mode, (atT T (sx s)).ws⟩) hT1 (by omega) (HF4.out.mono (fun i _ (h : i = L.hb) => by rw [hLL]; exact .inr (.inl h))) hK4 (by rw [hLL]) (by rw [hLL]) (fun b hb => by rw [hLL]; exact .inl hb)
    rw [putT_put, locP_put] at hI4
    have hfin : LockPost base n g off ty cs mb loc T ⟨tx, sx s, mode⟩ w (.returned (.tuple #[.bool true, .slice none 0 0, erV 0])) w4 := by
      refine ⟨true, [], 0, _, none, 0, some b1, _, rfl, .got hmode hl hw hfb, hI4, at_foot HOR.out (by simp) HL1.out HL2.out, ?_, Rd.none_ _ _ _ _, fun b o h => nomatch h⟩
      refine ((at_frame HF1.out).trans' (fr_of_belowK HB3.out.drew) (fun i hi (h : _ ≤ i) => ?_)).trans' HF4.out (fun i hi (h : i = L.hb) => ?_)
      · have := HF1.out.size; simp at this; omega
      · by_cases hTn : T (sx s) = none
        · have := HL2.out hTn i (.inr (.inl h)); simp at this; omega
        · exact .inr (.inr ⟨sx s, hTn, by rw [← HL1.out hTn]; exact .inr (.inl h)⟩)
    have HFIN := Lib.hid hfin; clear hfin hI4 hK4 hm4 hgain hT1 hLL hI3 hK3
    unfold erV at HFIN
    go_wp2_with fail
    all_goals
      go_ret3
      exact HFIN.out
end Go.Proofs.YtopmehbncidpnaaGreatDoor
