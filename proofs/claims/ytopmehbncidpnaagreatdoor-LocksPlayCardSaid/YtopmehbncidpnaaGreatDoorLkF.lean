/- locks: the table's methods at whatever names, told of a table of one's own; the document's table beside it. -/
import Derived.Test.YtopmehbncidpnaaGreatDoorLkE
import Derived.Test.YtopmehbncidpnaaGreatDoorRtA
namespace Go.Proofs.YtopmehbncidpnaaGreatDoor
open Go.RowKit
theorem tab_lookL {w : World} {n : Nat} {mb : Option Nat} {loc : Sx → KLoc} {T : Tb} (hm : TabM w n mb loc T) {s : ByteArray} (hs : s.size ≤ maxLen) :
    (Instr.lookup 23 (.map mb) (.string s) false).run Tryz.prog w = .ok (match T (sx s) with | none => .pointer none | some _ => .pointer (some ⟨(loc (sx s)).g, 0, none⟩)) w := by
  rcases mb with _ | b
  · have : T (sx s) = none := hm (sx s)
    rw [this]
    exact look_nil w s
  · exact tab_look hm hs
set_option maxRecDepth 100000 in
set_option maxHeartbeats 4000000 in
theorem ta_holdsL {g n : Nat} {T : Tb} {W w : World} {U : Nat → Prop} (h : TA g n T W U w) (tx : Int) (s : ByteArray) (hl : s.size ≤ maxLen) (htx : okN tx) :
    Calls Tryz.prog 12 #[.pointer (some ⟨g, 0, none⟩), .int .i64 tx, .string s] w fun e w' => e = .returned (.int .i64 (holdK (atT T (sx s)).h tx)) ∧ w' = w := by
  obtain ⟨mb, loc, hI, hB, hg, hU⟩ := h
  have c0 := (hI.blk.cell 0).trans hI.c0
  have hgl := hI.blk.lt
  have hlk := tab_lookL hI.map hl
  rcases hT : T (sx s) with _ | k
  · rw [hT] at hlk
    have HF := Lib.hid (show holdK (atT T (sx s)).h tx = 0 by unfold atT; rw [hT]; rfl)
    clear hI hU hT
    go_enter Tryz.func12, Tryz.ntmps12
    go_wp2_with fail
    go_ret
    rw [HF.out]
    exact ⟨rfl, rfl⟩
  · rw [hT] at hlk
    have hK := hI.keys _ k hT
    have k0 := hK.blk.cell 0
    have hkl := hK.blk.lt
    simp only [List.getElem?_toArray, List.getElem?_cons_zero] at k0
    have hlk2 := hM_look hK.holds htx
    have HF := Lib.hid (show holdK (atT T (sx s)).h tx = holdK k.h tx by unfold atT; rw [hT]; rfl)
    clear hI hU hT hK
    go_enter Tryz.func12, Tryz.ntmps12
    go_wp2_with fail
    go_ret
    rw [HF.out]
    exact ⟨rfl, rfl⟩
theorem TA.small {g n : Nat} {T : Tb} {W w : World} {U : Nat → Prop} (h : TA g n T W U w) {x : Sx} (hx : T x ≠ none) : x.length ≤ 20 := by
  obtain ⟨mb, loc, hI, _⟩ := h
  exact hI.small x hx
/-- A name that is too long has nobody. -/
theorem ta_waitsL {g n : Nat} {T : Tb} {W w : World} {U : Nat → Prop} (h : TA g n T W U w) (s : ByteArray) (hl : s.size ≤ maxLen) :
    Calls Tryz.prog 14 #[.pointer (some ⟨g, 0, none⟩), .string s] w (WtPost w (atT T (sx s)).ws) := by
  by_cases hs : (sx s).length ≤ 20
  · exact ta_waits h s hs
  · have hT : T (sx s) = none := by
      rcases e : T (sx s) with _ | k
      · rfl
      · exact absurd (h.small (by rw [e]; simp)) hs
    obtain ⟨mb, loc, hI, hB, hg, hU⟩ := h
    have c0 := (hI.blk.cell 0).trans hI.c0
    have hgl := hI.blk.lt
    have hlk := tab_lookL hI.map hl
    rw [hT] at hlk
    have hfin : WtPost w (atT T (sx s)).ws (.returned (.slice none 0 0)) w := by
      rw [show (atT T (sx s)).ws = [] by unfold atT; rw [hT]; rfl]
      exact ⟨_, rfl, World.ownsRow_nil _ _ _ _, Below.refl _ _⟩
    have HF := Lib.hid hfin; clear hfin
    clear hI hU hT hs
    go_enter Tryz.func14, Tryz.ntmps14
    go_wp2_with fail
    go_ret
    exact HF.out
theorem ta_lockL {g n : Nat} {T : Tb} {W w : World} {U : Nat → Prop} (h : TA g n T W U w) (s : ByteArray) (tx mode : Int) (htx : okN tx) (hn : n < 1000000) (hsort : (atT T (sx s)).ws.Pairwise (·.1 < ·.1)) :
    Calls Tryz.prog 5 #[.pointer (some ⟨g, 0, none⟩), .int .i64 tx, .string s, .int .i64 mode] w (TaLock g n T W U ⟨tx, sx s, mode⟩ w) := by
  obtain ⟨mb, loc, hI, hB, hg, hU⟩ := h
  refine (lock_all _ n g 0 _ _ mb loc T s tx mode w hI htx hn hsort).mono ?_
  rintro e w' ⟨ok, l, er, T', A, c, mb', loc', rfl, hP, hI', hft, hfr, hrd, hA⟩
  have h1 := TA.turned hI hB hg hU hI' hft hfr
  refine ⟨ok, l, er, T', A, c, rfl, hP, ?_, hrd, h1.2⟩
  obtain ⟨⟨mb2, loc2, hI2, hB2, hg2, hU2⟩, _⟩ := TA.turned (U := fun b => U b) hI hB hg hU hI' hft hfr
  refine ⟨mb', loc', hI', hB2, hg, fun b hb => ?_⟩
  rcases hb with hb | ⟨o, e, h0⟩
  · obtain ⟨k1, k2, k3⟩ := hU b hb
    refine ⟨Nat.lt_of_lt_of_le k1 hfr.size, k2, fun k4 => ?_⟩
    rcases hft b k4 with h5 | h5
    · exact k3 h5
    · omega
  · obtain ⟨k1, k2⟩ := hA b o e h0
    obtain ⟨g', off', e', hlt, _⟩ := hrd.2 h0
    rw [e] at e'
    injection e' with e'
    injection e' with e' _
    have := hI.blk.lt
    exact ⟨by omega, by omega, k2⟩
theorem ta_keys {g n : Nat} {T : Tb} {W w : World} {U : Nat → Prop} (h : TA g n T W U w) (hn : n ≤ 2000000) : Calls Tryz.prog 11 #[.pointer (some ⟨g, 0, none⟩)] w (KsPost T n w) := by
  obtain ⟨mb, loc, hI, _⟩ := h
  exact tkeys_any _ n g 0 _ _ mb loc T w hI hn
/-- Others' blocks written. -/
theorem TA.fr {g n : Nat} {T : Tb} {W w w' : World} {U S : Nat → Prop} (h : TA g n T W U w) (hf : Fr S w w') (hS : ∀ b, S b → U b) (hlo : ∀ b, S b → W.heap.size ≤ b) : TA g n T W (fun _ => False) w' := by
  obtain ⟨mb, loc, hI, hB, hg, hU⟩ := h
  exact ⟨mb, loc, hI.fr hf (fun hs => (hU g (hS g hs)).2.1 rfl) (fun b hb hs => (hU b (hS b hs)).2.2 hb), hB.trans (hf.below hlo hB.size), hg, fun b hb => hb.elim⟩
theorem own_block {w : World} {base size m : Nat} {e : TypeId} {v : Value} {xs : List Value} (h : w.ownsRow base e size v m xs) {b : Nat} (hb : v.ownBlock = some b) : ∃ cs, Blk w b e cs := by
  rcases h.2 with ⟨rfl, _⟩ | ⟨g1, cap, cur, rfl, _, hh, _⟩
  · cases hb
  · have hb' : g1 = b := by injection hb
    subst hb'
    exact ⟨cur, hh⟩
theorem own_same {w w' : World} {base size m : Nat} {e : TypeId} {v : Value} {xs : List Value} (h : w.ownsRow base e size v m xs) (hs : ∀ b, v.ownBlock = some b → w'.heap[b]? = w.heap[b]?) : w'.ownsRow base e size v m xs := by
  refine ⟨h.1, ?_⟩
  rcases h.2 with hh | ⟨g, cap, cur, rfl, hb, hgg, rest⟩
  · exact .inl hh
  · exact .inr ⟨g, cap, cur, rfl, hb, (hs g rfl).trans hgg, rest⟩
section
variable {w w' : World} {base g : Nat} {VH VW : Value} {H Wt : List Ak}
theorem RtI.blks (h : RtI w base g VH VW H Wt) {b : Nat} (hb : RFoot g VH VW b) : ∃ t cs, Blk w b t cs ∧ t ≠ 25 ∧ t ≠ 65 ∧ t ≠ 62 := by
  rcases hb with rfl | hb | hb
  · exact ⟨_, _, h.blk, by decide, by decide, by decide⟩
  · obtain ⟨cs, hc⟩ := own_block h.rowH hb
    exact ⟨_, _, hc, by decide, by decide, by decide⟩
  · obtain ⟨cs, hc⟩ := own_block h.rowW hb
    exact ⟨_, _, hc, by decide, by decide, by decide⟩
theorem RtI.notBlk (h : RtI w base g VH VW H Wt) {b : Nat} {t : TypeId} {cs : Array Value} (hb : Blk w b t cs) (h1 : t ≠ 29) (h2 : t ≠ 37) : ¬ RFoot g VH VW b := by
  rintro (e | hR | hR)
  · exact hb.ne_ h.blk h1 e
  · exact own_blk_ne h.rowH hb (fun e => h2 e.symm) hR
  · exact own_blk_ne h.rowW hb (fun e => h2 e.symm) hR
theorem RtI.same (h : RtI w base g VH VW H Wt) (hs : ∀ b, RFoot g VH VW b → w'.heap[b]? = w.heap[b]?) : RtI w' base g VH VW H Wt :=
  ⟨(hs g (.inl rfl)).trans h.blk, own_same h.rowH (fun b hb => hs b (.inr (.inl hb))), own_same h.rowW (fun b hb => hs b (.inr (.inr hb))), h.apart, h.lo⟩
end
/-! sizes -/
def szS (s : List Ak × List Ak × List Ak) : Nat := s.1.length + s.2.1.length
theorem grant1_sz (x : Sx) (s : List Ak × List Ak × List Ak) (o : Int) : szS (grant1 x s o) ≤ szS s := by
  obtain ⟨H, W, O⟩ := s
  unfold grant1
  simp only
  cases e : W.find? (fun a => decide (a.tx = o) && decide (a.key = x) && mayR H W a) with
  | none => exact Nat.le_refl _
  | some a =>
    have h1 := hasR_len H a
    have h2 : (W.filter (fun b => !decide (b = a))).length < W.length := by
      rw [List.length_filter_lt_length_iff_exists]
      exact ⟨a, List.mem_of_find?_eq_some e, by simp⟩
    unfold szS
    simp only
    omega
theorem fold_sz {α : Type} (f : (List Ak × List Ak × List Ak) → α → (List Ak × List Ak × List Ak)) (hf : ∀ s a, szS (f s a) ≤ szS s) : ∀ (l : List α) (s : List Ak × List Ak × List Ak), szS (l.foldl f s) ≤ szS s
  | [], s => Nat.le_refl _
  | a :: l, s => Nat.le_trans (fold_sz f hf l (f s a)) (hf s a)
theorem releaseR_sz (H W : List Ak) (tx : Int) : (releaseR H W tx).1.length + (releaseR H W tx).2.1.length ≤ H.length + W.length := by
  have h := fold_sz grantK (fun s x => fold_sz (grant1 x) (grant1_sz x) (waitR s.2.1 x) s) (keysR H W) (offR H tx, offR W tx, [])
  have h1 := List.length_filter_le (fun a : Ak => !decide (a.tx = tx)) H
  have h2 := List.length_filter_le (fun a : Ak => !decide (a.tx = tx)) W
  have h3 : szS (offR H tx, offR W tx, []) ≤ H.length + W.length := by unfold szS offR; simp only; omega
  exact Nat.le_trans h h3
theorem lockR_sz (H W : List Ak) (x : Ak) : (lockR H W x).2.2.2.1.length + (lockR H W x).2.2.2.2.length ≤ H.length + W.length + 1 := by
  have h1 := hasR_len H x
  unfold lockR
  split
  · simp only; omega
  · split
    · simp only; omega
    · split
      · simp only; omega
      · split
        · simp only; omega
        · split
          · simp only; omega
          · simp only [List.length_append, List.length_singleton]; omega
def szO (s : List Ak × List Ak × List Ak) : Nat := s.2.2.length + s.2.1.length
theorem grant1_szO (x : Sx) (s : List Ak × List Ak × List Ak) (o : Int) : szO (grant1 x s o) ≤ szO s := by
  obtain ⟨H, W, O⟩ := s
  unfold grant1
  simp only
  cases e : W.find? (fun a => decide (a.tx = o) && decide (a.key = x) && mayR H W a) with
  | none => exact Nat.le_refl _
  | some a =>
    have h2 : (W.filter (fun b => !decide (b = a))).length < W.length := by
      rw [List.length_filter_lt_length_iff_exists]
      exact ⟨a, List.mem_of_find?_eq_some e, by simp⟩
    unfold szO
    simp only [List.length_append, List.length_singleton]
    omega
theorem fold_szO {α : Type} (f : (List Ak × List Ak × List Ak) → α → (List Ak × List Ak × List Ak)) (hf : ∀ s a, szO (f s a) ≤ szO s) : ∀ (l : List α) (s : List Ak × List Ak × List Ak), szO (l.foldl f s) ≤ szO s
  | [], s => Nat.le_refl _
  | a :: l, s => Nat.le_trans (fold_szO f hf l (f s a)) (hf s a)
theorem releaseR_out (H W : List Ak) (tx : Int) : (releaseR H W tx).2.2.length ≤ W.length := by
  have h := fold_szO grantK (fun s x => fold_szO (grant1 x) (grant1_szO x) (waitR s.2.1 x) s) (keysR H W) (offR H tx, offR W tx, [])
  have h2 := List.length_filter_le (fun a : Ak => !decide (a.tx = tx)) W
  have h3 : szO (offR H tx, offR W tx, []) ≤ W.length := by unfold szO offR; simp only [List.length_nil]; omega
  have h4 : szO (releaseR H W tx) ≤ W.length := Nat.le_trans h h3
  unfold szO at h4
  omega
theorem lockR_out (H W : List Ak) (x : Ak) : (lockR H W x).2.1.length ≤ H.length := by
  have h1 : (outR H x).length ≤ H.length := by
    unfold outR
    exact Nat.le_trans (List.length_filter_le _ _) (wayR_len H x)
  unfold lockR
  split
  · exact Nat.zero_le _
  · split
    · exact Nat.zero_le _
    · split
      · exact Nat.zero_le _
      · split
        · exact Nat.zero_le _
        · split
          · exact Nat.zero_le _
          · exact h1
set_option maxRecDepth 100000 in
/-- The document's Lock, whatever is asked. -/
theorem rlock_all (base g : Nat) (VH VW : Value) (H Wt : List Ak) (s : ByteArray) (tx mode : Int) (w : World) (hI : RtI w base g VH VW H Wt) (hn : H.length ≤ 1000000) (hnw : Wt.length ≤ 1000000) :
    Calls Tryz.prog 4 #[.pointer (some ⟨g, 0, none⟩), .agg #[.int .i64 tx, .string s, .int .i64 mode]] w (RlPost base g VH VW (lockR H Wt ⟨tx, sx s, mode⟩) w) := by
  by_cases hm : OkMode mode
  · by_cases hl : 20 < (sx s).length
    · exact rlock_long base g VH VW H Wt ⟨tx, sx s, mode⟩ s w rfl hm hl hI
    · exact rlock_any base g VH VW H Wt ⟨tx, sx s, mode⟩ s w (sx_inj (sx_mk (sx s)).symm) hm hl hI hn hnw
  · exact rlock_arg base g VH VW H Wt ⟨tx, sx s, mode⟩ s w hm hI
theorem RlPost.parts {base g : Nat} {VH VW : Value} {ok : Bool} {l : List Int} {er : Int} {H' W' : List Ak} {w : World} {e : Ending} {w' : World} (h : RlPost base g VH VW (ok, l, er, H', W') w e w') :
    ∃ A c, e = .returned (.tuple #[.bool ok, .slice A l.length c, .int .i64 er]) ∧ RtS base g VH VW H' W' w w' ∧ w'.ownsRow w.heap.size 3 1 (.slice A l.length c) l.length (l.map (Value.int .i64)) := h
theorem RrPost.parts {base g : Nat} {VH VW : Value} {H' W' O : List Ak} {w : World} {e : Ending} {w' : World} (h : RrPost base g VH VW (H', W', O) w e w') :
    ∃ V, e = .returned V ∧ RtS base g VH VW H' W' w w' ∧ w'.ownsRow w.heap.size 37 3 V O.length (O.flatMap akCells) := h
end Go.Proofs.YtopmehbncidpnaaGreatDoor
