/- locks: (*Table).Lock: it is in somebody's way, or somebody is in its way: it waits, or too many wait. -/
import Derived.Test.YtopmehbncidpnaaGreatDoorLk8
import Derived.Test.YtopmehbncidpnaaGreatDoorHeldW
import Derived.Test.YtopmehbncidpnaaGreatDoorSrt
namespace Go.Proofs.YtopmehbncidpnaaGreatDoor
open Go.RowKit
theorem okN_ins {ws : List (Int × Int)} {tx mode : Int} (h : ∀ x ∈ ws, okN x.1 ∧ okN x.2) (htx : okN tx) (hm : OkMode mode) : ∀ x ∈ insW ws (tx, mode), okN x.1 ∧ okN x.2 := fun x hx => by
  rcases insW_mem.1 hx with rfl | hx
  · exact ⟨htx, okN_mode hm⟩
  · exact h x hx
/-- The new one is laid among those that wait. -/
theorem key_ins {W w5 : World} {base n : Nat} {L : KLoc} {k : Kx} {tx mode : Int} {V' : Value} {i : Nat} (h : KeyI W base n L k) (hi : (k.ws.takeWhile (fun x => decide (x.1 < tx))).length = i) (h50 : k.ws.length ≠ 50)
    (hrow : w5.ownsRow base 62 2 V' (k.ws.length + 1) (putIn 2 i (wtCells (tx, mode)) (k.ws.flatMap wtCells))) (hmv : Moved W w5 L.V.ownBlock V'.ownBlock) (htx : okN tx) (hm : OkMode mode) :
    KeyI (w5.setCell ⟨L.g, 1, none⟩ V') base n ⟨L.g, L.hb, V'⟩ ⟨k.h, insW k.ws (tx, mode)⟩ ∧ Fr (KFoot L) W (w5.setCell ⟨L.g, 1, none⟩ V') := by
  have hb5 := hmv.1.blk h.blk (fun e => own_blk_ne h.row h.blk (by decide) e.symm)
  have hm5 := h.holds.fr hmv.1 (fun e => h.holds.notOwn h.row e.symm)
  have hne := own_blk_ne hrow hb5 (by decide)
  have hf := Fr.set1 L.g w5 1 V'
  have hb6 := hb5.set_ 1 V'
  refine ⟨⟨hb6, hm5.fr hf (fun e => hm5.notBlk hb5 e), ?_, h.log, h.loh, h.okh, okN_ins h.okw htx hm, ?_⟩, (hmv.1.mono (fun b _ hb => .inr (.inr hb.symm))).trans ((Fr.refl _ _).setCell (p := ⟨L.g, 1, none⟩) (.inl (.inl rfl)) V')⟩
  · have := hf.own hrow (fun g hg e => hne (by rw [hg, e]))
    rw [putIn_ins hi] at this
    rw [insW_len]
    exact this
  · rw [insW_len]; have := h.len; show k.ws.length + 1 ≤ 50; omega
theorem foot_ins {mb : Option Nat} {loc : Sx → KLoc} {T : Tb} {x : Sx} {L L' : KLoc} {k k' : Kx} {B : Nat} (hg : L'.g = L.g) (hh : L'.hb = L.hb) (hV : ∀ b, L'.V.ownBlock = some b → L.V.ownBlock = some b ∨ B ≤ b) :
    ∀ b, TFoot mb (locP loc x L') (putT T x (some k')) b → TFoot mb (locP loc x L) (putT T x (some k)) b ∨ B ≤ b := fun b hb => by
  rcases hb with hb | ⟨y, hy, hb⟩
  · exact .inl (.inl hb)
  · by_cases e : y = x
    · subst e
      rw [show locP loc y L' y = L' by unfold locP; rw [if_pos rfl]] at hb
      have key : KFoot L b ∨ B ≤ b := by
        rcases hb with h | h | h
        · exact .inl (.inl (by rw [h, hg]))
        · exact .inl (.inr (.inl (by rw [h, hh])))
        · rcases hV b h with h | h
          · exact .inl (.inr (.inr h))
          · exact .inr h
      rcases key with h | h
      · exact .inl (.inr ⟨y, by unfold putT; rw [if_pos rfl]; simp, by rw [show locP loc y L y = L by unfold locP; rw [if_pos rfl]]; exact h⟩)
      · exact .inr h
    · rw [show locP loc x L' y = loc y by unfold locP; rw [if_neg e]] at hb
      unfold putT at hy
      rw [if_neg e] at hy
      exact .inl (.inr ⟨y, by unfold putT; rw [if_neg e]; exact hy, by rw [show locP loc x L y = loc y by unfold locP; rw [if_neg e]]; exact hb⟩)
theorem RangeG.cnt_le {P : Program} {kt : TypeId} {κ : Type} {C : KeyC P kt κ} {w : World} {b r n : Nat} {m : κ → Option Value} {left : κ → Bool} {cnt : Nat} (h : RangeG C w b r n m left cnt) : cnt ≤ n := by
  obtain ⟨D, l, ⟨es, clock, since, seen, c0, _, _, hn, _, _, _, hc, _⟩, _⟩ := h
  rw [← hc]
  exact Nat.le_trans (Array.size_filter_le) hn
section
variable {l : List Int} {left : Int → Bool} {h : Int → Option Int} {tx mode o m : Int}
theorem left_off {_ : ∀ p, Decidable (p = o)} : ∀ p, (left p && !decide (p = o)) = false ↔ left p = false ∨ p = o := fun p => by
  by_cases e : p = o <;> simp [e]
theorem wl_skip {d : ∀ p, Decidable (p = o)} (hl : ∀ p, p ∈ l ↔ left p = false ∧ ∃ m, h p = some m ∧ tx < p ∧ clash m mode = true) (hm : h o = some m) (hlo : left o = true) (hno : ¬ (tx < o ∧ clash m mode = true)) :
    ∀ p, p ∈ l ↔ (left p && !decide (p = o)) = false ∧ ∃ m, h p = some m ∧ tx < p ∧ clash m mode = true := fun p => by
  rw [left_off p, hl p]
  constructor
  · rintro ⟨h1, h2⟩; exact ⟨.inl h1, h2⟩
  · rintro ⟨h1 | h1, m2, h2, h3⟩
    · exact ⟨h1, m2, h2, h3⟩
    · subst h1; rw [hm] at h2; injection h2 with h2; subst h2; exact absurd h3 hno
theorem wl_take {d : ∀ p, Decidable (p = o)} (hl : ∀ p, p ∈ l ↔ left p = false ∧ ∃ m, h p = some m ∧ tx < p ∧ clash m mode = true) (hm : h o = some m) (hlo : left o = true) (hyes : tx < o ∧ clash m mode = true) (hnd : l.Nodup) :
    (l ++ [o]).Nodup ∧ ∀ p, p ∈ l ++ [o] ↔ (left p && !decide (p = o)) = false ∧ ∃ m, h p = some m ∧ tx < p ∧ clash m mode = true := by
  refine ⟨List.nodup_append.2 ⟨hnd, by simp, fun a ha b hb => ?_⟩, fun p => ?_⟩
  · simp at hb
    subst hb
    rintro rfl
    have := ((hl a).1 ha).1
    rw [hlo] at this; cases this
  · rw [left_off p, List.mem_append, hl p, List.mem_singleton]
    constructor
    · rintro (⟨h1, h2⟩ | h1)
      · exact ⟨.inl h1, h2⟩
      · subst h1; exact ⟨.inr rfl, m, hm, hyes⟩
    · rintro ⟨h1 | h1, h2⟩
      · exact .inl ⟨h1, h2⟩
      · exact .inr h1
end
def wlB (tx mode o m : Int) : Bool := decide (tx < o) && clash m mode
theorem int_infoL : (Tryz.prog.info? 3).map (fun i => (i.zero, i.size, i.bytes)) = some (some (.int .i64 0), 1, 8) := by kernel_rfl
/-- Those that are wounded are collected. -/
def WlRel (W : World) (h : Int → Option Int) (tx mode : Int) (hb r n : Nat) (v : Value) (wr : World) : Prop :=
  ∃ (left : Int → Bool) (cnt : Nat) (l : List Int), RangeG kI wr hb r n (hM h) left cnt ∧ l.length + cnt ≤ n ∧ wr.ownsRow (W.heap.size + 1) 3 1 v l.length (l.map (Value.int .i64)) ∧ l.Nodup ∧
    (∀ o, o ∈ l ↔ left o = false ∧ ∃ m, h o = some m ∧ tx < o ∧ clash m mode = true) ∧ Below W.heap.size W wr ∧ W.heap.size + 1 ≤ wr.heap.size
def InsRel (base n g off : Nat) (ty : TypeId) (cs : Array Value) (mb : Option Nat) (loc : Sx → KLoc) (T : Tb) (x : Ak) (w : World) (lg hb : Nat) (wx : World) : Prop :=
  ∃ (b1 : Nat) (V : Value), TabI wx base (n + 1) g off ty (cs.setIfInBounds off (.map (some b1))) (some b1) (locP loc x.key ⟨lg, hb, V⟩) (putT T x.key (some ⟨(atT T x.key).h, insW (atT T x.key).ws (x.tx, x.mode)⟩)) ∧
    (∀ b, TFoot (some b1) (locP loc x.key ⟨lg, hb, V⟩) (putT T x.key (some ⟨(atT T x.key).h, insW (atT T x.key).ws (x.tx, x.mode)⟩)) b → TFoot mb loc T b ∨ w.heap.size ≤ b) ∧ Fr (TFr g mb loc T) w wx ∧ Blk wx w.heap.size 3 #[.int .i64 x.tx] ∧ lg < wx.heap.size
set_option maxRecDepth 100000 in
set_option maxHeartbeats 12000000 in
theorem lock_blocked (base n g off : Nat) (ty : TypeId) (cs : Array Value) (mb : Option Nat) (loc : Sx → KLoc) (T : Tb) (s : ByteArray) (tx mode : Int) (w : World) (hI : TabI w base n g off ty cs mb loc T) (hmode : OkMode mode) (hl : (sx s).length ≤ 20) (htx : okN tx) (hn : n < 1000000)
    (hw : waitsB (atT T (sx s)).ws tx = false) (hfb : freeB (atT T (sx s)).h tx mode (atT T (sx s)).ws = false) (hsort : (atT T (sx s)).ws.Pairwise (·.1 < ·.1)) :
    Calls Tryz.prog 5 #[.pointer (some ⟨g, off, none⟩), .int .i64 tx, .string s, .int .i64 mode] w (LockPost base n g off ty cs mb loc T ⟨tx, sx s, mode⟩ w) := by
  have hb0 : Below w.heap.size w (w.alloc (.cells #[.int .i64 tx] 3)) := (Below.refl _ _).alloc (Nat.le_refl _) _
  have hI0 := hI.tall hb0
  have hB0 : Blk (w.alloc (.cells #[.int .i64 tx] 3)) w.heap.size 3 #[.int .i64 tx] := Blk.new w _ _
  have hat := at_any base n g off ty cs mb loc T s _ hI0 hl hn
  have HAT := Lib.hid hat; clear hat hI0
  have HI := Lib.hid hI; clear hI
  have HB0 := Lib.hid hB0; clear hB0
  have HBW := Lib.hid hb0; clear hb0
  have hl20 : ¬ ((s.size : Int) > 20) := by rw [sx_size]; omega
  go_enter Tryz.func5, Tryz.ntmps5
  go_upto_block 0 with (fail)
  go_cut [] (fun wx => wx = w.alloc (.cells #[.int .i64 tx] 3))
  case first =>
    rcases hmode with rfl | rfl
    · go_wp2_with fail
      go_meet
      rfl
    · go_wp2_with fail
      go_meet
      rfl
  case rest =>
    subst hcut
    go_wp2_with fail
    refine HAT.out.mono ?_
    rintro e w1 ⟨b1, L, rfl, hI1, hf1, hor, hL1, hL2⟩
    have hT1 : putT T (sx s) (some (atT T (sx s))) (sx s) = some (atT T (sx s)) := by unfold putT; rw [if_pos rfl]
    have hK1 := hI1.keys (sx s) _ hT1
    rw [show locP loc (sx s) L (sx s) = L by unfold locP; rw [if_pos rfl]] at hK1
    have hb1 := hf1.blk HB0.out (fun h => by
      rcases h with h | h
      · have := HI.out.blk.lt; omega
      · have := (HI.out.foot_lt (.inl h)).2; omega)
    have cb := hb1.cell 0
    have ck0 := hK1.blk.cell 0
    have ck1 := hK1.blk.cell 1
    have hgl := hK1.blk.lt
    have hblt := hb1.lt
    obtain ⟨A, c, hV, hnc, _⟩ := own_slice hK1.row
    simp only [List.getElem?_toArray, List.getElem?_cons_zero, List.getElem?_cons_succ] at cb ck0 ck1
    rw [hV] at ck1
    have hct := wcontains_any 21 #[.pointer (some ⟨w.heap.size, 0, none⟩)] (fun x => decide (x.1 = tx)) A _ c _ w1 (enters_w Tryz.func21 (by kernel_rfl) rfl) (lock1_any w.heap.size tx w1 cb) (Rd.of_own (hV ▸ hK1.row)) rfl (by have := hK1.len; omega)
    rw [show (atT T (sx s)).ws.any (fun x => decide (x.1 = tx)) = false from hw] at hct
    have HCT := Lib.hid hct; clear hct
    have HK1 := Lib.hid hK1; clear hK1
    have HI1 := Lib.hid hI1; clear hI1
    have HF1 := Lib.hid hf1; clear hf1
    have HOR := Lib.hid hor; clear hor
    have HL1 := Lib.hid hL1; clear hL1
    have HL2 := Lib.hid hL2; clear hL2
    have HV := Lib.hid hV; clear hV
    have HBB := Lib.hid hb1; clear hb1 hT1 HAT
    go_wp2_with fail
    refine HCT.out.mono ?_
    rintro e w2 ⟨rfl, hb2⟩
    have hkeep : ∀ W, Below w1.heap.size w1 W → KeyI W base (n + 1) L (atT T (sx s)) ∧ W.cell? ⟨w.heap.size, 0, none⟩ = some (.int .i64 tx) ∧ W.cell? ⟨L.g, 0, none⟩ = some (.map (some L.hb)) ∧ W.cell? ⟨L.g, 1, none⟩ = some (.slice A (atT T (sx s)).ws.length c) := fun W hW => by
      have h1 := HK1.out.tall hW
      have h2 := h1.blk.cell 0
      have h3 := h1.blk.cell 1
      have h4 := (HBB.out.below hW hblt).cell 0
      simp only [List.getElem?_toArray, List.getElem?_cons_zero, List.getElem?_cons_succ] at h2 h3 h4
      rw [HV.out] at h3
      exact ⟨h1, h4, h2, h3⟩
    have hfree : ∀ W, Below w1.heap.size w1 W → Calls Tryz.prog 22 #[.pointer (some ⟨L.g, 0, none⟩), .int .i64 tx, .int .i64 mode, .slice A (atT T (sx s)).ws.length c] W fun e w' => e = .returned (.bool false) ∧ Below W.heap.size W w' := fun W hW => by
      have h1 := (hkeep W hW).1
      have h2 := free_any L.g L.hb (n + 1) (atT T (sx s)).ws.length c L.V (atT T (sx s)).h tx mode A (atT T (sx s)).ws W h1.blk h1.holds h1.okh htx (Rd.of_own (HV.out ▸ h1.row)) rfl (by have := h1.len; omega)
      rw [hfb] at h2
      exact h2
    have HKEEP := Lib.hid hkeep; clear hkeep
    have HFREE := Lib.hid hfree; clear hfree
    have HB2 := Lib.hid hb2; clear hb2 HCT
    have HLG := Lib.hid hgl; clear hgl
    have HBLT := Lib.hid hblt
    have HTX := Lib.hid htx
    clear cb ck0 ck1 hblt hnc
    go_upto_region 8 with (fail)
    go_cut [47] (fun s47 wx => s47 = .bool false ∧ Below w1.heap.size w1 wx)
    case first =>
      --{r8
      refine wp_region_any (by kernel_rfl) ?_
      change wpAny _ _ _ _ _ _ _ (World.drew _)
      refine nplainQ (fun w' => w'.cell? ⟨w.heap.size, 0, none⟩ = some (.int .i64 tx) ∧ w'.cell? ⟨L.g, 1, none⟩ = some (.slice A (atT T (sx s)).ws.length c)) 8 (fun _ _ _ _ _ h => h) (fun HQP => ?_)
      have hk0 := HKEEP.out w2.drew HB2.out.drew
      have HCC := And.intro hk0.2.1 hk0.2.2.2
      clear hk0
      refine ntakeW 0 rfl rfl (by kernel_rfl) (by kernel_rfl) (by kernel_rfl) (by kernel_rfl) (fun _ _ _ h => HQP _ _ _ _ _ h) (by kernel_rfl) HCC (fun w' hw' => by go_simp; rfl) ?_
      refine ntakeW 1 rfl rfl (by kernel_rfl) (by kernel_rfl) (by kernel_rfl) (by kernel_rfl) (fun _ _ _ h => HQP _ _ _ _ _ h) (by kernel_rfl) HCC (fun w' hw' => by obtain ⟨h0, h1⟩ := hw'; go_simp; rfl) ?_
      refine ntakeW 2 rfl rfl (by kernel_rfl) (by kernel_rfl) (by kernel_rfl) (by kernel_rfl) (fun _ _ _ h => HQP _ _ _ _ _ h) (by kernel_rfl) HCC (fun w' hw' => by go_simp; rfl) ?_
      refine ntakeW 3 rfl rfl (by kernel_rfl) (by kernel_rfl) (by kernel_rfl) (by kernel_rfl) (fun _ _ _ h => HQP _ _ _ _ _ h) (by kernel_rfl) HCC (fun w' hw' => by go_simp; rfl) ?_
      refine ntakeW 4 rfl rfl (by kernel_rfl) (by kernel_rfl) (by kernel_rfl) (by kernel_rfl) (fun _ _ _ h => HQP _ _ _ _ _ h) (by kernel_rfl) HCC (fun w' hw' => by go_simp; rfl) ?_
      refine ntakeW 5 rfl rfl (by kernel_rfl) (by kernel_rfl) (by kernel_rfl) (by kernel_rfl) (fun _ _ _ h => HQP _ _ _ _ _ h) (by kernel_rfl) HCC (fun w' hw' => by go_simp; rfl) ?_
      refine ntakeW 6 rfl rfl (by kernel_rfl) (by kernel_rfl) (by kernel_rfl) (by kernel_rfl) (fun _ _ _ h => HQP _ _ _ _ _ h) (by kernel_rfl) HCC (fun w' hw' => by obtain ⟨h0, h1⟩ := hw'; go_simp; rfl) ?_
      refine nonly 7 (by kernel_rfl) rfl (by kernel_rfl) (fun K hK => ?_)
      go_simp
      refine (HFREE.out w2.drew HB2.out.drew).mono ?_
      rintro e w3 ⟨rfl, hb3⟩
      have hB3 : Below w1.heap.size w1 w3 := HB2.out.drew.trans (hb3.mono (by have := HB2.out.size; simpa using this))
      have HB3 := Lib.hid hB3; clear hB3 hb3
      have hk0 := HKEEP.out w3 HB3.out
      go_simp
      refine hK _ _ (fun _ => ⟨hk0.2.1, hk0.2.2.2⟩) ?_
      clear hK K HCC
      refine ndone (by kernel_rfl) ?_ _
      clear HQP hk0
      go_wp2_with fail
      go_meet
      exact ⟨rfl, HB3.out⟩
      --}r8
    case rest =>
      obtain ⟨hu47, hb3⟩ := hcut
      subst hu47
      clear HFREE HB2
      have HB3 := Lib.hid hb3; clear hb3
      have hI3 := HI1.out.tall HB3.out
      have HI3 := Lib.hid hI3; clear hI3
      obtain ⟨_, ctx, cg0, cg1⟩ := HKEEP.out wc HB3.out
      by_cases h50 : (atT T (sx s)).ws.length = 50
      · --{full
        have hfin : LockPost base n g off ty cs mb loc T ⟨tx, sx s, mode⟩ w (.returned (.tuple #[.bool false, .slice none 0 0, erV 4])) wc := by
          have hex : T (sx s) ≠ none := fun h => by rw [show atT T (sx s) = k0 by unfold atT; rw [h]; rfl] at h50; cases h50
          obtain ⟨k, hk⟩ := Option.ne_none_iff_exists'.1 hex
          have hT : putT T (sx s) (some (atT T (sx s))) = T := putT_same hk
          have hI2 := HI3.out
          rw [hT] at hI2
          refine ⟨false, [], 4, T, none, 0, some b1, _, rfl, .full hmode hl hw hfb h50, hI2.mono (by omega), fun b hb => ?_, (at_frame HF1.out).trans' (fr_of_belowK HB3.out) (fun i hi (h : _ ≤ i) => ?_), Rd.none_ _ _ _ _, fun b o h => (nomatch h)⟩
          · have h2 := at_foot (w := w) (k' := atT T (sx s)) HOR.out (by simp) HL1.out HL2.out b
            rw [hT] at h2
            exact h2 hb
          · have := HF1.out.size; simp at this; omega
        have HFIN := Lib.hid hfin; clear hfin
        have d50 : (((atT T (sx s)).ws.length : Int) == 50) = true := by simp [h50]
        unfold erV at HFIN
        go_wp2_with fail
        go_ret3
        exact HFIN.out
        --}full
      have d50 : (((atT T (sx s)).ws.length : Int) == 50) = false := by rw [beq_eq_false_iff_ne]; omega
      have H50 := Lib.hid h50; clear h50
      go_upto_region 13 with (fail)
      clear d50 ctx cg0 cg1
      go_cut [12] (fun s12 wx => ∃ i : Nat, s12 = .int .i64 i ∧ Hid (i ≤ (atT T (sx s)).ws.length ∧ ((atT T (sx s)).ws.takeWhile (fun x => decide (x.1 < tx))).length = i) ∧ Below w1.heap.size w1 wx)
      case first =>
        --{r13
        refine wp_region_any (by kernel_rfl) ?_
        change wpAny _ _ _ _ _ _ _ (World.drew _)
        refine nplainQ (fun w' => w'.cell? ⟨w.heap.size, 0, none⟩ = some (.int .i64 tx) ∧ w'.cell? ⟨L.g, 1, none⟩ = some (.slice A (atT T (sx s)).ws.length c)) 10 (fun _ _ _ _ _ h => h) (fun HQP => ?_)
        have hk0 := HKEEP.out wc.drew HB3.out.drew
        have HCC := And.intro hk0.2.1 hk0.2.2.2
        have hbs := wsearch_any 24 (cfW tx) A _ c (atT T (sx s)).ws tx wc.drew (enters_w Tryz.func24 (by kernel_rfl) rfl) (lock2_any tx wc.drew) (Rd.of_own (HV.out ▸ hk0.1.row)) rfl (by have := hk0.1.len; omega) (fun _ _ => trivial) (cfW_mono hsort)
        have HBS := Lib.hid hbs; clear hbs
        clear hk0
        refine ntakeW 0 rfl rfl (by kernel_rfl) (by kernel_rfl) (by kernel_rfl) (by kernel_rfl) (fun _ _ _ h => HQP _ _ _ _ _ h) (by kernel_rfl) HCC (fun w' hw' => by go_simp; rfl) ?_
        refine ntakeW 1 rfl rfl (by kernel_rfl) (by kernel_rfl) (by kernel_rfl) (by kernel_rfl) (fun _ _ _ h => HQP _ _ _ _ _ h) (by kernel_rfl) HCC (fun w' hw' => by go_simp; rfl) ?_
        refine ntakeW 2 rfl rfl (by kernel_rfl) (by kernel_rfl) (by kernel_rfl) (by kernel_rfl) (fun _ _ _ h => HQP _ _ _ _ _ h) (by kernel_rfl) HCC (fun w' hw' => by go_simp; rfl) ?_
        refine ntakeW 3 rfl rfl (by kernel_rfl) (by kernel_rfl) (by kernel_rfl) (by kernel_rfl) (fun _ _ _ h => HQP _ _ _ _ _ h) (by kernel_rfl) HCC (fun w' hw' => by obtain ⟨h0, h1⟩ := hw'; go_simp; rfl) ?_
        refine ntakeW 4 rfl rfl (by kernel_rfl) (by kernel_rfl) (by kernel_rfl) (by kernel_rfl) (fun _ _ _ h => HQP _ _ _ _ _ h) (by kernel_rfl) HCC (fun w' hw' => by obtain ⟨h0, h1⟩ := hw'; go_simp; rfl) ?_
        refine nonly 5 (by kernel_rfl) rfl (by kernel_rfl) (fun K hK => ?_)
        go_simp
        refine HBS.out.mono ?_
        rintro e w4 ⟨i, f, rfl, hi, hlo, hhi, _, hb4⟩
        have hpl := place_eq hi hlo hhi
        have HPL := Lib.hid (And.intro hi hpl); clear hi hlo hhi hpl
        have hB4 : Below w1.heap.size w1 w4 := HB3.out.drew.trans (hb4.mono (by have := HB3.out.size; simpa using this))
        have HB4 := Lib.hid hB4; clear hB4 hb4 HBS
        have hk0 := HKEEP.out w4 HB4.out
        have HCC2 := And.intro hk0.2.1 hk0.2.2.2
        clear hk0 HCC
        have HCC := HCC2; clear HCC2
        go_simp
        refine hK _ _ (fun _ => HCC) ?_
        clear hK K
        refine nonly 6 (by kernel_rfl) rfl (by kernel_rfl) (fun K hK => ?_)
        go_simp
        refine hK _ _ (fun _ => HCC) ?_
        clear hK K
        refine ntakeW 7 rfl rfl (by kernel_rfl) (by kernel_rfl) (by kernel_rfl) (by kernel_rfl) (fun _ _ _ h => HQP _ _ _ _ _ h) (by kernel_rfl) HCC (fun w' hw' => by go_simp; rfl) ?_
        refine ntakeW 8 rfl rfl (by kernel_rfl) (by kernel_rfl) (by kernel_rfl) (by kernel_rfl) (fun _ _ _ h => HQP _ _ _ _ _ h) (by kernel_rfl) HCC (fun w' hw' => by go_simp; rfl) ?_
        refine nonly 9 (by kernel_rfl) rfl (by kernel_rfl) (fun K hK => ?_)
        go_simp
        refine hK _ _ (fun _ => HCC) ?_
        clear hK K
        refine nonly 10 (by kernel_rfl) rfl (by kernel_rfl) (fun K hK => ?_)
        go_simp
        refine hK _ _ (fun h => absurd h (by decide)) ?_
        clear hK K
        refine ndone (by kernel_rfl) ?_ _
        clear HQP HCC
        go_wp2_with fail
        go_meet
        exact ⟨i, rfl, HPL, HB4.out⟩
        --}r13
      case rest =>
        obtain ⟨i, hu12, hpl, hb4⟩ := hcut
        subst hu12
        have HB4 := Lib.hid hb4; clear hb4 HB3 HI3
        have HPL := Lib.hid hpl.out; clear hpl
        go_upto_region 14 with (fail)
        go_cut [] (fun wx => InsRel base n g off ty cs mb loc T ⟨tx, sx s, mode⟩ w L.g L.hb wx)
        case first =>
          --{r14
          refine wp_region_any (by kernel_rfl) ?_
          change wpAny _ _ _ _ _ _ _ (World.drew _)
          refine nplainQ (fun w' => w'.cell? ⟨w.heap.size, 0, none⟩ = some (.int .i64 tx) ∧ w'.cell? ⟨L.g, 1, none⟩ = some (.slice A (atT T (sx s)).ws.length c)) 11 (fun _ _ _ _ _ h => h) (fun HQP => ?_)
          have hk0 := HKEEP.out wc.drew HB4.out.drew
          have HCC := And.intro hk0.2.1 hk0.2.2.2
          clear hk0
          refine ntakeW 0 rfl rfl (by kernel_rfl) (by kernel_rfl) (by kernel_rfl) (by kernel_rfl) (fun _ _ _ h => HQP _ _ _ _ _ h) (by kernel_rfl) HCC (fun w' hw' => by go_simp; rfl) ?_
          refine ntakeW 1 rfl rfl (by kernel_rfl) (by kernel_rfl) (by kernel_rfl) (by kernel_rfl) (fun _ _ _ h => HQP _ _ _ _ _ h) (by kernel_rfl) HCC (fun w' hw' => by go_simp; rfl) ?_
          refine ntakeW 2 rfl rfl (by kernel_rfl) (by kernel_rfl) (by kernel_rfl) (by kernel_rfl) (fun _ _ _ h => HQP _ _ _ _ _ h) (by kernel_rfl) HCC (fun w' hw' => by go_simp; rfl) ?_
          refine ntakeW 3 rfl rfl (by kernel_rfl) (by kernel_rfl) (by kernel_rfl) (by kernel_rfl) (fun _ _ _ h => HQP _ _ _ _ _ h) (by kernel_rfl) HCC (fun w' hw' => by go_simp; rfl) ?_
          refine ntakeW 4 rfl rfl (by kernel_rfl) (by kernel_rfl) (by kernel_rfl) (by kernel_rfl) (fun _ _ _ h => HQP _ _ _ _ _ h) (by kernel_rfl) HCC (fun w' hw' => by obtain ⟨h0, h1⟩ := hw'; go_simp; rfl) ?_
          refine ntakeW 5 rfl rfl (by kernel_rfl) (by kernel_rfl) (by kernel_rfl) (by kernel_rfl) (fun _ _ _ h => HQP _ _ _ _ _ h) (by kernel_rfl) HCC (fun w' hw' => by go_simp; rfl) ?_
          refine ntakeW 6 rfl rfl (by kernel_rfl) (by kernel_rfl) (by kernel_rfl) (by kernel_rfl) (fun _ _ _ h => HQP _ _ _ _ _ h) (by kernel_rfl) HCC (fun w' hw' => by obtain ⟨h0, h1⟩ := hw'; go_simp; rfl) ?_
          refine ntakeW 7 rfl rfl (by kernel_rfl) (by kernel_rfl) (by kernel_rfl) (by kernel_rfl) (fun _ _ _ h => HQP _ _ _ _ _ h) (by kernel_rfl) HCC (fun w' hw' => by go_simp; rfl) ?_
          refine ntakeW 8 rfl rfl (by kernel_rfl) (by kernel_rfl) (by kernel_rfl) (by kernel_rfl) (fun _ _ _ h => HQP _ _ _ _ _ h) (by kernel_rfl) HCC (fun w' hw' => by go_simp; rfl) ?_
          refine nonly 9 (by kernel_rfl) rfl (by kernel_rfl) (fun K hK => ?_)
          go_simp
          have hB5 : Below w1.heap.size w1 ((wc.alloc (.cells #[.int .i64 tx, .int .i64 mode] 62)).drew) := (HB4.out.alloc (by have := HB4.out.size; simpa using this) _).drew
          have hk5 := HKEEP.out _ hB5
          have hI5 := HI1.out.tall hB5
          have hvb : Blk ((wc.alloc (.cells #[.int .i64 tx, .int .i64 mode] 62)).drew) wc.heap.size 62 #[.int .i64 tx, .int .i64 mode] := Blk.new wc _ _
          have hbx5 := HBB.out.below hB5 HBLT.out
          have hins := wins_any base (atT T (sx s)).ws.length i wc.heap.size 1 L.V ((atT T (sx s)).ws.flatMap wtCells) (wtCells (tx, mode)) _ hk5.1.row HPL.out.1 (by have := hk5.1.len; omega) (fun u hu => by
            obtain ⟨x, _, hx⟩ := List.mem_flatMap.1 hu
            simp only [wtCells, List.mem_cons, List.not_mem_nil, or_false] at hx
            rcases hx with rfl | rfl <;> rfl) rfl (fun u hu => by
            simp only [wtCells, List.mem_cons, List.not_mem_nil, or_false] at hu
            rcases hu with rfl | rfl <;> rfl) hvb (fun e => by have := (HK1.out.foot_lt (.inr (.inr e))).2; have := HB4.out.size; omega) (by have := HI1.out.bg; have := HB4.out.size; simp; omega)
          generalize hW5 : (wc.alloc (.cells #[.int .i64 tx, .int .i64 mode] 62)).drew = w5 at *
          have HINS := Lib.hid hins; clear hins
          have HK5 := Lib.hid hk5.1
          have HI5 := Lib.hid hI5; clear hI5
          have HB5 := Lib.hid hB5; clear hB5
          have HX5 := Lib.hid hbx5; clear hbx5 hvb
          have HCC2 := And.intro hk5.2.1 hk5.2.2.2
          clear hk5 HCC
          have HCC := HCC2; clear HCC2
          clear hW5
          refine hK _ _ (fun _ => HCC) ?_
          clear hK K
          refine nonly 10 (by kernel_rfl) rfl (by kernel_rfl) (fun K hK => ?_)
          rw [HV.out] at HINS
          go_simp
          refine HINS.out.mono ?_
          rintro e w6 ⟨V', rfl, hrow, hmv⟩
          rw [← HV.out] at hmv
          obtain ⟨hK6, hf6⟩ := key_ins HK5.out HPL.out.2 H50.out hrow hmv HTX.out hmode
          have hb6 := hmv.1.blk HK5.out.blk (fun e => own_blk_ne HK5.out.row HK5.out.blk (by decide) e.symm)
          have cs1 := hb6.cell 1
          have cf1 := hb6.frozen 1
          have hg6 := hb6.lt
          simp only [List.getElem?_toArray, List.getElem?_cons_zero, List.getElem?_cons_succ] at cs1
          have hbx6 := hmv.1.blk HX5.out (fun e => own_blk_ne HK5.out.row HX5.out (by decide) e.symm)
          have cx6 := hbx6.cell 0
          simp only [List.getElem?_toArray, List.getElem?_cons_zero] at cx6
          have hc6 := cs1
          rw [HV.out] at hc6
          have HC6 := Lib.hid (And.intro cx6 hc6); clear cx6 hc6 hbx6
          have hfin : InsRel base n g off ty cs mb loc T ⟨tx, sx s, mode⟩ w L.g L.hb (w6.setCell ⟨L.g, 1, none⟩ V') := by
            have hT1 : putT T (sx s) (some (atT T (sx s))) (sx s) = some (atT T (sx s)) := by unfold putT; rw [if_pos rfl]
            have hLL : locP loc (sx s) L (sx s) = L := by unfold locP; rw [if_pos rfl]
            have hI6 := HI5.out.turn (n' := n + 1) (L' := ⟨L.g, L.hb, V'⟩) (k' := ⟨(atT T (sx s)).h, insW (atT T (sx s)).ws (tx, mode)⟩) hT1 (Nat.le_refl _) (by rw [hLL]; exact hf6) hK6 (by rw [hLL]) (by rw [hLL]) (fun b hb => by
              rw [hLL]
              rcases hmv.2 with e | ⟨g', e, hg'⟩
              · exact .inl (e.symm.trans hb)
              · rw [hb] at e; injection e with e; exact .inr (by omega))
            rw [putT_put, locP_put] at hI6
            refine ⟨b1, V', hI6, fun b hb => ?_, ?_, ?_, by simp [World.setCell]; exact hg6⟩
            · rcases foot_ins (L := L) (L' := ⟨L.g, L.hb, V'⟩) (k := atT T (sx s)) (k' := ⟨(atT T (sx s)).h, insW (atT T (sx s)).ws (tx, mode)⟩) (B := w5.heap.size) rfl rfl (fun b hb => by
                rcases hmv.2 with e | ⟨g', e, hg'⟩
                · exact .inl (e.symm.trans hb)
                · have hb' : V'.ownBlock = some b := hb
                  rw [hb'] at e; injection e with e; exact .inr (by omega)) b hb with h | h
              · exact at_foot HOR.out (by simp) HL1.out HL2.out b h
              · exact .inr (by have := HB5.out.size; have := HF1.out.size; simp at this; omega)
            · refine ((at_frame HF1.out).trans' (fr_of_belowK HB5.out) (fun i hi (h : _ ≤ i) => ?_)).trans' hf6 (fun i hi (h : KFoot L i) => ?_)
              · have := HF1.out.size; simp at this; omega
              · by_cases hTn : T (sx s) = none
                · have := HL2.out hTn i h; simp at this; omega
                · exact .inr (.inr ⟨sx s, hTn, by rw [← HL1.out hTn]; exact h⟩)
            · exact (hmv.1.blk HX5.out (fun e => own_blk_ne HK5.out.row HX5.out (by decide) e.symm)).far (fun e => HX5.out.ne_ HK5.out.blk (by decide) e) _
          obtain ⟨A', c', hV', _, _⟩ := own_slice hrow
          have HFIN := Lib.hid hfin; clear hfin hK6 hf6 hb6 hrow hmv
          subst hV'
          clear HCC
          go_simp
          refine hK _ _ (fun _ => HC6.out) ?_
          clear hK K
          refine nonly 11 (by kernel_rfl) rfl (by kernel_rfl) (fun K hK => ?_)
          go_simp
          refine hK _ _ (fun h => absurd h (by decide)) ?_
          clear hK K
          refine nonly 12 (by kernel_rfl) rfl (by kernel_rfl) (fun K hK => ?_)
          go_simp
          refine hK _ _ (fun h => absurd h (by decide)) ?_
          clear hK K
          refine nonly 13 (by kernel_rfl) rfl (by kernel_rfl) (fun K hK => ?_)
          go_simp
          refine hK _ _ (fun h => absurd h (by decide)) ?_
          clear hK K
          refine ndone (by kernel_rfl) ?_ _
          clear HQP cs1 cf1 hg6
          go_wp2_with fail
          go_meet
          exact HFIN.out
          --}r14
        case rest =>
          --{tail
          obtain ⟨b2, V, hI6, hft, hfr, hbx, hlg⟩ := hcut
          rename World => W6
          clear HKEEP HPL HB4 HF1 HOR HL1 HL2 HV HK1 HI1
          have hK6 := hI6.keys (sx s) _ (show putT T (sx s) _ (sx s) = _ by unfold putT; rw [if_pos rfl])
          rw [show locP loc (sx s) ⟨L.g, L.hb, V⟩ (sx s) = ⟨L.g, L.hb, V⟩ by unfold locP; rw [if_pos rfl]] at hK6
          have ck0 := hK6.blk.cell 0
          have cb := hbx.cell 0
          simp only [List.getElem?_toArray, List.getElem?_cons_zero] at ck0 cb
          have hbl := hbx.lt
          have HMAP := Lib.hid hK6.holds
          have HOKH := Lib.hid hK6.okh
          have hhb := hK6.holds.lt
          have HI6 := Lib.hid hI6; clear hI6
          have HFT := Lib.hid hft; clear hft
          have HFR := Lib.hid hfr; clear hfr
          have HBX := Lib.hid hbx; clear hbx hK6
          have HHB := Lib.hid hhb; clear hhb
          go_wp2_with (at_range; refine wpList_rangeG rfl _ 63 3 rfl Tryz.underlying63 rfl HMAP.out ?_; intro w0 cnt0 hrg0 hf0 hs0)
          try go_frame
          go_loopw [14] (fun v wr => WlRel W6 (atT T (sx s)).h tx mode L.hb W6.heap.size (n + 1) v wr) (fun _ wr => wr.rangeLeft L.hb W6.heap.size)
          case atStart => exact ⟨_, cnt0, [], hrg0, (by simpa using hrg0.cnt_le), World.ownsRow_nil _ _ _ _, List.nodup_nil, (fun o => by
            simp only [List.not_mem_nil, false_iff]
            rintro ⟨h1, m, h2, _⟩
            simp [hM, h2] at h1), hf0.none_below, by omega⟩
          case round =>
            obtain ⟨left, cnt, l, hrg, hcn, hown, hnd, hmem, hbw, hsz⟩ := hrel
            have cb1 := (hbw.cell (p := ⟨w.heap.size, 0, none⟩) hbl).trans cb
            have hblw : w.heap.size < wr.heap.size := by omega
            have HRG := Lib.hid hrg; clear hrg
            have HOWN := Lib.hid hown; clear hown
            have HND := Lib.hid hnd; clear hnd
            have HMEM := Lib.hid hmem; clear hmem
            have HBW := Lib.hid hbw; clear hbw
            have HCN := Lib.hid hcn; clear hcn
            have HSZ := Lib.hid hsz; clear hsz
            go_wp2_with (at_next; refine wpList_nextG rfl _ rfl rfl HRG.out ?_ ?_)
            · --{done
              intro hl0
              have hsrt := sort_ints (W6.heap.size + 1) l.length _ l wr HOWN.out rfl (by have := HCN.out; omega)
              have HSRT := Lib.hid hsrt; clear hsrt
              obtain ⟨A2, c2, hV2, _, hA2⟩ := own_slice HOWN.out
              subst hV2
              go_wp2_with fail
              refine HSRT.out.mono ?_
              rintro e w9 ⟨rfl, hown9, hf9⟩
              have hfin : LockPost base n g off ty cs mb loc T ⟨tx, sx s, mode⟩ w (.returned (.tuple #[.bool false, .slice A2 l.length c2, erV 0])) w9 := by
                have hb9 : Below W6.heap.size W6 w9 := HBW.out.trans (hf9.below (fun i hi => by have := (HOWN.out.lt i hi).1; omega) (by have := HBW.out.size; omega))
                have hsl : (sortI l).length = l.length := List.length_mergeSort l
                refine ⟨false, sortI l, 0, _, A2, c2, some b2, _, by rw [hsl], .waits hmode hl hw hfb H50.out ⟨sortI_lt HND.out, fun o => ?_⟩, (HI6.out.tall hb9).mono (by omega), HFT.out, HFR.out.trans' (fr_of_belowK hb9) (fun i hi (h : _ ≤ i) => by have := HFR.out.size; omega), ?_, fun b o e h0 => ?_⟩
                · rw [mem_sortI, HMEM.out o]
                  constructor
                  · rintro ⟨_, m, h1, h2, h3⟩; exact ⟨h2, m, h1, h3⟩
                  · rintro ⟨h2, m, h1, h3⟩; exact ⟨hl0 o (HOKH.out o m h1).1, m, h1, h2, h3⟩
                · rw [hsl]; exact Rd.of_own hown9
                · have h1 := HOWN.out.lt b (by rw [hA2 _ e])
                  refine ⟨by have := HFR.out.size; omega, fun h2 => ?_⟩
                  have := (HI6.out.foot_lt h2).2
                  omega
              have HFIN := Lib.hid hfin; clear hfin hf9 hown9
              unfold erV at HFIN
              go_wp2_with fail
              go_ret3
              exact HFIN.out
              --}done
            · intro o v w3 cnt3 hox hlx hmx hrg3 hlt hf3 hs3 hen
              obtain ⟨m, hm, rfl⟩ : ∃ m, (atT T (sx s)).h o = some m ∧ v = .int .i64 m := by
                unfold hM at hmx
                cases e : (atT T (sx s)).h o with
                | none => rw [e] at hmx; cases hmx
                | some m => rw [e] at hmx; injection hmx with hmx; exact ⟨m, rfl, hmx.symm⟩
              have hb3 : Below W6.heap.size W6 w3 := HBW.out.trans (hf3.below (fun i (hi : i = _) => by omega) (by have := HBW.out.size; omega))
              have hown3 := hf3.own HOWN.out (fun b hb (e : b = _) => by have := (HOWN.out.lt b hb).1; omega)
              have cb3 := (hf3.cell (p := ⟨w.heap.size, 0, none⟩) hblw (fun e => by have : w.heap.size = W6.heap.size := e; omega)).trans cb1
              have hblw3 : w.heap.size < w3.heap.size := by omega
              have HB3 := Lib.hid hb3; clear hb3
              have HO3 := Lib.hid hown3; clear hown3
              have HM3 := Lib.hid hm; clear hm
              have HRG3 := Lib.hid hrg3; clear hrg3 hmx
              have HLX := Lib.hid hlx; clear hlx
              rw [show kI.val o = Value.int .i64 o from rfl] at hen ⊢
              have hms : w3.rangeLeft L.hb W6.heap.size < wr.rangeLeft L.hb W6.heap.size := by
                rw [HRG3.out.left_eq, HRG.out.left_eq]; exact hlt
              have HMS := Lib.hid hms; clear hms
              have HLT := Lib.hid hlt; clear hlt hf3
              have HS3 := Lib.hid hs3; clear hs3
              clear cb1 hblw
              have hskip : ¬ (tx < o ∧ clash m mode = true) → WlRel W6 (atT T (sx s)).h tx mode L.hb W6.heap.size (n + 1) _ w3 := fun hno =>
                ⟨_, cnt3, l, HRG3.out, by have := HCN.out; have := HLT.out; omega, HO3.out, HND.out, wl_skip HMEM.out HM3.out HLX.out hno, HB3.out, by have := HSZ.out; have := HS3.out; omega⟩
              have HSKIP := Lib.hid hskip; clear hskip
              have hgo : ∀ V9 w9, (tx < o ∧ clash m mode = true) → w9.ownsRow (W6.heap.size + 1) 3 1 V9 (l.length + 1) (l.map (Value.int .i64) ++ [Value.int .i64 o]) → Below (W6.heap.size + 1) w3 w9 →
                  WlRel W6 (atT T (sx s)).h tx mode L.hb W6.heap.size (n + 1) V9 w9 ∧ w9.rangeLeft L.hb W6.heap.size < wr.rangeLeft L.hb W6.heap.size := fun V9 w9 hyes hown9 hb9 => by
                have hrg9 : RangeG kI w9 L.hb W6.heap.size (n + 1) (hM (atT T (sx s)).h) _ cnt3 := HRG3.out.of_blocks (hb9.block _ (by have := HHB.out; omega)) (hb9.block _ (by omega))
                have hw := wl_take (d := fun p => Classical.propDecidable (p = o)) HMEM.out HM3.out HLX.out hyes HND.out
                refine ⟨⟨_, cnt3, l ++ [o], hrg9, by have := HCN.out; have := HLT.out; simp; omega, by simpa using hown9, hw.1, hw.2, HB3.out.trans (hb9.mono (by omega)), by have := hb9.size; have := HSZ.out; have := HS3.out; omega⟩, ?_⟩
                rw [hrg9.left_eq, HRG.out.left_eq]; exact HLT.out
              have HGO := Lib.hid hgo; clear hgo
              go_upto_region 19 with (fail)
              go_cut [110] (fun s110 wx => s110 = .bool (wlB tx mode o m) ∧ wx = w3)
              case first =>
                by_cases h1 : tx < o
                · have d1 : decide (o > tx) = true := decide_eq_true h1
                  by_cases h2 : m = 2
                  · have d2 : (m == 2) = true := by simpa using h2
                    have HV9 := Lib.hid (show wlB tx mode o m = true by simp [wlB, h1, clash, h2])
                    go_wp2_with fail
                    go_meet
                    exact ⟨by rw [HV9.out], rfl⟩
                  · have d2 : (m == 2) = false := by simpa using h2
                    by_cases h3 : mode = 2
                    · have d3 : (mode == 2) = true := by simpa using h3
                      have HV9 := Lib.hid (show wlB tx mode o m = true by simp [wlB, h1, clash, h3])
                      go_wp2_with fail
                      go_meet
                      exact ⟨by rw [HV9.out], rfl⟩
                    · have d3 : (mode == 2) = false := by simpa using h3
                      have HV9 := Lib.hid (show wlB tx mode o m = false by simp [wlB, h1, clash, h2, h3])
                      go_wp2_with fail
                      go_meet
                      exact ⟨by rw [HV9.out], rfl⟩
                · have d1 : decide (o > tx) = false := decide_eq_false h1
                  have HV9 := Lib.hid (show wlB tx mode o m = false by simp [wlB, h1])
                  go_wp2_with fail
                  go_meet
                  exact ⟨by rw [HV9.out], rfl⟩
              case rest =>
                obtain ⟨hu110, hwc⟩ := hcut
                subst hu110 hwc
                rcases hyB : wlB tx mode o m with _ | _
                · have hno : ¬ (tx < o ∧ clash m mode = true) := fun h => by simp [wlB, h.1, h.2] at hyB
                  have HR := Lib.hid (HSKIP.out hno)
                  go_wp2_with fail
                  go_roundw
                  case rel => exact HR.out
                  case measure => exact HMS.out
                · have hyes : tx < o ∧ clash m mode = true := by simpa [wlB] using hyB
                  have HY := Lib.hid hyes; clear hyes
                  go_wp2_with (at_builtin; refine stop ?_)
                  refine back ?_
                  refine wpList_append1 _ _ rfl (.tmp 111) (.tmp 113) 32 rfl (W6.heap.size + 1) 3 (.int .i64 0) 1 8 Tryz.underlying32 int_infoL rfl (by decide) _ _ _ #[.int .i64 o] rfl HO3.out 1 rfl _ rfl rfl (by simp [Value.oneCell']) ?_ ?_ ?_ ?_
                  · have := HCN.out; unfold maxLen; omega
                  · have := HCN.out; omega
                  · have := HSZ.out; have := HS3.out; omega
                  intro v' w9 hown9 hmv
                  have h9 := HGO.out v' w9 HY.out (by simpa using hown9) (hmv.below (fun b hb => (HO3.out.lt b hb).1) (by have := HSZ.out; have := HS3.out; omega))
                  have H9 := Lib.hid h9; clear h9 hown9 hmv
                  go_wp2_with fail
                  go_roundw
                  case rel => exact H9.out.1
                  case measure => exact H9.out.2
          --}tail
end Go.Proofs.YtopmehbncidpnaaGreatDoor
