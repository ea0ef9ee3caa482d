/- locks: (*Table).Lock: it waits already; it gets the key; too many wait. -/
import Derived.Test.YtopmehbncidpnaaGreatDoorLk6
import Derived.Test.YtopmehbncidpnaaGreatDoorHeldD
import Derived.Deep.DeepCutAuto
namespace Go.Proofs.YtopmehbncidpnaaGreatDoor
open Go.RowKit
def LockPost (base n g off : Nat) (ty : TypeId) (cs : Array Value) (mb : Option Nat) (loc : Sx → KLoc) (T : Tb) (x : Ak) (w : World) (e : Ending) (w' : World) : Prop :=
  ∃ (ok : Bool) (l : List Int) (er : Int) (T' : Tb) (A : Option Addr) (c : Nat) (mb' : Option Nat) (loc' : Sx → KLoc), e = .returned (.tuple #[.bool ok, .slice A l.length c, erV er]) ∧ LockP T x ok l er T' ∧
    TabI w' base (n + 2) g off ty (cs.setIfInBounds off (.map mb')) mb' loc' T' ∧ (∀ b, TFoot mb' loc' T' b → TFoot mb loc T b ∨ w.heap.size ≤ b) ∧ Fr (TFr g mb loc T) w w' ∧
    Rd w' w'.heap.size 1 A l.length (l.map (Value.int .i64)) ∧ (∀ b o, A = some ⟨b, o, none⟩ → 0 < l.length → w.heap.size ≤ b ∧ ¬ TFoot mb' loc' T' b)
/-- What at leaves, in the table's own frame. -/
theorem at_frame {w w1 : World} {g : Nat} {mb : Option Nat} {loc : Sx → KLoc} {T : Tb} {o : Obj} (hf : Fr (fun k => k = g ∨ some k = mb) (w.alloc o) w1) : Fr (TFr g mb loc T) w w1 :=
  ((Fr.refl (fun k => k = g ∨ some k = mb) w).alloc o |>.trans hf).mono (fun i _ h => by
    rcases h with h | h
    · exact .inl h
    · exact .inr (.inl h))
theorem at_foot {w w0 : World} {mb : Option Nat} {b1 : Nat} {loc : Sx → KLoc} {T : Tb} {x : Sx} {L : KLoc} {k' : Kx} (hor : AtOr mb w0 b1) (hw : w.heap.size ≤ w0.heap.size) (hL1 : T x ≠ none → L = loc x) (hL2 : T x = none → ∀ b, KFoot L b → w0.heap.size ≤ b) :
    ∀ b, TFoot (some b1) (locP loc x L) (putT T x (some k')) b → TFoot mb loc T b ∨ w.heap.size ≤ b := fun b hb => by
  rcases hb with hb | ⟨y, hy, hb⟩
  · injection hb with hb
    rcases hor with h | ⟨_, h⟩
    · exact .inl (.inl (by rw [h, hb]))
    · exact .inr (by omega)
  · by_cases e : y = x
    · subst e
      rw [show locP loc y L y = L by unfold locP; rw [if_pos rfl]] at hb
      by_cases hT : T y = none
      · exact .inr (Nat.le_trans hw (hL2 hT b hb))
      · exact .inl (.inr ⟨y, hT, hL1 hT ▸ hb⟩)
    · rw [show locP loc x L y = loc y by unfold locP; rw [if_neg e]] at hb
      unfold putT at hy
      rw [if_neg e] at hy
      exact .inl (.inr ⟨y, hy, hb⟩)
set_option maxRecDepth 100000 in
set_option maxHeartbeats 8000000 in
theorem lock_twice (base n g off : Nat) (ty : TypeId) (cs : Array Value) (mb : Option Nat) (loc : Sx → KLoc) (T : Tb) (s : ByteArray) (tx mode : Int) (w : World) (hI : TabI w base n g off ty cs mb loc T) (hmode : OkMode mode) (hl : (sx s).length ≤ 20) (htx : okN tx) (hn : n < 1000000)
    (hw : waitsB (atT T (sx s)).ws tx = true) :
    Calls Tryz.prog 5 #[.pointer (some ⟨g, off, none⟩), .int .i64 tx, .string s, .int .i64 mode] w (LockPost base n g off ty cs mb loc T ⟨tx, sx s, mode⟩ w) := by
  have hb0 : Below w.heap.size w (w.alloc (.cells #[.int .i64 tx] 3)) := (Below.refl _ _).alloc (Nat.le_refl _) _
  have hI0 := hI.tall hb0
  have hB0 : Blk (w.alloc (.cells #[.int .i64 tx] 3)) w.heap.size 3 #[.int .i64 tx] := Blk.new w _ _
  have hat := at_any base n g off ty cs mb loc T s _ hI0 hl hn
  have HAT := Lib.hid hat; clear hat hI0
  have HI := Lib.hid hI; clear hI
  have HB0 := Lib.hid hB0; clear hB0
  have HBW := Lib.hid hb0; clear hb0
  have hl20 : ¬ ((s.size : Int) > 20) := by rw [sx_size]; omega
  go_enter Tryz.func5, Tryz.ntmps5
  go_upto_block 0 with (fail)
  go_cut [] (fun wx => wx = w.alloc (.cells #[.int .i64 tx] 3))
  case first =>
    rcases hmode with rfl | rfl
    · go_wp2_with fail
      go_meet
      rfl
    · go_wp2_with fail
      go_meet
      rfl
  case rest =>
    subst hcut
    go_wp2_with fail
    refine HAT.out.mono ?_
    rintro e w1 ⟨b1, L, rfl, hI1, hf1, hor, hL1, hL2⟩
    have hT1 : putT T (sx s) (some (atT T (sx s))) (sx s) = some (atT T (sx s)) := by unfold putT; rw [if_pos rfl]
    have hK1 := hI1.keys (sx s) _ hT1
    rw [show locP loc (sx s) L (sx s) = L by unfold locP; rw [if_pos rfl]] at hK1
    have hb1 := hf1.blk HB0.out (fun h => by
      rcases h with h | h
      · have := HI.out.blk.lt; omega
      · have := (HI.out.foot_lt (.inl h)).2; omega)
    have cb := hb1.cell 0
    have ck0 := hK1.blk.cell 0
    have ck1 := hK1.blk.cell 1
    have hgl := hK1.blk.lt
    have hblt := hb1.lt
    obtain ⟨A, c, hV, hnc, _⟩ := own_slice hK1.row
    simp only [List.getElem?_toArray, List.getElem?_cons_zero, List.getElem?_cons_succ] at cb ck0 ck1
    rw [hV] at ck1
    have hct := wcontains_any 21 #[.pointer (some ⟨w.heap.size, 0, none⟩)] (fun x => decide (x.1 = tx)) A _ c _ w1 (enters_w Tryz.func21 (by kernel_rfl) rfl) (lock1_any w.heap.size tx w1 cb) (Rd.of_own (hV ▸ hK1.row)) rfl (by have := hK1.len; omega)
    rw [show (atT T (sx s)).ws.any (fun x => decide (x.1 = tx)) = true from hw] at hct
    have HCT := Lib.hid hct; clear hct
    have HK1 := Lib.hid hK1; clear hK1
    have HI1 := Lib.hid hI1; clear hI1
    have HF1 := Lib.hid hf1; clear hf1
    have HOR := Lib.hid hor; clear hor
    have HL1 := Lib.hid hL1; clear hL1
    have HL2 := Lib.hid hL2; clear hL2
    have HV := Lib.hid hV; clear hV
    have HBB := Lib.hid hb1; clear hb1 hT1 HAT
    go_wp2_with fail
    refine HCT.out.mono ?_
    rintro e w2 ⟨rfl, hb2⟩
    have hex : T (sx s) ≠ none := fun h => by rw [show atT T (sx s) = k0 by unfold atT; rw [h]; rfl] at hw; cases hw
    obtain ⟨k, hk⟩ := Option.ne_none_iff_exists'.1 hex
    have hI2 := HI1.out.tall hb2
    have hpt := putT_same hk
    have hT : putT T (sx s) (some (atT T (sx s))) = T := hpt
    rw [hT] at hI2
    have hfin : LockPost base n g off ty cs mb loc T ⟨tx, sx s, mode⟩ w (.returned (.tuple #[.bool false, .slice none 0 0, erV 9])) w2 := by
      refine ⟨false, [], 9, T, none, 0, some b1, _, rfl, .twice hmode hl hw, hI2.mono (by omega), fun b hb => ?_, (at_frame HF1.out).trans' (fr_of_belowK hb2) (fun i hi (h : _ ≤ i) => ?_), Rd.none_ _ _ _ _, fun b o h => nomatch h⟩
      · have h2 := at_foot (w := w) (k' := atT T (sx s)) HOR.out (by simp) HL1.out HL2.out b
        rw [hT] at h2
        exact h2 hb
      · have := HF1.out.size; simp at this; omega
    have HF := Lib.hid hfin; clear hfin hI2 hb2 hpt hT hk hex
    unfold erV at HF
    go_wp2_with fail
    go_ret3
    exact HF.out
end Go.Proofs.YtopmehbncidpnaaGreatDoor
