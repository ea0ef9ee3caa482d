/- locks: (*Table).at. -/
import Derived.Test.YtopmehbncidpnaaGreatDoorLk4
namespace Go.Proofs.YtopmehbncidpnaaGreatDoor
open Go.RowKit
theorem tab_look {w : World} {n b : Nat} {loc : Sx → KLoc} {T : Tb} (hm : MapG kS w b n (mapOf loc T)) {s : ByteArray} (hs : s.size ≤ maxLen) :
    (Instr.lookup 23 (.map (some b)) (.string s) false).run Tryz.prog w = .ok (match T (sx s) with | none => .pointer none | some _ => .pointer (some ⟨(loc (sx s)).g, 0, none⟩)) w := by
  have hz : (zeroValue 57).run Tryz.prog w = .ok (.pointer none) w := by kernel_rfl
  have := (hm.look Tryz.underlying23 hz (x := s) hs).2
  rw [show kS.val s = Value.string s from rfl] at this
  rw [this]
  unfold mapOf
  cases T (sx s) <;> rfl
theorem size_sx (s : ByteArray) : s.size = (sx s).length := by unfold sx; rw [Array.length_toList]; rfl
theorem putT_same {T : Tb} {x : Sx} {k : Kx} (h : T x = some k) : putT T x (some (atT T x)) = T := by
  funext y
  unfold putT atT
  by_cases e : y = x
  · rw [if_pos e, e, h]; rfl
  · rw [if_neg e]
theorem locP_same (loc : Sx → KLoc) (x : Sx) : locP loc x (loc x) = loc := by
  funext y
  unfold locP
  by_cases e : y = x
  · rw [if_pos e, e]
  · rw [if_neg e]
def AtOr (mb : Option Nat) (w : World) (b' : Nat) : Prop := mb = some b' ∨ (mb = none ∧ w.heap.size ≤ b')
def AtPost (base n g off : Nat) (ty : TypeId) (cs : Array Value) (mb : Option Nat) (loc : Sx → KLoc) (T : Tb) (x : Sx) (w : World) (e : Ending) (w' : World) : Prop :=
  ∃ (b' : Nat) (L : KLoc), e = .returned (.pointer (some ⟨L.g, 0, none⟩)) ∧ TabI w' base (n + 1) g off ty (cs.setIfInBounds off (.map (some b'))) (some b') (locP loc x L) (putT T x (some (atT T x))) ∧ Fr (fun k => k = g ∨ some k = mb) w w' ∧
    AtOr mb w b' ∧ (T x ≠ none → L = loc x) ∧ (T x = none → ∀ b, KFoot L b → w.heap.size ≤ b)
set_option maxRecDepth 100000 in
set_option maxHeartbeats 4000000 in
/-- The key is there. -/
theorem at_there (base n g off b : Nat) (ty : TypeId) (cs : Array Value) (loc : Sx → KLoc) (T : Tb) (s : ByteArray) (k : Kx) (w : World) (hI : TabI w base n g off ty cs (some b) loc T) (hT : T (sx s) = some k) (hs : (sx s).length ≤ 20) :
    Calls Tryz.prog 19 #[.pointer (some ⟨g, off, none⟩), .string s] w (AtPost base n g off ty cs (some b) loc T (sx s) w) := by
  have c0 := (hI.blk.cell off).trans hI.c0
  have hlk := tab_look hI.map (s := s) (by rw [size_sx]; unfold maxLen; omega)
  rw [hT] at hlk
  have hfin : AtPost base n g off ty cs (some b) loc T (sx s) w (.returned (.pointer (some ⟨(loc (sx s)).g, 0, none⟩))) w :=
    ⟨b, loc (sx s), rfl, by rw [setIf_same' hI.c0, locP_same, putT_same hT]; exact hI.mono (by omega), Fr.refl _ _, .inl rfl, fun _ => rfl, fun h => by rw [hT] at h; cases h⟩
  have HF := Lib.hid hfin; clear hfin
  have hgl := hI.blk.lt
  have hn0 := fun W => eql_map_nil' W 23 _ _ (some b) Tryz.underlying23
  clear hI hT
  go_enter Tryz.func19, Tryz.ntmps19
  go_wp2_with fail
  go_ret
  exact HF.out
set_option maxRecDepth 100000 in
set_option maxHeartbeats 4000000 in
/-- The key is new. -/
theorem at_new (base n g off : Nat) (ty : TypeId) (cs : Array Value) (mb : Option Nat) (loc : Sx → KLoc) (T : Tb) (s : ByteArray) (w : World) (hI : TabI w base n g off ty cs mb loc T) (hT : T (sx s) = none) (hs : (sx s).length ≤ 20) (hn : n < 1000000) :
    Calls Tryz.prog 19 #[.pointer (some ⟨g, off, none⟩), .string s] w (AtPost base n g off ty cs mb loc T (sx s) w) := by
  have hsz : s.size ≤ maxLen := by rw [size_sx]; unfold maxLen; omega
  have c0 := (hI.blk.cell off).trans hI.c0
  have f0 := hI.blk.frozen off
  have hgl := hI.blk.lt
  have hn0 := fun W => eql_map_nil' W 23 _ _ mb Tryz.underlying23
  have HI := Lib.hid hI; clear hI
  have HT := Lib.hid hT; clear hT
  rcases mb with _ | b
  case' none =>
    have hmm := @run_makeMap Tryz.prog
    have hmd := tab_made HI.out
    have hpast : (w.alloc (.map #[] 0)).setCell ⟨g, off, none⟩ (.map (some w.heap.size)) = (w.setCell ⟨g, off, none⟩ (.map (some w.heap.size))).alloc (.map #[] 0) := by
      rw [World.setCell_alloc_past _ _ _ _ (by omega)]
    have hfr : Fr (fun k => k = g ∨ some k = none) w ((w.alloc (.map #[] 0)).setCell ⟨g, off, none⟩ (.map (some w.heap.size))) := ((Fr.refl _ _).alloc _).setCell (p := ⟨g, off, none⟩) (.inl (.inl rfl)) _
    rw [hpast] at hmd hfr
    clear hpast
    have HMD := Lib.hid hmd; clear hmd
    have HFR := Lib.hid hfr; clear hfr
    have HOR := Lib.hid (show AtOr none w w.heap.size from .inr ⟨rfl, Nat.le_refl _⟩)
    have c1 := (HMD.out.blk.cell off).trans HMD.out.c0
    have hbl : w.heap.size < ((w.setCell ⟨g, off, none⟩ (.map (some w.heap.size))).alloc (.map #[] 0)).heap.size := by simp
    go_enter Tryz.func19, Tryz.ntmps19
    go_upto_region 3 with (fail)
    clear hmm c0 f0
    have HBL := Lib.hid hbl; clear hbl
    generalize hb : w.heap.size = b at *
    generalize (w.setCell ⟨g, off, none⟩ (.map (some b))).alloc (.map #[] 0) = w1 at *
    have hle : w.heap.size ≤ w1.heap.size := by have := HFR.out.size; omega
    have HLE := Lib.hid hle; clear hle
    have HWB := Lib.hid hb; clear hb
  case' some =>
    have HMD : Hid (TabI w base n g off ty (cs.setIfInBounds off (.map (some b))) (some b) loc T) := Lib.hid (by rw [setIf_same' HI.out.c0]; exact HI.out)
    have HFR := Lib.hid (Fr.refl (fun k => k = g ∨ some k = some b) w)
    have HOR := Lib.hid (show AtOr (some b) w b from .inl rfl)
    have c1 := c0
    go_enter Tryz.func19, Tryz.ntmps19
    go_upto_region 3 with (fail)
    clear c0 f0
    have HBL := Lib.hid ((HMD.out.foot_lt (.inl rfl : TFoot (some b) loc T b)).2)
    have HLE := Lib.hid (Nat.le_refl w.heap.size)
    obtain ⟨w1, rfl⟩ : ∃ w1 : World, w1 = w := ⟨w, rfl⟩
  all_goals
    clear HI hn0
    have hgl1 := HMD.out.blk.lt
    have hlk := tab_look HMD.out.map (s := s) hsz
    rw [HT.out] at hlk
    have hmm := @run_makeMap Tryz.prog
    have hblw := HBL.out
    go_wp2_with (at_mapUpdate; refine wpList_setG (C := kS) rfl 23 57 Tryz.underlying23 _ _ _ rfl rfl (show MapG kS _ b n (mapOf loc T) from (HMD.out.map.alloc _).alloc _) (by unfold maxLen; omega) s (.pointer (some ⟨w1.heap.size + 1, 0, none⟩)) rfl rfl hsz ?_; intro w3 hm3 hf3)
    have hT3 := tab_new HMD.out HT.out hs hm3 hf3
    have hF3 : Fr (fun k => k = b) w1 w3 := (((Fr.refl _ w1).alloc _).alloc _).trans hf3
    have HT3 := Lib.hid hT3; clear hT3
    have ha0 : atT T (sx s) = k0 := by unfold atT; rw [HT.out]; rfl
    have HA0 := Lib.hid ha0; clear ha0
    have hff := HFR.out.trans' hF3 (fun i hi (e : i = b) => by
      rcases HOR.out with h | ⟨_, h⟩
      · exact .inr (by rw [h, e])
      · omega)
    have HFF := Lib.hid hff; clear hff hF3 hf3 hm3 hlk hmm
    go_ret
    refine ⟨b, newLoc w1, rfl, by rw [HA0.out]; exact HT3.out, HFF.out, HOR.out, fun h => absurd HT.out h, fun _ c hc => ?_⟩
    have := HLE.out
    rcases hc with h | h | h
    · simp only [newLoc] at h; omega
    · simp only [newLoc] at h; omega
    · simp [newLoc, Value.ownBlock] at h
end Go.Proofs.YtopmehbncidpnaaGreatDoor
