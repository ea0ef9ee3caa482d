/- locks: what Lock does to a table in memory, told of its parts. -/
import Derived.Test.YtopmehbncidpnaaGreatDoorLk5
import Derived.Test.YtopmehbncidpnaaGreatDoorInsW
import Derived.Test.YtopmehbncidpnaaGreatDoorBsfW
namespace Go.Proofs.YtopmehbncidpnaaGreatDoor
open Go.RowKit
theorem fr_of_belowK {B : Nat} {w w' : World} (h : Below B w w') : Fr (fun k => B ≤ k) w w' := ⟨h.os, h.tape, h.output, h.size, fun k _ hn => h.block k (by omega)⟩
def erV (k : Int) : Value := if k = 0 then .nilIface else .iface 33 (.int .i64 k)
theorem at_any (base n g off : Nat) (ty : TypeId) (cs : Array Value) (mb : Option Nat) (loc : Sx → KLoc) (T : Tb) (s : ByteArray) (w : World) (hI : TabI w base n g off ty cs mb loc T) (hs : (sx s).length ≤ 20) (hn : n < 1000000) :
    Calls Tryz.prog 19 #[.pointer (some ⟨g, off, none⟩), .string s] w (AtPost base n g off ty cs mb loc T (sx s) w) := by
  cases hT : T (sx s) with
  | none => exact at_new base n g off ty cs mb loc T s w hI hT hs hn
  | some k =>
    rcases mb with _ | b
    · have := hI.map (sx s)
      rw [hT] at this; cases this
    · exact at_there base n g off b ty cs loc T s k w hI hT hs
/-- The frame of what was told of a table: its own block, and its parts. -/
def TFr (g : Nat) (mb : Option Nat) (loc : Sx → KLoc) (T : Tb) (k : Nat) : Prop := k = g ∨ TFoot mb loc T k
/-- What a Lock leaves. -/
structure LkLeft (base n g off : Nat) (ty : TypeId) (cs : Array Value) (mb : Option Nat) (loc : Sx → KLoc) (T T' : Tb) (w w' : World) : Prop where
  tab : ∃ mb' loc', TabI w' base n g off ty (cs.setIfInBounds off (.map mb')) mb' loc' T' ∧ ∀ b, TFoot mb' loc' T' b → TFoot mb loc T b ∨ w.heap.size ≤ b
  fr : Fr (TFr g mb loc T) w w'
theorem sx_size (s : ByteArray) : ((s.size : Nat) : Int) = (sx s).length := by rw [size_sx]
/-- One key's parts turned: the table goes on. -/
theorem TabI.turn {w w' : World} {base n n' g off : Nat} {ty : TypeId} {cs : Array Value} {mb : Option Nat} {loc : Sx → KLoc} {T : Tb} (h : TabI w base n g off ty cs mb loc T) {x : Sx} {k k' : Kx} {L' : KLoc} (hx : T x = some k) (hn : n ≤ n')
    (hf : Fr (fun b => KFoot (loc x) b) w w') (hk : KeyI w' base n' L' k') (hg : L'.g = (loc x).g) (hh : L'.hb = (loc x).hb) (hV : ∀ b, L'.V.ownBlock = some b → (loc x).V.ownBlock = some b ∨ w.heap.size ≤ b) :
    TabI w' base n' g off ty cs mb (locP loc x L') (putT T x (some k')) := by
  have hfoot : ∀ b, KFoot L' b → KFoot (loc x) b ∨ w.heap.size ≤ b := fun b hb => by
    rcases hb with hb | hb | hb
    · exact .inl (.inl (by rw [hb, hg]))
    · exact .inl (.inr (.inl (by rw [hb, hh])))
    · rcases hV b hb with h | h
      · exact .inl (.inr (.inr h))
      · exact .inr h
  have hput : ∀ y, putT T x (some k') y ≠ none → y = x ∨ (y ≠ x ∧ T y ≠ none) := fun y hy => by
    unfold putT at hy
    split at hy
    · rename_i e; exact .inl e
    · rename_i e; exact .inr ⟨e, hy⟩
  have hN : ∀ y, y ≠ x → locP loc x L' y = loc y := fun y e => by unfold locP; rw [if_neg e]
  have hS : locP loc x L' x = L' := by unfold locP; rw [if_pos rfl]
  have hxn : T x ≠ none := by rw [hx]; simp
  have hap : ∀ y, y ≠ x → T y ≠ none → ∀ b, KFoot (loc y) b → ¬ KFoot (loc x) b := fun y e hy b hb => h.apart y x e hy hxn b hb
  refine ⟨hf.blk h.blk (fun hb => h.key_ne hx hb rfl), h.c0, ?_, fun y ky hy => ?_, fun y z hyz hy hz b hb => ?_, fun y hy => ?_, h.ne, h.mlo, fun y hy => ?_, Nat.le_trans h.bg hf.size⟩
  · have hm := h.map
    rcases hmb : mb with _ | c
    · rw [hmb] at hm
      exact absurd (hm x) hxn
    · rw [hmb] at hm
      have e : mapOf (locP loc x L') (putT T x (some k')) = mapOf loc T := by
        funext t
        unfold mapOf
        by_cases e : sx t = x
        · rw [e, hS, hg]; unfold putT; rw [if_pos rfl, hx]; rfl
        · rw [hN _ e]; unfold putT; rw [if_neg e]
      show MapG kS w' c n' _
      rw [e]
      exact (MapG.fr (C := kS) hm hf (fun hb => h.key_map hx hmb hb rfl)).mono hn
  · unfold putT at hy
    split at hy
    · rename_i e; subst e; injection hy with hy; rw [← hy, hS]; exact hk
    · rename_i e; rw [hN y e]; exact ((h.keys y ky hy).fr hf (fun b hb => hap y e (by rw [hy]; simp) b hb)).mono hn
  · rcases hput y hy with rfl | ⟨e1, h1⟩
    · rcases hput z hz with rfl | ⟨e2, h2⟩
      · exact absurd rfl hyz
      · rw [hN z e2]; rw [hS] at hb
        intro h3
        rcases hfoot b hb with h4 | h4
        · exact hap z e2 h2 b h3 h4
        · obtain ⟨kz, hkz⟩ := Option.ne_none_iff_exists'.1 h2
          have := ((h.keys z kz hkz).foot_lt h3).2; omega
    · rw [hN y e1] at hb
      rcases hput z hz with rfl | ⟨e2, h2⟩
      · rw [hS]
        intro h3
        rcases hfoot b h3 with h4 | h4
        · exact hap y e1 h1 b hb h4
        · obtain ⟨ky, hky⟩ := Option.ne_none_iff_exists'.1 h1
          have := ((h.keys y ky hky).foot_lt hb).2; omega
      · rw [hN z e2]; exact h.apart y z hyz h1 h2 b hb
  · rcases hput y hy with rfl | ⟨_, h1⟩
    · exact h.small y hxn
    · exact h.small y h1
  · rcases hput y hy with rfl | ⟨e1, h1⟩
    · rw [hS, hh]; exact h.mdis y hxn
    · rw [hN y e1]; exact h.mdis y h1
/-- 'w.tx < tx: -1, else 1' -/
def cfW (tx : Int) (x : Int × Int) : Int := if x.1 < tx then -1 else 1
set_option maxRecDepth 100000 in
set_option maxHeartbeats 2000000 in
theorem lock2_any (tx : Int) (w : World) : WCmpW 24 (cfW tx) tx w := by
  intro W x hW _
  have hbl : ∀ o, Below W.heap.size W (W.alloc o) := fun o => (Below.refl _ _).alloc (Nat.le_refl _) _
  have HBL := Lib.hid hbl; clear hbl
  unfold wtV
  by_cases h1 : x.1 < tx
  · have d1 : decide (x.1 < tx) = true := decide_eq_true h1
    have HG := Lib.hid (show cfW tx x = -1 by unfold cfW; rw [if_pos h1]); clear h1
    go_enter Tryz.func24, Tryz.ntmps24
    go_wp2_with fail
    go_ret
    rw [HG.out]
    exact ⟨rfl, HBL.out _⟩
  · have d1 : decide (x.1 < tx) = false := decide_eq_false h1
    have HG := Lib.hid (show cfW tx x = 1 by unfold cfW; rw [if_neg h1]); clear h1
    go_enter Tryz.func24, Tryz.ntmps24
    go_wp2_with fail
    go_ret
    rw [HG.out]
    exact ⟨rfl, HBL.out _⟩
/-- The search's place is where the new one belongs. -/
theorem place_eq {tx : Int} : ∀ {L : List (Int × Int)} {i : Nat}, i ≤ L.length → (∀ k (h : k < L.length), k < i → cfW tx L[k] < 0) → (∀ k (h : k < L.length), i ≤ k → 0 ≤ cfW tx L[k]) → (L.takeWhile (fun x => decide (x.1 < tx))).length = i
  | [], i, hi, _, _ => by simp at hi; simp [hi]
  | x :: L, 0, _, _, h2 => by
    have := h2 0 (by simp) (Nat.le_refl _)
    simp only [List.getElem_cons_zero, cfW] at this
    have h3 : ¬ x.1 < tx := fun h => by rw [if_pos h] at this; omega
    simp [h3]
  | x :: L, i + 1, hi, h1, h2 => by
    have := h1 0 (by simp) (by omega)
    simp only [List.getElem_cons_zero, cfW] at this
    have h3 : x.1 < tx := by
      by_cases h : x.1 < tx
      · exact h
      · rw [if_neg h] at this; omega
    have ih := place_eq (tx := tx) (L := L) (i := i) (by simpa using hi) (fun k h hk => by have := h1 (k + 1) (by simpa using h) (by omega); rw [List.getElem_cons_succ] at this; exact this) (fun k h hk => by have := h2 (k + 1) (by simpa using h) (by omega); rw [List.getElem_cons_succ] at this; exact this)
    simp [h3, ih]
theorem flat2_take (L : List (Int × Int)) (i : Nat) : (L.flatMap wtCells).take (i * 2) = (L.take i).flatMap wtCells := by
  induction L generalizing i with
  | nil => simp
  | cons x L ih =>
    cases i with
    | zero => simp
    | succ i => rw [show (i + 1) * 2 = i * 2 + 2 by omega, List.flatMap_cons, List.take_succ_cons, List.flatMap_cons, ← ih]; simp [wtCells]
theorem flat2_drop (L : List (Int × Int)) (i : Nat) : (L.flatMap wtCells).drop (i * 2) = (L.drop i).flatMap wtCells := by
  induction L generalizing i with
  | nil => simp
  | cons x L ih =>
    cases i with
    | zero => simp
    | succ i => rw [show (i + 1) * 2 = i * 2 + 2 by omega, List.flatMap_cons, List.drop_succ_cons, ← ih]; simp [wtCells]
theorem putIn_ins {tx mode : Int} {L : List (Int × Int)} {i : Nat} (hi : (L.takeWhile (fun x => decide (x.1 < tx))).length = i) : putIn 2 i (wtCells (tx, mode)) (L.flatMap wtCells) = (insW L (tx, mode)).flatMap wtCells := by
  unfold putIn insW
  rw [flat2_take, flat2_drop, List.flatMap_append, List.flatMap_cons]
  have h1 := List.takeWhile_append_dropWhile (p := fun x : Int × Int => decide (x.1 < tx)) (l := L)
  have ht : L.take i = L.takeWhile (fun x => decide (x.1 < tx)) := by
    conv => lhs; rw [← h1]
    rw [← hi, List.take_left]
  have hd : L.drop i = L.dropWhile (fun x => decide (x.1 < tx)) := by
    conv => lhs; rw [← h1]
    rw [← hi, List.drop_left]
  rw [ht, hd, List.append_assoc]
theorem cfW_mono {tx : Int} {L : List (Int × Int)} (hs : L.Pairwise (·.1 < ·.1)) : ∀ (i j : Nat) (hi : i < L.length) (hj : j < L.length), i ≤ j → cfW tx L[i] ≤ cfW tx L[j] := fun i j hi hj hij => by
  have : L[i].1 ≤ L[j].1 := by
    rcases Nat.lt_or_ge i j with h | h
    · have := List.pairwise_iff_getElem.1 hs i j hi hj h; omega
    · obtain rfl : i = j := by omega
      omega
  unfold cfW
  split <;> split <;> omega
end Go.Proofs.YtopmehbncidpnaaGreatDoor
