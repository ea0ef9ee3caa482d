/- locks: a table in memory; (*Table).at. -/
import Derived.Test.YtopmehbncidpnaaGreatDoorLk3
namespace Go.Proofs.YtopmehbncidpnaaGreatDoor
open Go.RowKit
abbrev sx (s : ByteArray) : Sx := s.data.toList
def mapOf (loc : Sx → KLoc) (T : Tb) : ByteArray → Option Value := fun s => (T (sx s)).map fun _ => .pointer (some ⟨(loc (sx s)).g, 0, none⟩)
def TabM (w : World) (n : Nat) (mb : Option Nat) (loc : Sx → KLoc) (T : Tb) : Prop :=
  match mb with
  | none => ∀ x, T x = none
  | some b => MapG kS w b n (mapOf loc T)
/-- The table's one cell at block g, place off. -/
structure TabI (w : World) (base n g off : Nat) (ty : TypeId) (cs : Array Value) (mb : Option Nat) (loc : Sx → KLoc) (T : Tb) : Prop where
  blk : Blk w g ty cs
  c0 : cs[off]? = some (.map mb)
  map : TabM w n mb loc T
  keys : ∀ x k, T x = some k → KeyI w base n (loc x) k
  apart : ∀ x y, x ≠ y → T x ≠ none → T y ≠ none → ∀ b, KFoot (loc x) b → ¬ KFoot (loc y) b
  small : ∀ x, T x ≠ none → x.length ≤ 20
  ne : ty ≠ 65 ∧ ty ≠ 62
  mlo : ∀ b, mb = some b → base ≤ b
  mdis : ∀ x, T x ≠ none → some (loc x).hb ≠ mb
  bg : base ≤ w.heap.size
/-- What of the memory is the table's, beside its own block. -/
def TFoot (mb : Option Nat) (loc : Sx → KLoc) (T : Tb) (b : Nat) : Prop := some b = mb ∨ ∃ x, T x ≠ none ∧ KFoot (loc x) b
section
variable {w w' : World} {base n g off : Nat} {ty : TypeId} {cs : Array Value} {mb : Option Nat} {loc : Sx → KLoc} {T : Tb}
theorem TabM.fr {S : Nat → Prop} (h : TabM w n mb loc T) (hf : Fr S w w') (hn : ∀ b, some b = mb → ¬ S b) : TabM w' n mb loc T := by
  unfold TabM at h ⊢
  rcases mb with _ | b
  · exact h
  · exact h.fr hf (hn b rfl)
theorem TabI.fr {S : Nat → Prop} (h : TabI w base n g off ty cs mb loc T) (hf : Fr S w w') (hg : ¬ S g) (hn : ∀ b, TFoot mb loc T b → ¬ S b) : TabI w' base n g off ty cs mb loc T :=
  ⟨hf.blk h.blk hg, h.c0, h.map.fr hf (fun b hb => hn b (.inl hb)), fun x k hx => (h.keys x k hx).fr hf (fun b hb => hn b (.inr ⟨x, by rw [hx]; simp, hb⟩)), h.apart, h.small, h.ne, h.mlo, h.mdis, Nat.le_trans h.bg hf.size⟩
theorem TabI.mono (h : TabI w base n g off ty cs mb loc T) {n' : Nat} (hn : n ≤ n') : TabI w base n' g off ty cs mb loc T :=
  ⟨h.blk, h.c0, by
    have := h.map
    unfold TabM at this ⊢
    rcases mb with _ | b
    · exact this
    · exact MapG.mono this hn, fun x k hx => (h.keys x k hx).mono hn, h.apart, h.small, h.ne, h.mlo, h.mdis, h.bg⟩
theorem TabI.foot_lt (h : TabI w base n g off ty cs mb loc T) {b : Nat} (hb : TFoot mb loc T b) : base ≤ b ∧ b < w.heap.size := by
  rcases hb with hb | ⟨x, hx, hb⟩
  · refine ⟨h.mlo b hb.symm, ?_⟩
    have := h.map
    rw [← hb] at this
    exact MapG.lt (C := kS) this
  · obtain ⟨k, hk⟩ := Option.ne_none_iff_exists'.1 hx
    exact (h.keys x k hk).foot_lt hb
theorem TabI.tall (h : TabI w base n g off ty cs mb loc T) (hb : Below w.heap.size w w') : TabI w' base n g off ty cs mb loc T :=
  h.fr (S := fun b => w.heap.size ≤ b) ⟨hb.os, hb.tape, hb.output, hb.size, fun i _ hn => hb.block i (by omega)⟩ (fun h2 => by have := h.blk.lt; omega) (fun b hb2 h2 => by have := (h.foot_lt hb2).2; omega)
/-- A key's parts are not the table's own block, nor its map. -/
theorem TabI.key_ne (h : TabI w base n g off ty cs mb loc T) {x : Sx} {k : Kx} (hx : T x = some k) {b : Nat} (hb : KFoot (loc x) b) : b ≠ g := by
  have hk := h.keys x k hx
  rcases hb with rfl | rfl | hb
  · exact hk.blk.ne_ h.blk (fun e => h.ne.1 e.symm)
  · exact hk.holds.notBlk h.blk
  · rintro rfl
    exact own_blk_ne hk.row h.blk (fun e => h.ne.2 e.symm) hb
theorem TabI.key_map (h : TabI w base n g off ty cs mb loc T) {x : Sx} {k : Kx} (hx : T x = some k) {c : Nat} (hc : mb = some c) {b : Nat} (hb : KFoot (loc x) b) : b ≠ c := by
  have hk := h.keys x k hx
  have hm := h.map
  rw [hc] at hm
  rcases hb with rfl | rfl | hb
  · exact fun e => (MapG.notBlk (C := kS) hm hk.blk) e.symm
  · have := h.mdis x (by rw [hx]; simp)
    rw [hc] at this
    exact fun e => this (by rw [e])
  · rintro rfl
    exact MapG.notOwn (C := kS) hm hk.row hb
end
theorem setIf_same' {cs : Array Value} {i : Nat} {v : Value} (h : cs[i]? = some v) : cs.setIfInBounds i v = cs := by
  apply Array.ext
  · simp
  · intro j h1 h2
    rw [Array.getElem_setIfInBounds]
    split
    · rename_i e
      subst e
      rw [Array.getElem?_eq_getElem h2] at h
      injection h with h
      exact h.symm
    · rfl
theorem eql_map_nil' {P : Program} (w : World) (t k e : TypeId) (m : Option Nat) (h : P.underlying t = some (.map k e)) : (binOp .eql t (.map m) (.map none)).run P w = .ok (.bool m.isNone) w := by
  simp only [binOp]
  simp [run_equal_map_nil w t k e m h]
theorem tab_made {w : World} {base n g off : Nat} {ty : TypeId} {cs : Array Value} {loc : Sx → KLoc} {T : Tb} (h : TabI w base n g off ty cs none loc T) :
    TabI ((w.alloc (.map #[] 0)).setCell ⟨g, off, none⟩ (.map (some w.heap.size))) base n g off ty (cs.setIfInBounds off (.map (some w.heap.size))) (some w.heap.size) loc T := by
  have hsz : off < cs.size := by
    have := h.c0
    rcases Nat.lt_or_ge off cs.size with h | h
    · exact h
    · rw [Array.getElem?_eq_none (by simpa using h)] at this; cases this
  have hT : ∀ x, T x = none := h.map
  have hm : MapG kS (w.alloc (.map #[] 0)) w.heap.size n (mapOf loc T) := by
    have e : mapOf loc T = fun _ => none := by funext s; unfold mapOf; rw [hT]; rfl
    rw [e]
    exact (MapG.made kS w).mono (Nat.zero_le _)
  have hgl := h.blk.lt
  refine ⟨(h.blk.alloc _).set_ _ _, by simp [hsz], hm.fr (Fr.set1 g (w.alloc (.map #[] 0)) off (.map (some w.heap.size))) (fun e => by omega), fun x k hx => (by rw [hT] at hx; cases hx), fun x y _ hx => absurd (hT x) hx, fun x hx => absurd (hT x) hx, h.ne, fun b hb => ?_, fun x hx => absurd (hT x) hx, ?_⟩
  · injection hb with hb; rw [← hb]; exact h.bg
  · have := h.bg; simp; omega
def newLoc (w : World) : KLoc := ⟨w.heap.size + 1, w.heap.size, .slice none 0 0⟩
def locP (loc : Sx → KLoc) (x : Sx) (L : KLoc) : Sx → KLoc := fun y => if y = x then L else loc y
theorem sx_inj {s t : ByteArray} (h : sx s = sx t) : s = t := by
  have : s.data = t.data := Array.ext' h
  cases s; cases t; simp_all
theorem mapOf_put (loc : Sx → KLoc) (T : Tb) (s : ByteArray) (L : KLoc) (k : Kx) : putM (mapOf loc T) s (some (.pointer (some ⟨L.g, 0, none⟩))) = mapOf (locP loc (sx s) L) (putT T (sx s) (some k)) := by
  funext t
  unfold putM mapOf locP putT
  by_cases e : t = s
  · subst e; simp
  · have : ¬ sx t = sx s := fun h => e (sx_inj h)
    simp [e, this]
/-- A key laid in. -/
theorem tab_new {w w2 : World} {base n g off b : Nat} {ty : TypeId} {cs : Array Value} {loc : Sx → KLoc} {T : Tb} {s : ByteArray} (h : TabI w base n g off ty cs (some b) loc T) (hT : T (sx s) = none) (hs : (sx s).length ≤ 20)
    (hm : MapG kS w2 b (n + 1) (putM (mapOf loc T) s (some (.pointer (some ⟨w.heap.size + 1, 0, none⟩)))))
    (hf : Fr (fun k => k = b) ((w.alloc (.map #[] 0)).alloc (.cells #[.map (some w.heap.size), .slice none 0 0] 65)) w2) :
    TabI w2 base (n + 1) g off ty cs (some b) (locP loc (sx s) (newLoc w)) (putT T (sx s) (some k0)) := by
  have hb := (h.foot_lt (.inl rfl : TFoot (some b) loc T b))
  have hall : Fr (fun k => k = b) w w2 := (((Fr.refl _ w).alloc _).alloc _).trans hf
  have hbl := h.blk.lt
  have hgb : g ≠ b := by
    have hm0 := h.map
    exact fun e => (MapG.notBlk (C := kS) hm0 h.blk) e.symm
  have hnew : KeyI w2 base (n + 1) (newLoc w) k0 := by
    have h1 : Blk ((w.alloc (.map #[] 0)).alloc (.cells #[.map (some w.heap.size), .slice none 0 0] 65)) (w.heap.size + 1) 65 #[.map (some w.heap.size), .slice none 0 0] := by
      have := Blk.new (w.alloc (.map #[] 0)) 65 #[.map (some w.heap.size), .slice none 0 0]
      simpa using this
    have h2 : MapG kI ((w.alloc (.map #[] 0)).alloc (.cells #[.map (some w.heap.size), .slice none 0 0] 65)) w.heap.size (n + 1) (hM k0.h) := by
      have e : hM k0.h = fun _ => none := by funext i; rfl
      rw [e]
      exact ((MapG.made kI w).mono (Nat.zero_le _)).alloc _
    exact ⟨hf.blk h1 (by show ¬ w.heap.size + 1 = b; omega), h2.fr hf (by show ¬ w.heap.size = b; omega), World.ownsRow_nil _ _ _ _, by show base ≤ w.heap.size + 1; have := h.bg; omega, h.bg, fun o m e => (nomatch e), fun x hx => (by cases hx), Nat.zero_le _⟩
  have hold : ∀ x k, x ≠ sx s → T x = some k → KeyI w2 base (n + 1) (loc x) k := fun x k _ hx => ((h.keys x k hx).fr hall (fun c hc => h.key_map hx rfl hc)).mono (by omega)
  have hfoot : ∀ x, T x ≠ none → ∀ c, KFoot (loc x) c → ¬ KFoot (newLoc w) c := fun x hx c hc hn => by
    obtain ⟨k, hk⟩ := Option.ne_none_iff_exists'.1 hx
    have := (h.keys x k hk).foot_lt hc
    rcases hn with hn | hn | hn
    · simp only [newLoc] at hn; omega
    · simp only [newLoc] at hn; omega
    · simp [newLoc, Value.ownBlock] at hn
  have hput : ∀ x, putT T (sx s) (some k0) x ≠ none → x = sx s ∨ (x ≠ sx s ∧ T x ≠ none) := fun x hx => by
    unfold putT at hx
    split at hx
    · rename_i e; exact .inl e
    · rename_i e; exact .inr ⟨e, hx⟩
  have hlocN : ∀ x, x ≠ sx s → locP loc (sx s) (newLoc w) x = loc x := fun x e => by unfold locP; rw [if_neg e]
  have hlocS : locP loc (sx s) (newLoc w) (sx s) = newLoc w := by unfold locP; rw [if_pos rfl]
  refine ⟨hall.blk h.blk hgb, h.c0, ?_, fun x k hx => ?_, fun x y hxy hx hy c hc => ?_, fun x hx => ?_, h.ne, h.mlo, fun x hx => ?_, by have := hall.size; have := h.bg; omega⟩
  · show MapG kS w2 b (n + 1) _
    have e := mapOf_put loc T s (newLoc w) k0
    rw [show (newLoc w).g = w.heap.size + 1 from rfl] at e
    rw [e] at hm
    exact hm
  · unfold putT at hx
    split at hx
    · rename_i e; subst e; injection hx with hx; rw [← hx, hlocS]; exact hnew
    · rename_i e; rw [hlocN x e]; exact hold x k e hx
  · rcases hput x hx with rfl | ⟨e1, h1⟩
    · rcases hput y hy with rfl | ⟨e2, h2⟩
      · exact absurd rfl hxy
      · rw [hlocN y e2]; rw [hlocS] at hc; exact fun h3 => hfoot y h2 c h3 hc
    · rw [hlocN x e1] at hc
      rcases hput y hy with rfl | ⟨e2, h2⟩
      · rw [hlocS]; exact hfoot x h1 c hc
      · rw [hlocN y e2]; exact h.apart x y hxy h1 h2 c hc
  · rcases hput x hx with rfl | ⟨_, h1⟩
    · exact hs
    · exact h.small x h1
  · rcases hput x hx with rfl | ⟨e1, h1⟩
    · rw [hlocS]; simp only [newLoc, ne_eq, Option.some.injEq]; omega
    · rw [hlocN x e1]; exact h.mdis x h1
end Go.Proofs.YtopmehbncidpnaaGreatDoor
