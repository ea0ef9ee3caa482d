/- chainmailref.Table: Release: the memory's side, and the sizes. -/
import Derived.Test.YtopmehbncidpnaaGreatDoorSmI
namespace Go.Proofs.YtopmehbncidpnaaGreatDoor
open Go.RowKit
theorem hasR_len : ∀ (H : List Ak) (x : Ak), (hasR H x).length ≤ H.length + 1
  | [], x => by simp [hasR]
  | a :: H, x => by
    unfold hasR
    split
    · simp
    · have := hasR_len H x
      simp only [List.length_cons]
      omega
/-- Sizes: of who holds and who waits, together; of who was told and who waits. -/
def szR (N : Nat) (s : List Ak × List Ak × List Ak) : Prop := s.1.length + s.2.1.length ≤ N ∧ s.2.2.length + s.2.1.length ≤ N
theorem szR.give {N : Nat} {H W O : List Ak} {a : Ak} (h : szR N (H, W, O)) (ha : a ∈ W) : szR N (hasR H a, W.filter (fun b => !decide (b = a)), O ++ [a]) := by
  have h1 := hasR_len H a
  have h2 : (W.filter (fun b => !decide (b = a))).length < W.length := by
    rw [List.length_filter_lt_length_iff_exists]
    exact ⟨a, ha, by simp⟩
  unfold szR at *
  simp only [List.length_append, List.length_singleton] at *
  omega
theorem find_at {L : List Ak} {p : Ak → Bool} : ∀ {i : Nat} {a : Ak}, L[i]? = some a → (∀ b ∈ L.take i, p b = false) → p a = true → L.find? p = some a := by
  induction L with
  | nil => intro i a h; simp at h
  | cons y L ih =>
    intro i a h hno hp
    cases i with
    | zero =>
      simp at h
      subst h
      simp [hp]
    | succ i =>
      have hy := hno y (by simp)
      rw [List.find?_cons_of_neg (by rw [hy]; decide)]
      exact ih (by simpa using h) (fun b hb => hno b (by simp [hb])) hp
def grB (x : Sx) (o : Int) (H W : List Ak) (a : Ak) : Bool := decide (a.tx = o) && decide (a.key = x) && mayR H W a
theorem grant1_yes {x : Sx} {o : Int} {H W O : List Ak} {i : Nat} {a : Ak} (ha : W[i]? = some a) (hno : ∀ b ∈ W.take i, grB x o H W b = false) (hy : grB x o H W a = true) : grant1 x (H, W, O) o = (hasR H a, W.filter (fun b => !decide (b = a)), O ++ [a]) := by
  unfold grant1
  rw [show W.find? (fun a => decide (a.tx = o) && decide (a.key = x) && mayR H W a) = some a from find_at ha hno hy]
theorem grant1_no {x : Sx} {o : Int} {H W O : List Ak} (hno : ∀ b ∈ W, grB x o H W b = false) : grant1 x (H, W, O) o = (H, W, O) := by
  unfold grant1
  rw [show W.find? (fun a => decide (a.tx = o) && decide (a.key = x) && mayR H W a) = none from List.find?_eq_none.2 (fun b hb => by have := hno b hb; unfold grB at this; rw [this]; decide)]
theorem fold_step {α β : Type} (f : β → α → β) (s : β) {l : List α} {i : Nat} {a : α} (ha : l[i]? = some a) : (l.take (i + 1)).foldl f s = f ((l.take i).foldl f s) a := by
  rw [List.take_add_one, ha, List.foldl_append]
  rfl
abbrev KRow := Nat → TypeId → Nat → Nat → Value → List Value → Prop
/-- Release under way. -/
structure ReS (base g : Nat) (VH0 VW0 : Value) (w : World) (K : KRow) (VH VW : Value) (H W O : List Ak) (v12 : Value) (wr : World) : Prop where
  tab : RtI wr base g VH VW H W
  fr : Fr (RFoot g VH0 VW0) w wr
  foot : ∀ b, RFoot g VH VW b → RFoot g VH0 VW0 b ∨ w.heap.size ≤ b
  out : wr.ownsRow w.heap.size 37 3 v12 O.length (O.flatMap akCells)
  oap : ∀ b, v12.ownBlock = some b → ¬ RFoot g VH VW b
  keep : ∀ b e sz n v xs, K b e sz n v xs → e ≠ 37 ∧ e ≠ 29 ∧ wr.ownsRow b e sz v n xs
section
variable {base g : Nat} {VH0 VW0 : Value} {w : World} {K : KRow} {VH VW : Value} {H W O : List Ak} {v12 : Value} {w1 : World}
theorem RtI.notKeep {b0 sz n : Nat} {e : TypeId} {v : Value} {xs : List Value} (h : RtI w1 base g VH VW H W) (hv : w1.ownsRow b0 e sz v n xs) (h1 : e ≠ 37) (h2 : e ≠ 29) {b : Nat} (hb : v.ownBlock = some b) : ¬ RFoot g VH VW b := by
  rintro (rfl | hR | hR)
  · exact own_blk_ne hv h.blk h2 hb
  · exact own_own_ne hv h.rowH h1 hb hR
  · exact own_own_ne hv h.rowW h1 hb hR
theorem ReS.tall {w2 : World} (h : ReS base g VH0 VW0 w K VH VW H W O v12 w1) (hb : Below w1.heap.size w1 w2) : ReS base g VH0 VW0 w K VH VW H W O v12 w2 :=
  ⟨h.tab.tall hb, h.fr.trans ⟨hb.os, hb.tape, hb.output, hb.size, fun k hk _ => hb.block k hk⟩, h.foot, own_belowK h.out hb, h.oap, fun b e sz n v xs hk => ⟨(h.keep b e sz n v xs hk).1, (h.keep b e sz n v xs hk).2.1, own_belowK (h.keep b e sz n v xs hk).2.2 hb⟩⟩
theorem ReS.more {K' : KRow} (h : ReS base g VH0 VW0 w K VH VW H W O v12 w1) (hk : ∀ b e sz n v xs, K' b e sz n v xs → K b e sz n v xs ∨ (e ≠ 37 ∧ e ≠ 29 ∧ w1.ownsRow b e sz v n xs)) : ReS base g VH0 VW0 w K' VH VW H W O v12 w1 :=
  ⟨h.tab, h.fr, h.foot, h.out, h.oap, fun b e sz n v xs hK => (hk b e sz n v xs hK).elim (h.keep b e sz n v xs) id⟩
theorem ReS.has {w2 : World} {VH' : Value} {H' : List Ak} (h : ReS base g VH0 VW0 w K VH VW H W O v12 w1) (hI : RtI w2 base g VH' VW H' W) (hf : Fr (RFoot g VH VW) w1 w2) (hft : ∀ b, VH'.ownBlock = some b → VH.ownBlock = some b ∨ w1.heap.size ≤ b) : ReS base g VH0 VW0 w K VH' VW H' W O v12 w2 := by
  refine ⟨hI, h.fr.trans' hf (fun i hi hR => ?_), fun b hb => ?_, hf.own h.out h.oap, fun b hb hR => ?_, fun b e sz n v xs hk => ?_⟩
  · rcases h.foot i hR with h1 | h1
    · exact h1
    · omega
  · rcases hb with hb | hb | hb
    · exact h.foot b (.inl hb)
    · rcases hft b hb with h1 | h1
      · exact h.foot b (.inr (.inl h1))
      · exact .inr (Nat.le_trans h.fr.size h1)
    · exact h.foot b (.inr (.inr hb))
  · rcases hR with hR | hR | hR
    · exact h.oap b hb (.inl hR)
    · rcases hft b hR with h1 | h1
      · exact h.oap b hb (.inr (.inl h1))
      · have := (h.out.lt b hb).2; omega
    · exact h.oap b hb (.inr (.inr hR))
  · obtain ⟨k1, k2, k3⟩ := h.keep b e sz n v xs hk
    exact ⟨k1, k2, hf.own k3 (fun b hb => h.tab.notKeep k3 k1 k2 hb)⟩
theorem ReS.put {w2 : World} {v' : Value} {a : Ak} (h : ReS base g VH0 VW0 w K VH VW H W O v12 w1) (hrow : w2.ownsRow w.heap.size 37 3 v' (O.length + 1) (O.flatMap akCells ++ akCells a)) (hm : Moved w1 w2 v12.ownBlock v'.ownBlock) : ReS base g VH0 VW0 w K VH VW H W (O ++ [a]) v' w2 := by
  have hno : ∀ b, RFoot g VH VW b → ¬ some b = v12.ownBlock := fun b hb e => h.oap b e.symm hb
  refine ⟨h.tab.fr hm.1 hno, h.fr.trans' hm.1 (fun i hi e => ?_), h.foot, ?_, fun b hb hR => ?_, fun b e sz n v xs hk => ?_⟩
  · have := (h.out.lt i e.symm).1; omega
  · rw [List.length_append, List.flatMap_append, List.flatMap_singleton]; exact hrow
  · rcases hm.2 with e | ⟨b', e, hb'⟩
    · exact h.oap b (e.symm.trans hb) hR
    · rw [hb] at e; injection e with e
      have := (h.tab.foot_lt hR).2
      omega
  · obtain ⟨k1, k2, k3⟩ := h.keep b e sz n v xs hk
    exact ⟨k1, k2, hm.1.own k3 (fun b hb e => own_own_ne k3 h.out k1 hb e.symm)⟩
theorem ReS.wait {w2 : World} {Vn : Value} {W' : List Ak} (h : ReS base g VH0 VW0 w K VH VW H W O v12 w1) (hrow : w2.ownsRow w1.heap.size 37 3 Vn W'.length (W'.flatMap akCells)) (hb : Below w1.heap.size w1 w2) (hbs : base ≤ w1.heap.size) : ReS base g VH0 VW0 w K VH Vn H W' O v12 (w2.setCell ⟨g, 1, none⟩ Vn) := by
  have h2 := h.tall hb
  have hF := Fr.set1 g w2 1 Vn
  have hg := h2.tab.blk
  refine ⟨⟨hg.set_ 1 _, hF.own h2.tab.rowH (fun b hb e => own_blk_ne h2.tab.rowH hg (by decide) (e ▸ hb)), hF.own (own_base hrow hbs) (fun b hb e => own_blk_ne hrow hg (by decide) (e ▸ hb)), fun b hb1 hb2 => ?_, h2.tab.lo⟩, h2.fr.setCell (p := ⟨g, 1, none⟩) ((h2.foot g (.inl rfl)).imp id (fun h => h)) _, fun b hR => ?_, hF.own h2.out (fun b hb e => own_blk_ne h2.out hg (by decide) (e ▸ hb)), fun b hb1 hR => ?_, fun b e sz n v xs hk => ?_⟩
  · have := (h.tab.rowH.lt b hb1).2
    have := (hrow.lt b hb2).1
    omega
  · rcases hR with hR | hR | hR
    · exact h.foot b (.inl hR)
    · exact h.foot b (.inr (.inl hR))
    · exact .inr (Nat.le_trans h.fr.size (hrow.lt b hR).1)
  · rcases hR with hR | hR | hR
    · exact h2.oap b hb1 (.inl hR)
    · exact h2.oap b hb1 (.inr (.inl hR))
    · have := (h.out.lt b hb1).2
      have := (hrow.lt b hR).1
      omega
  · obtain ⟨k1, k2, k3⟩ := h2.keep b e sz n v xs hk
    exact ⟨k1, k2, hF.own k3 (fun b hb e => own_blk_ne k3 hg k2 (e ▸ hb))⟩
/-- The two filtered lists stored. -/
theorem ReS.start {wm w2 : World} {V6 V7 : Value} {H' W' : List Ak} (hI : RtI w base g VH0 VW0 H W) (hb : Below w.heap.size w w2) (hs : w.heap.size ≤ wm.heap.size) (h6 : w2.ownsRow w.heap.size 37 3 V6 H'.length (H'.flatMap akCells)) (h6l : ∀ b, V6.ownBlock = some b → b < wm.heap.size)
    (h7 : w2.ownsRow wm.heap.size 37 3 V7 W'.length (W'.flatMap akCells)) (hk : ∀ b e sz n v xs, K b e sz n v xs → e ≠ 37 ∧ e ≠ 29 ∧ w2.ownsRow b e sz v n xs) (hbs : base ≤ w.heap.size) :
    ReS base g VH0 VW0 w K V6 V7 H' W' [] (.slice none 0 0) ((w2.setCell ⟨g, 0, none⟩ V6).setCell ⟨g, 1, none⟩ V7) := by
  have hI2 := hI.tall hb
  have hF : Fr (fun k => k = g) w2 ((w2.setCell ⟨g, 0, none⟩ V6).setCell ⟨g, 1, none⟩ V7) := (Fr.set1 g w2 0 V6).trans (Fr.set1 g _ 1 V7)
  refine ⟨⟨(hI2.blk.set_ 0 V6).set_ 1 V7, hF.own (own_base h6 hbs) (fun b hb e => own_blk_ne h6 hI2.blk (by decide) (e ▸ hb)), hF.own (own_base h7 (Nat.le_trans hbs hs)) (fun b hb e => own_blk_ne h7 hI2.blk (by decide) (e ▸ hb)), fun b h1 h2 => ?_, hI.lo⟩, ?_, fun b hR => ?_, World.ownsRow_nil _ _ _ _, (fun b hb => by cases hb), fun b e sz n v xs hK => ?_⟩
  · have := h6l b h1
    have := (h7.lt b h2).1
    omega
  · exact (show Fr (RFoot g VH0 VW0) w w2 from ⟨hb.os, hb.tape, hb.output, hb.size, fun k hk _ => hb.block k hk⟩).trans (hF.mono (fun i _ e => .inl e))
  · rcases hR with hR | hR | hR
    · exact .inl (.inl hR)
    · exact .inr (h6.lt b hR).1
    · exact .inr (Nat.le_trans hs (h7.lt b hR).1)
  · obtain ⟨k1, k2, k3⟩ := hk b e sz n v xs hK
    exact ⟨k1, k2, hF.own k3 (fun b hb e => own_blk_ne k3 hI2.blk k2 (e ▸ hb))⟩
end
end Go.Proofs.YtopmehbncidpnaaGreatDoor
