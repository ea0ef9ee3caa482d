/- chainmailkeep.CheckFits is true of every history (an order that is told fits; one that transactions made, one behind the other, is never refused). Conditions: none (the statement is the given one). -/
import Derived.Test.YtnahkpfamocnfaaCheckFits3
import Derived.Test.YtnahkpfamocnfaaGen
namespace Go.Proofs.Ytnahkpfamocnfaa.checkFits
open Go.ChangeShapes Go.WideShapes Go.ChangeAt Go.RowKit Go.Deep
set_option linter.unusedVariables false
theorem own : ownKnob Try.prog.godebug = none := by kernel_rfl
section
variable {H : Type} {enc : TypeId × Value → H} {W : World}
set_option maxRecDepth 100000 in
theorem open_op {n base : Nat} {sp : Nat → Bool} {hd : Bool} {cs : List Value} {y : DataW H × List MemPlace} (h : DataW.trod enc Try.prog W base sp hd n 38 cs = some y) : ∃ o : OpP, cs = opCells o ∧ opFine o := by
  obtain ⟨xs, m, _, rfl, hlen, hxl, hf⟩ := DataW.trod_struct Try.underlying38 h
  have hc : Try.prog.cellsOf 38 = 4 := by kernel_rfl
  have hs : Try.prog.cellsOf 9 = 1 := by kernel_rfl
  have hb : Try.prog.cellsOf 4 = 1 := by kernel_rfl
  have hi : Try.prog.cellsOf 3 = 1 := by kernel_rfl
  rw [hc] at hlen
  match cs, hlen, xs, hxl with
  | [c0, c1, c2, c3], _, [y0, y1, y2, y3], _ =>
    have f0 := hf 0 _ rfl
    have f1 := hf 1 _ rfl
    have f2 := hf 2 _ rfl
    have f3 := hf 3 _ rfl
    simp [hs, hb, hi] at f0 f1 f2 f3
    obtain ⟨k0, e0, rfl, _⟩ := DataW.trod_int Try.underlying3 f0
    obtain ⟨s1, e1, rfl, z1⟩ := DataW.trod_string Try.underlying9 f1
    obtain ⟨s2, e2, rfl, z2⟩ := DataW.trod_string Try.underlying9 f2
    obtain ⟨b, e3, rfl⟩ := DataW.trod_bool Try.underlying4 f3
    simp at e0 e1 e2 e3
    subst e0 e1 e2 e3
    exact ⟨⟨k0, s1, s2, b⟩, rfl, z1, z2⟩
def okTx (W : World) (x : TxR) : Prop := ReadsO W W.heap.size x.A x.n x.t.ops ∧ ∀ o ∈ x.t.ops, opFine o
set_option maxRecDepth 100000 in
theorem open_tx {n : Nat} {sp : Nat → Bool} {cs : List Value} {y : DataW H × List MemPlace} (h : DataW.trod enc Try.prog W 0 sp true n 32 cs = some y) : ∃ x : TxR, cs = txCells x ∧ okTx W x := by
  obtain ⟨xs, m, _, rfl, hlen, hxl, hf⟩ := DataW.trod_struct Try.underlying32 h
  have hc : Try.prog.cellsOf 32 = 3 := by kernel_rfl
  have hs : Try.prog.cellsOf 30 = 1 := by kernel_rfl
  have hi : Try.prog.cellsOf 3 = 1 := by kernel_rfl
  rw [hc] at hlen
  match cs, hlen, xs, hxl with
  | [c0, c1, c2], _, [y0, y1, y2], _ =>
    have f0 := hf 0 _ rfl
    have f1 := hf 1 _ rfl
    have f2 := hf 2 _ rfl
    simp [hs, hi] at f0 f1 f2
    obtain ⟨A, k, c, l, rfl, _, hl, hr, hq⟩ := open_gen Try.underlying30 4 (by kernel_rfl) (by omega) opCells (fun x => rfl) (fun _ o => opFine o) (fun n cs y h => open_op h) f0
    obtain ⟨k1, e1, rfl, _⟩ := DataW.trod_int Try.underlying3 f1
    obtain ⟨k2, e2, rfl, _⟩ := DataW.trod_int Try.underlying3 f2
    simp at e1 e2
    subst e1 e2
    exact ⟨⟨⟨l, k1, k2⟩, A, k, c⟩, rfl, ⟨hl, hr⟩, fun o ho => by
      obtain ⟨_, _, h⟩ := hq o ho
      exact h⟩
end
theorem params_ok : ∀ t ∈ Try.f4.params.toList, Try.prog.readableRec t = true ∧ t < Try.prog.types.size := by
  rw [Try.params4]
  have hsz : Try.prog.types.size = 133 := by kernel_rfl
  intro t ht
  rcases (by simpa using ht : t = 26 ∨ t = 4) with rfl | rfl
  · exact ⟨by kernel_rfl, by rw [hsz]; decide⟩
  · exact ⟨by kernel_rfl, by rw [hsz]; decide⟩
set_option maxRecDepth 100000 in
theorem lifted (os : Os) (started : os.Started) (H : Type) (enc : TypeId × Value → H) :
    ReturnsInHanded {} Try.checked os 4 .any (Rows.checkFitsSpec.pre6 enc Try.prog Try.f4 Rows.checkFitsRow.domain false) (Rows.checkFitsSpec.post enc Try.prog Try.f4 false true false false) := by
  refine returnsInHanded_of_change (C := Try.checked) own started (by kernel_rfl) Try.func4
    (ChangeSpec.witness6 (enc := enc) (C := Try.checked) false ⟨#[], #[.slice none 0 0, .bool false], []⟩ 8 (by kernel_rfl) (by kernel_rfl) (by kernel_rfl) (by kernel_rfl)) ?_
  intro W base args ds gs before hval0 hW hcnd _
  have hval : ∀ (j : Nat) t v, Try.f4.params[j]? = some t → args[j]? = some v → Value.okWide Try.prog W .any base t v := hval0
  have hW' := hW
  obtain ⟨p, q, hA0, hV, rfl, hfz, hnd⟩ := hW
  have hA : DataW.TrodAll enc Try.prog W 0 (fun _ => true) true Try.f4.params.toList args.toList ds p := hA0
  rw [Try.params4] at hA hval
  obtain ⟨v0, vs0, d0, ds0, p0, q0, hargs, rfl, rfl, h0, r0⟩ := trodAll_cons hA
  obtain ⟨v1, vs1, d1, ds1, p1, q1, rfl, rfl, rfl, h1, r1⟩ := trodAll_cons r0
  obtain ⟨rfl, rfl, rfl⟩ := trodAll_nil r1
  obtain rfl : args = #[v0, v1] := by cases args; simp_all
  obtain ⟨rfl, rfl⟩ := trodVars_none hV
  obtain ⟨b1, rfl, rfl, rfl⟩ := open_bool Try.underlying4 (hval 1 4 v1 rfl rfl) h1
  obtain ⟨fuel, hf⟩ := h0
  obtain ⟨aa, ln, cp, rfl⟩ := okWide_slice Try.underlying26 (hval 0 26 v0 rfl rfl)
  obtain ⟨A, k, c, l, hcs, _, hl, hr, hq⟩ := open_gen Try.underlying26 3 (by kernel_rfl) (by omega) txCells (fun x => rfl) (fun _ x => okTx W x) (fun n cs y h => open_tx h) hf
  rw [hcs]
  refine (checkFits_walk l b1 W.heap.size k c A W ⟨hl, hr, fun x hx => (by obtain ⟨_, _, h⟩ := hq x hx; exact h)⟩ (Nat.le_refl _)).mono fun e W' ⟨he, hbl⟩ => ?_
  rw [← hcs]
  subst he
  exact ⟨_, rfl, close_law (tb := 4) (by kernel_rfl) params_ok (by rfl) Try.underlying4 rfl hW' rfl hbl⟩
theorem over : Rows.checkFitsRow.holds Try.pinned (OpenSpec.ofChange Rows.checkFitsSpec) :=
  OpenClaim.holds_of_wide 4 Try.f4 rfl rfl rfl rfl rfl rfl rfl ⟨rfl, rfl, rfl, rfl, rfl⟩ rfl rfl rfl rfl rfl (by kernel_rfl) Try.func4 (by kernel_rfl)
    (of_decide_eq_true (by kernel_rfl)) (by unfold Func.isWrapper; first | (rw [if_pos (by decide +kernel)]; kernel_rfl) | (rw [if_neg (by decide +kernel)]; exact ⟨rfl, rfl⟩))
    (fun os started H enc _ => lifted os started H enc)
theorem proved : Rows.CheckFitsSaid := over
#print axioms proved
end Go.Proofs.Ytnahkpfamocnfaa.checkFits
