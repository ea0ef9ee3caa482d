/- chainmailkeep.LocksApart is true of every list of asks (who holds a key by Writes holds it alone; who waits waits for somebody in the way; if whoever is wounded lets go at once, nobody waits for one that is younger). Conditions: none (the statement is the given one). -/
import Derived.Test.YtnahkpfamocnfabLaW2
import Derived.Test.YtnahkpfamocnfabGen
namespace Go.Proofs.Ytnahkpfamocnfab.locksApart
open Go.ChangeShapes Go.WideShapes Go.ChangeAt Go.RowKit Go.Deep
set_option linter.unusedVariables false
theorem own : ownKnob Try.prog.godebug = none := by kernel_rfl
section
variable {H : Type} {enc : TypeId × Value → H} {W : World}
set_option maxRecDepth 100000 in
theorem open_hold {n : Nat} {sp : Nat → Bool} {cs : List Value} {y : DataW H × List MemPlace} (h : DataW.trod enc Try.prog W 0 sp true n 30 cs = some y) : ∃ x : Int × Int × Int, cs = hoCells x ∧ True := by
  obtain ⟨xs, m, _, rfl, hlen, hxl, hf⟩ := DataW.trod_struct Try.underlying30 h
  have hc : Try.prog.cellsOf 30 = 3 := by kernel_rfl
  have hi : Try.prog.cellsOf 3 = 1 := by kernel_rfl
  rw [hc] at hlen
  match cs, hlen, xs, hxl with
  | [c0, c1, c2], _, [y0, y1, y2], _ =>
    have f0 := hf 0 _ rfl
    have f1 := hf 1 _ rfl
    have f2 := hf 2 _ rfl
    simp [hi] at f0 f1 f2
    obtain ⟨k0, e0, rfl, _⟩ := DataW.trod_int Try.underlying3 f0
    obtain ⟨k1, e1, rfl, _⟩ := DataW.trod_int Try.underlying3 f1
    obtain ⟨k2, e2, rfl, _⟩ := DataW.trod_int Try.underlying3 f2
    simp at e0 e1 e2
    subst e0 e1 e2
    exact ⟨⟨k0, k1, k2⟩, rfl, trivial⟩
end
theorem params_ok : ∀ t ∈ Try.f3.params.toList, Try.prog.readableRec t = true ∧ t < Try.prog.types.size := by
  rw [Try.params3]
  have hsz : Try.prog.types.size = 124 := by kernel_rfl
  intro t ht
  obtain rfl : t = 22 := by simpa using ht
  exact ⟨by kernel_rfl, by rw [hsz]; decide⟩
set_option maxRecDepth 100000 in
theorem lifted (os : Os) (started : os.Started) (H : Type) (enc : TypeId × Value → H) :
    ReturnsInHanded {} Try.checked os 3 .any (Rows.locksApartSpec.pre6 enc Try.prog Try.f3 Rows.locksApartRow.domain false) (Rows.locksApartSpec.post enc Try.prog Try.f3 false true false false) := by
  refine returnsInHanded_of_change (C := Try.checked) own started (by kernel_rfl) Try.func3
    (ChangeSpec.witness6 (enc := enc) (C := Try.checked) false ⟨#[], #[.slice none 0 0], []⟩ 8 (by kernel_rfl) (by kernel_rfl) (by kernel_rfl) (by kernel_rfl)) ?_
  intro W base args ds gs before hval0 hW hcnd _
  have hval : ∀ (j : Nat) t v, Try.f3.params[j]? = some t → args[j]? = some v → Value.okWide Try.prog W .any base t v := hval0
  have hW' := hW
  obtain ⟨p, q, hA0, hV, rfl, hfz, hnd⟩ := hW
  have hA : DataW.TrodAll enc Try.prog W 0 (fun _ => true) true Try.f3.params.toList args.toList ds p := hA0
  rw [Try.params3] at hA hval
  obtain ⟨v0, vs0, d0, ds0, p0, q0, hargs, rfl, rfl, h0, r0⟩ := trodAll_cons hA
  obtain ⟨rfl, rfl, rfl⟩ := trodAll_nil r0
  obtain rfl : args = #[v0] := by cases args; simp_all
  obtain ⟨rfl, rfl⟩ := trodVars_none hV
  obtain ⟨fuel, hf⟩ := h0
  obtain ⟨aa, ln, cp, rfl⟩ := okWide_slice Try.underlying22 (hval 0 22 v0 rfl rfl)
  obtain ⟨A, k, c, l, hcs, _, hl, hr, hq⟩ := open_gen Try.underlying22 3 (by kernel_rfl) (by omega) hoCells (fun x => rfl) (fun _ x => True) (fun n cs y h => open_hold h) hf
  rw [hcs]
  refine (apart_walk l k c A W hr hl).mono fun e W' ⟨he, hbl⟩ => ?_
  rw [← hcs]
  subst he
  exact ⟨_, rfl, close_law (tb := 4) (by kernel_rfl) params_ok (by rfl) Try.underlying4 rfl hW' rfl hbl⟩
theorem over : Rows.locksApartRow.holds Try.pinned (OpenSpec.ofChange Rows.locksApartSpec) :=
  OpenClaim.holds_of_wide 3 Try.f3 rfl rfl rfl rfl rfl rfl rfl ⟨rfl, rfl, rfl, rfl, rfl⟩ rfl rfl rfl rfl rfl (by kernel_rfl) Try.func3 (by kernel_rfl)
    (of_decide_eq_true (by kernel_rfl)) (by unfold Func.isWrapper; first | (rw [if_pos (by decide +kernel)]; kernel_rfl) | (rw [if_neg (by decide +kernel)]; exact ⟨rfl, rfl⟩))
    (fun os started H enc _ => lifted os started H enc)
theorem proved : Rows.LocksApartSaid := over
#print axioms proved
end Go.Proofs.Ytnahkpfamocnfab.locksApart
