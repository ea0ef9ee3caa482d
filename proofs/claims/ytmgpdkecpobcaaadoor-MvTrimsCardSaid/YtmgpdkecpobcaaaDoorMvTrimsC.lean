/- chainmailkeep.MvTrims is true: what is told of times from a Trim on is what it was, and putting in another order makes no difference. Conditions: those of the given card (errors.errorType tied to the program's text). -/
import Derived.Test.YtmgpdkecpobcaaaDoorMtW
import Derived.Test.YtmgpdkecpobcaaaDoorGen
import Derived.Test.YtmgpdkecpobcaaaDoorHandle2
import Derived.Test.YtmgpdkecpobcaaaDoorCards
import Derived.Test.YtmgpdkecpobcaaaDoorTie
import Derived.JoinedCond
namespace Go.Proofs.YtmgpdkecpobcaaaDoor.mvTrims
open Go.ChangeShapes Go.WideShapes Go.ChangeAt Go.RowKit Go.Deep
set_option linter.unusedVariables false
section
variable {H : Type} {enc : TypeId × Value → H} {W : World}
set_option maxRecDepth 100000 in
theorem open_pr {n : Nat} {sp : Nat → Bool} {cs : List Value} {y : DataW H × List MemPlace} (h : DataW.trod enc Tryd.prog W 0 sp true n 29 cs = some y) : ∃ (a b : ByteArray) (c : Bool), cs = [.string a, .string b, .bool c] ∧ a.size ≤ maxLen := by
  obtain ⟨xs, m, _, rfl, hlen, hxl, hf⟩ := DataW.trod_struct Tryd.underlying29 h
  have hc : Tryd.prog.cellsOf 29 = 3 := by kernel_rfl
  have hs : Tryd.prog.cellsOf 9 = 1 := by kernel_rfl
  have hb : Tryd.prog.cellsOf 4 = 1 := by kernel_rfl
  rw [hc] at hlen
  match cs, hlen, xs, hxl with
  | [c0, c1, c2], _, [y0, y1, y2], _ =>
    have f0 := hf 0 _ rfl
    have f1 := hf 1 _ rfl
    have f2 := hf 2 _ rfl
    simp [hs, hb] at f0 f1 f2
    obtain ⟨s0, e0, rfl, w0⟩ := DataW.trod_string Tryd.underlying9 f0
    obtain ⟨s1, e1, rfl, _⟩ := DataW.trod_string Tryd.underlying9 f1
    obtain ⟨b, e2, rfl⟩ := DataW.trod_bool Tryd.underlying4 f2
    simp at e0 e1 e2
    subst e0 e1 e2
    exact ⟨s0, s1, b, rfl, w0⟩
set_option maxRecDepth 100000 in
theorem open_set {n : Nat} {sp : Nat → Bool} {cs : List Value} {y : DataW H × List MemPlace} (h : DataW.trod enc Tryd.prog W 0 sp true n 31 cs = some y) : ∃ x : SeX, cs = sxCells x ∧ SxOk x := by
  obtain ⟨xs, m, _, rfl, hlen, hxl, hf⟩ := DataW.trod_struct Tryd.underlying31 h
  have hc : Tryd.prog.cellsOf 31 = 4 := by kernel_rfl
  have hi : Tryd.prog.cellsOf 3 = 1 := by kernel_rfl
  have hp : Tryd.prog.cellsOf 29 = 3 := by kernel_rfl
  rw [hc] at hlen
  match cs, hlen, xs, hxl with
  | [c0, c1, c2, c3], _, [y0, y1], _ =>
    have f0 := hf 0 _ rfl
    have f1 := hf 1 _ rfl
    simp [hi, hp] at f0 f1
    obtain ⟨k0, e0, rfl, _⟩ := DataW.trod_int Tryd.underlying3 f0
    obtain ⟨a, b, c, e1, w2⟩ := open_pr f1
    simp at e0 e1
    obtain ⟨e1, e2, e3⟩ := e1
    subst e0 e1 e2 e3
    exact ⟨⟨k0, a, b, c⟩, rfl, w2⟩
end
theorem params_ok : ∀ t ∈ Tryd.f3.params.toList, Tryd.prog.readableRec t = true ∧ t < Tryd.prog.types.size := by
  rw [Tryd.params3]
  intro t ht
  rcases (by simpa using ht : t = 22 ∨ t = 3) with rfl | rfl
  · exact ⟨by kernel_rfl, by rw [h_size]; decide⟩
  · exact ⟨by kernel_rfl, by rw [h_size]; decide⟩
set_option maxRecDepth 100000 in
theorem contract (H : Type) (enc : TypeId × Value → H) (W : World) (base : Nat) (args : Array Value) (ds gs : List (DataW H)) (before : List MemPlace)
    (hval : ∀ (j : Nat) t v, Tryd.f3.params[j]? = some t → args[j]? = some v → Value.okWide Tryd.prog W .any base t v)
    (hW : DataW.Whole enc Tryd.prog Tryd.f3.params.toList Rows.mvTrimsSpec.vars false W args.toList ds gs before) (hL : laidMetH Tryd.prog laidList W) :
    Calls Tryd.prog 3 args W fun e W' => ∃ v, e = .returned v ∧ Rows.mvTrimsSpec.post enc Tryd.prog Tryd.f3 false true false false W args v W' := by
  have hW' := hW
  obtain ⟨p, q, hA0, hV, rfl, hfz, hnd⟩ := hW
  have hA : DataW.TrodAll enc Tryd.prog W 0 (fun _ => true) true Tryd.f3.params.toList args.toList ds p := hA0
  rw [Tryd.params3] at hA hval
  obtain ⟨v0, vs0, d0, ds0, p0, q0, hargs, rfl, rfl, h0, r0⟩ := trodAll_cons hA
  obtain ⟨v1, vs1, d1, ds1, p1, q1, rfl, rfl, rfl, h1, r1⟩ := trodAll_cons r0
  obtain ⟨v2, vs2, d2, ds2, p2, q2, rfl, rfl, rfl, h2, r2⟩ := trodAll_cons r1
  obtain ⟨rfl, rfl, rfl⟩ := trodAll_nil r2
  obtain rfl : args = #[v0, v1, v2] := by cases args; simp_all
  obtain ⟨rfl, rfl⟩ := trodVars_none hV
  obtain ⟨a1, rfl, rfl, rfl, _⟩ := open_int Tryd.underlying3 (hval 1 3 v1 rfl rfl) h1
  obtain ⟨a2, rfl, rfl, rfl, _⟩ := open_int Tryd.underlying3 (hval 2 3 v2 rfl rfl) h2
  obtain ⟨fuel, hf⟩ := h0
  obtain ⟨aa, ln, cp, rfl⟩ := okWide_slice Tryd.underlying22 (hval 0 22 v0 rfl rfl)
  obtain ⟨A, k, c, l, hcs, _, hl, hr, hq⟩ := open_gen Tryd.underlying22 4 (by kernel_rfl) (by omega) sxCells (fun x => rfl) (fun _ x => SxOk x) (fun n cs y h => open_set h) hf
  rw [hcs]
  refine (mvTrims_walk l k c A a1 a2 W hr hl (fun x hx => (by obtain ⟨_, _, h⟩ := hq x hx; exact h)) (laid_of hL)).mono fun e W' ⟨he, hbl⟩ => ?_
  rw [← hcs]
  subst he
  exact ⟨_, rfl, close_law (tb := 4) (by kernel_rfl) params_ok (by rfl) Tryd.underlying4 rfl hW' rfl hbl⟩
def wArgs : Array Value := #[.slice none 0 0, .int .i64 0, .int .i64 0]
theorem reads (os : Os) {H : Type} (enc : TypeId × Value → H) : ∃ places, DataW.whole enc Tryd.prog ((laidWorld os).forCall (fun _ _ => 0) ⟨#[], wArgs, []⟩).memory Tryd.f3.params.toList Rows.mvTrimsSpec.vars false wArgs.toList 8 =
    some ([.nil, .lit (.int .i64 0), .lit (.int .i64 0)], [], places) :=
  ⟨[], by kernel_rfl⟩
set_option maxRecDepth 100000 in
theorem lifted (os : Os) (started : os.Started) (H : Type) (enc : TypeId × Value → H) (F : Stop.Interp) :
    ReturnsInHanded {} Tryd.checked os 3 .any ((OpenSpec.ofChange Rows.mvTrimsSpec).preRow enc Tryd.prog Tryd.f3 Rows.mvTrimsRow.domain false Rows.mvTrimsRow.laid) (((OpenSpec.ofChange Rows.mvTrimsSpec).at F).post enc Tryd.prog Tryd.f3 false true false false) := by
  obtain ⟨places, hx⟩ := reads os enc
  refine returnsInHanded_of_row (C := Tryd.checked) (s := OpenSpec.ofChange Rows.mvTrimsSpec) own_knob started (by kernel_rfl) Tryd.func3
    (witness_row_at (enc := enc) (C := Tryd.checked) false (laidWorld os) wArgs rfl (by kernel_rfl) (by kernel_rfl) (by kernel_rfl)
      (OpenSpec.preRow_of_cond 8 hx (by kernel_rfl) (fun k hk => by cases hk) (by kernel_rfl) (laidWorld_met os _))) ?_
  intro W base args ds gs before hval hW _ hcond _ hL _ _
  exact contract H enc W base args ds gs before hval hW hL
theorem said : Rows.MvTrimsSaid :=
  OpenClaim.holds_of_cond 3 Tryd.f3 rfl rfl rfl rfl rfl rfl rfl ⟨rfl, rfl, rfl, rfl, rfl⟩ rfl rfl rfl rfl rfl (by kernel_rfl) Tryd.func3 (by kernel_rfl)
    (of_decide_eq_true (by kernel_rfl)) (by unfold Func.isWrapper; first | (rw [if_pos (by decide +kernel)]; kernel_rfl) | (rw [if_neg (by decide +kernel)]; exact ⟨rfl, rfl⟩))
    (fun os started H enc _ F => by rw [OpenClaim.pre_eq_preRow]; exact lifted os started H enc F)
theorem plain (f : FuncId) (fn : Func) (hf : Tryd.pinned.checked.prog.funcNamed "chainmail/chainmailkeep.MvTrims" = some f) (hfn : Tryd.pinned.checked.prog.funcs[f]? = some fn) :
    true = Tryd.pinned.checked.prog.looks [] ∧ ∀ (j : Nat) t, fn.params[j]? = some t → Tryd.pinned.checked.prog.wantsStandIn t = false := by
  obtain rfl : f = 3 := Option.some.inj ((show Tryd.prog.funcNamed "chainmail/chainmailkeep.MvTrims" = some 3 by kernel_rfl).symm.trans hf) |>.symm
  obtain rfl : fn = Tryd.f3 := (Option.some.inj (Tryd.func3.symm.trans hfn)).symm
  refine ⟨by kernel_rfl, fun j t ht => ?_⟩
  rw [Tryd.params3] at ht
  rcases (by simpa using Array.mem_of_getElem? ht : t = 22 ∨ t = 3) with rfl | rfl
  · exact (show Tryd.prog.wantsStandIn 22 = false by kernel_rfl)
  · exact (show Tryd.prog.wantsStandIn 3 = false by kernel_rfl)
theorem proved : Rows.MvTrimsCardSaid :=
  Claim7.holds_tied_plain_at .later [] _ _ _ _ said (fun _ h => by cases h) (by kernel_rfl) (fun _ h => by cases h) mvTrims_row_tie rfl ⟨rfl, rfl⟩ (by kernel_rfl) rfl plain (by kernel_rfl)
#print axioms proved
end Go.Proofs.YtmgpdkecpobcaaaDoor.mvTrims
