/- chainmaillaw.CheckSerial is true of every history (the program's search for an order tells what the document's own tells, 6.1, 6.2). Conditions: those of the given card (errors.errorType tied to the program's text). -/
import Derived.Test.YtnahkpfamocnfaaDoorSerR5
import Derived.Test.YtnahkpfamocnfaaDoorGen
import Derived.Test.YtnahkpfamocnfaaDoorHandle2
import Derived.Test.YtnahkpfamocnfaaDoorCards
import Derived.Test.YtnahkpfamocnfaaDoorTie
import Derived.JoinedCond
namespace Go.Proofs.YtnahkpfamocnfaaDoor.checkSerial
open Go.ChangeShapes Go.WideShapes Go.ChangeAt Go.RowKit Go.Deep
set_option linter.unusedVariables false
section
variable {H : Type} {enc : TypeId × Value → H} {W : World}
set_option maxRecDepth 100000 in
theorem open_op {n base : Nat} {sp : Nat → Bool} {hd : Bool} {cs : List Value} {y : DataW H × List MemPlace} (h : DataW.trod enc Tryd.prog W base sp hd n 110 cs = some y) : ∃ o : OpP, cs = opCells o ∧ opFine o := by
  obtain ⟨xs, m, _, rfl, hlen, hxl, hf⟩ := DataW.trod_struct Tryd.underlying110 h
  have hc : Tryd.prog.cellsOf 110 = 4 := by kernel_rfl
  have hs : Tryd.prog.cellsOf 9 = 1 := by kernel_rfl
  have hb : Tryd.prog.cellsOf 4 = 1 := by kernel_rfl
  have hi : Tryd.prog.cellsOf 3 = 1 := by kernel_rfl
  rw [hc] at hlen
  match cs, hlen, xs, hxl with
  | [c0, c1, c2, c3], _, [y0, y1, y2, y3], _ =>
    have f0 := hf 0 _ rfl
    have f1 := hf 1 _ rfl
    have f2 := hf 2 _ rfl
    have f3 := hf 3 _ rfl
    simp [hs, hb, hi] at f0 f1 f2 f3
    obtain ⟨k0, e0, rfl, _⟩ := DataW.trod_int Tryd.underlying3 f0
    obtain ⟨s1, e1, rfl, z1⟩ := DataW.trod_string Tryd.underlying9 f1
    obtain ⟨s2, e2, rfl, z2⟩ := DataW.trod_string Tryd.underlying9 f2
    obtain ⟨b, e3, rfl⟩ := DataW.trod_bool Tryd.underlying4 f3
    simp at e0 e1 e2 e3
    subst e0 e1 e2 e3
    exact ⟨⟨k0, s1, s2, b⟩, rfl, z1, z2⟩
def okTx (W : World) (x : TxR) : Prop := ReadsO W W.heap.size x.A x.n x.t.ops ∧ ∀ o ∈ x.t.ops, opFine o
set_option maxRecDepth 100000 in
theorem open_tx {n : Nat} {sp : Nat → Bool} {cs : List Value} {y : DataW H × List MemPlace} (h : DataW.trod enc Tryd.prog W 0 sp true n 46 cs = some y) : ∃ x : TxR, cs = txCells x ∧ okTx W x := by
  obtain ⟨xs, m, _, rfl, hlen, hxl, hf⟩ := DataW.trod_struct Tryd.underlying46 h
  have hc : Tryd.prog.cellsOf 46 = 3 := by kernel_rfl
  have hs : Tryd.prog.cellsOf 44 = 1 := by kernel_rfl
  have hi : Tryd.prog.cellsOf 3 = 1 := by kernel_rfl
  rw [hc] at hlen
  match cs, hlen, xs, hxl with
  | [c0, c1, c2], _, [y0, y1, y2], _ =>
    have f0 := hf 0 _ rfl
    have f1 := hf 1 _ rfl
    have f2 := hf 2 _ rfl
    simp [hs, hi] at f0 f1 f2
    obtain ⟨A, k, c, l, rfl, _, hl, hr, hq⟩ := open_gen Tryd.underlying44 4 (by kernel_rfl) (by omega) opCells (fun x => rfl) (fun _ o => opFine o) (fun n cs y h => open_op h) f0
    obtain ⟨k1, e1, rfl, _⟩ := DataW.trod_int Tryd.underlying3 f1
    obtain ⟨k2, e2, rfl, _⟩ := DataW.trod_int Tryd.underlying3 f2
    simp at e1 e2
    subst e1 e2
    exact ⟨⟨⟨l, k1, k2⟩, A, k, c⟩, rfl, ⟨hl, hr⟩, fun o ho => by
      obtain ⟨_, _, h⟩ := hq o ho
      exact h⟩
end
theorem params_ok : ∀ t ∈ Tryd.f5.params.toList, Tryd.prog.readableRec t = true ∧ t < Tryd.prog.types.size := by
  rw [Tryd.params5]
  intro t ht
  obtain rfl : t = 43 := by simpa using ht
  exact ⟨by kernel_rfl, by rw [h_size]; decide⟩
set_option maxRecDepth 100000 in
theorem contract (H : Type) (enc : TypeId × Value → H) (W : World) (base : Nat) (args : Array Value) (ds gs : List (DataW H)) (before : List MemPlace)
    (hval : ∀ (j : Nat) t v, Tryd.f5.params[j]? = some t → args[j]? = some v → Value.okWide Tryd.prog W .any base t v)
    (hW : DataW.Whole enc Tryd.prog Tryd.f5.params.toList Rows.checkSerialSpec.vars false W args.toList ds gs before) (hL : laidMetH Tryd.prog laidList W) :
    Calls Tryd.prog 5 args W fun e W' => ∃ v, e = .returned v ∧ Rows.checkSerialSpec.post enc Tryd.prog Tryd.f5 false true false false W args v W' := by
  have hW' := hW
  obtain ⟨p, q, hA0, hV, rfl, hfz, hnd⟩ := hW
  have hA : DataW.TrodAll enc Tryd.prog W 0 (fun _ => true) true Tryd.f5.params.toList args.toList ds p := hA0
  rw [Tryd.params5] at hA hval
  obtain ⟨v0, vs0, d0, ds0, p0, q0, hargs, rfl, rfl, h0, r0⟩ := trodAll_cons hA
  obtain ⟨rfl, rfl, rfl⟩ := trodAll_nil r0
  obtain rfl : args = #[v0] := by cases args; simp_all
  obtain ⟨rfl, rfl⟩ := trodVars_none hV
  obtain ⟨fuel, hf⟩ := h0
  obtain ⟨aa, ln, cp, rfl⟩ := okWide_slice Tryd.underlying43 (hval 0 43 v0 rfl rfl)
  obtain ⟨A, k, c, l, hcs, _, hl, hr, hq⟩ := open_gen Tryd.underlying43 3 (by kernel_rfl) (by omega) txCells (fun x => rfl) (fun _ x => okTx W x) (fun n cs y h => open_tx h) hf
  rw [hcs]
  refine (checkSerial_walk l W.heap.size k c A W ⟨hl, hr, fun x hx => (by obtain ⟨_, _, h⟩ := hq x hx; exact h)⟩ (Nat.le_refl _) (laid_of hL)).mono fun e W' ⟨he, hbl⟩ => ?_
  rw [← hcs]
  subst he
  exact ⟨_, rfl, close_law (tb := 4) (by kernel_rfl) params_ok (by rfl) Tryd.underlying4 rfl hW' rfl hbl⟩
def wArgs : Array Value := #[.slice none 0 0]
theorem reads (os : Os) {H : Type} (enc : TypeId × Value → H) : ∃ places, DataW.whole enc Tryd.prog ((laidWorld os).forCall (fun _ _ => 0) ⟨#[], wArgs, []⟩).memory Tryd.f5.params.toList Rows.checkSerialSpec.vars false wArgs.toList 8 =
    some ([.nil], [], places) :=
  ⟨[], by kernel_rfl⟩
set_option maxRecDepth 100000 in
theorem lifted (os : Os) (started : os.Started) (H : Type) (enc : TypeId × Value → H) (F : Stop.Interp) :
    ReturnsInHanded {} Tryd.checked os 5 .any ((OpenSpec.ofChange Rows.checkSerialSpec).preRow enc Tryd.prog Tryd.f5 Rows.checkSerialRow.domain false Rows.checkSerialRow.laid) (((OpenSpec.ofChange Rows.checkSerialSpec).at F).post enc Tryd.prog Tryd.f5 false true false false) := by
  obtain ⟨places, hx⟩ := reads os enc
  refine returnsInHanded_of_row (C := Tryd.checked) (s := OpenSpec.ofChange Rows.checkSerialSpec) own_knob started (by kernel_rfl) Tryd.func5
    (witness_row_at (enc := enc) (C := Tryd.checked) false (laidWorld os) wArgs rfl (by kernel_rfl) (by kernel_rfl) (by kernel_rfl)
      (OpenSpec.preRow_of_cond 8 hx (by kernel_rfl) (fun k hk => by cases hk) (by kernel_rfl) (laidWorld_met os _))) ?_
  intro W base args ds gs before hval hW _ hcond _ hL _ _
  exact contract H enc W base args ds gs before hval hW hL
theorem said : Rows.CheckSerialSaid :=
  OpenClaim.holds_of_cond 5 Tryd.f5 rfl rfl rfl rfl rfl rfl rfl ⟨rfl, rfl, rfl, rfl, rfl⟩ rfl rfl rfl rfl rfl (by kernel_rfl) Tryd.func5 (by kernel_rfl)
    (of_decide_eq_true (by kernel_rfl)) (by unfold Func.isWrapper; first | (rw [if_pos (by decide +kernel)]; kernel_rfl) | (rw [if_neg (by decide +kernel)]; exact ⟨rfl, rfl⟩))
    (fun os started H enc _ F => by rw [OpenClaim.pre_eq_preRow]; exact lifted os started H enc F)
theorem plain (f : FuncId) (fn : Func) (hf : Tryd.pinned.checked.prog.funcNamed "chainmail/chainmaillaw.CheckSerial" = some f) (hfn : Tryd.pinned.checked.prog.funcs[f]? = some fn) :
    true = Tryd.pinned.checked.prog.looks [] ∧ ∀ (j : Nat) t, fn.params[j]? = some t → Tryd.pinned.checked.prog.wantsStandIn t = false := by
  obtain rfl : f = 5 := Option.some.inj ((show Tryd.prog.funcNamed "chainmail/chainmaillaw.CheckSerial" = some 5 by kernel_rfl).symm.trans hf) |>.symm
  obtain rfl : fn = Tryd.f5 := (Option.some.inj (Tryd.func5.symm.trans hfn)).symm
  refine ⟨by kernel_rfl, fun j t ht => ?_⟩
  rw [Tryd.params5] at ht
  obtain rfl : t = 43 := by simpa using Array.mem_of_getElem? ht
  exact (show Tryd.prog.wantsStandIn 43 = false by kernel_rfl)
theorem proved : Rows.CheckSerialCardSaid :=
  Claim7.holds_tied_plain_at .later [] _ _ _ _ said (fun _ h => by cases h) (by kernel_rfl) (fun _ h => by cases h) checkSerial_row_tie rfl ⟨rfl, rfl⟩ (by kernel_rfl) rfl plain (by kernel_rfl)
#print axioms proved
end Go.Proofs.YtnahkpfamocnfaaDoor.checkSerial
