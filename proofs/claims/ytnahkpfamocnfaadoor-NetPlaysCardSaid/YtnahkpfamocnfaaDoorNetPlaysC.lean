/- chainmaillaw.NetPlays is true of all moves (the net and the document's net side by side, 2.1). Conditions: those of the given card (errors.errorType tied to the program's text). -/
import Derived.Test.YtnahkpfamocnfaaDoorNpW
import Derived.Test.YtnahkpfamocnfaaDoorGen
import Derived.Test.YtnahkpfamocnfaaDoorHandle2
import Derived.Test.YtnahkpfamocnfaaDoorCards
import Derived.Test.YtnahkpfamocnfaaDoorTie
import Derived.JoinedCond
namespace Go.Proofs.YtnahkpfamocnfaaDoor.netPlays
open Go.ChangeShapes Go.WideShapes Go.ChangeAt Go.RowKit Go.Deep
set_option linter.unusedVariables false
section
variable {H : Type} {enc : TypeId × Value → H} {W : World}
set_option maxRecDepth 100000 in
theorem open_pr {n base : Nat} {sp : Nat → Bool} {hd : Bool} {cs : List Value} {y : DataW H × List MemPlace} (h : DataW.trod enc Tryd.prog W base sp hd n 123 cs = some y) : ∃ p : Pr, cs = prCells p := by
  obtain ⟨xs, m, _, rfl, hlen, hxl, hf⟩ := DataW.trod_struct Tryd.underlying123 h
  have hc : Tryd.prog.cellsOf 123 = 3 := by kernel_rfl
  have hs : Tryd.prog.cellsOf 9 = 1 := by kernel_rfl
  have hb : Tryd.prog.cellsOf 4 = 1 := by kernel_rfl
  rw [hc] at hlen
  match cs, hlen, xs, hxl with
  | [c0, c1, c2], _, [y0, y1, y2], _ =>
    have f0 := hf 0 _ rfl
    have f1 := hf 1 _ rfl
    have f2 := hf 2 _ rfl
    simp [hs, hb] at f0 f1 f2
    obtain ⟨s0, e0, rfl, _⟩ := DataW.trod_string Tryd.underlying9 f0
    obtain ⟨s1, e1, rfl, _⟩ := DataW.trod_string Tryd.underlying9 f1
    obtain ⟨b, e2, rfl⟩ := DataW.trod_bool Tryd.underlying4 f2
    simp at e0 e1 e2
    subst e0 e1 e2
    exact ⟨⟨s0, s1, b⟩, rfl⟩
theorem open_prs {n : Nat} {sp : Nat → Bool} {v : Value} {y : DataW H × List MemPlace} (h : DataW.trod enc Tryd.prog W 0 sp true n 22 [v] = some y) :
    ∃ A k c l, v = .slice A k c ∧ ReadsP W W.heap.size A k l ∧ (A = none → c = 0) := by
  have hn := open_slice Tryd.underlying22 h
  obtain ⟨A, k, c, l, rfl, _, hl, hr, _⟩ := open_gen Tryd.underlying22 3 (by kernel_rfl) (by omega) prCells (fun x => rfl) (fun _ _ => True) (fun n cs y h => by obtain ⟨p, e⟩ := open_pr h; exact ⟨p, e, trivial⟩) h
  refine ⟨A, k, c, l, rfl, ⟨hl, hr⟩, fun e => ?_⟩
  subst e
  rcases hn with ⟨hc, _⟩ | ⟨a, len, cap, m, n', D, Pl, hc, _⟩
  · simp at hc; exact hc.2
  · simp at hc
set_option maxRecDepth 100000 in
theorem open_cm {n : Nat} {sp : Nat → Bool} {cs : List Value} {y : DataW H × List MemPlace} (h : DataW.trod enc Tryd.prog W 0 sp true n 24 cs = some y) :
    ∃ (c : Cm) (A : Option Addr) (k cp : Nat), cs = [.int .i64 c.kind, .int .i64 c.tx, .int .i64 c.time, .slice A k cp] ∧ ReadsP W W.heap.size A k c.writes ∧ (A = none → cp = 0) := by
  obtain ⟨xs, m, _, rfl, hlen, hxl, hf⟩ := DataW.trod_struct Tryd.underlying24 h
  have hc : Tryd.prog.cellsOf 24 = 4 := by kernel_rfl
  have hi : Tryd.prog.cellsOf 3 = 1 := by kernel_rfl
  have hs : Tryd.prog.cellsOf 22 = 1 := by kernel_rfl
  rw [hc] at hlen
  match cs, hlen, xs, hxl with
  | [c0, c1, c2, c3], _, [y0, y1, y2, y3], _ =>
    have f0 := hf 0 _ rfl
    have f1 := hf 1 _ rfl
    have f2 := hf 2 _ rfl
    have f3 := hf 3 _ rfl
    simp [hi, hs] at f0 f1 f2 f3
    obtain ⟨k0, e0, rfl, _⟩ := DataW.trod_int Tryd.underlying3 f0
    obtain ⟨k1, e1, rfl, _⟩ := DataW.trod_int Tryd.underlying3 f1
    obtain ⟨k2, e2, rfl, _⟩ := DataW.trod_int Tryd.underlying3 f2
    obtain ⟨A, k, cp, l, e3, hr, hb⟩ := open_prs f3
    simp at e0 e1 e2
    subst e0 e1 e2 e3
    exact ⟨⟨k0, k1, k2, l⟩, A, k, cp, rfl, hr, hb⟩
set_option maxRecDepth 100000 in
theorem open_mr {n : Nat} {sp : Nat → Bool} {cs : List Value} {y : DataW H × List MemPlace} (h : DataW.trod enc Tryd.prog W 0 sp true n 26 cs = some y) : ∃ x : MsR, cs = mrCells x ∧ MgOk W x := by
  obtain ⟨xs, m, _, rfl, hlen, hxl, hf⟩ := DataW.trod_struct Tryd.underlying26 h
  have hc : Tryd.prog.cellsOf 26 = 9 := by kernel_rfl
  have hi : Tryd.prog.cellsOf 3 = 1 := by kernel_rfl
  have hs : Tryd.prog.cellsOf 24 = 4 := by kernel_rfl
  rw [hc] at hlen
  match cs, hlen, xs, hxl with
  | [c0, c1, c2, c3, c4, c5, c6, c7, c8], _, [y0, y1, y2, y3, y4, y5], _ =>
    have f0 := hf 0 _ rfl
    have f1 := hf 1 _ rfl
    have f2 := hf 2 _ rfl
    have f3 := hf 3 _ rfl
    have f4 := hf 4 _ rfl
    have f5 := hf 5 _ rfl
    simp [hi, hs] at f0 f1 f2 f3 f4 f5
    obtain ⟨k0, e0, rfl, _⟩ := DataW.trod_int Tryd.underlying3 f0
    obtain ⟨k1, e1, rfl, w1⟩ := DataW.trod_int Tryd.underlying3 f1
    obtain ⟨k2, e2, rfl, w2⟩ := DataW.trod_int Tryd.underlying3 f2
    obtain ⟨k3, e3, rfl, _⟩ := DataW.trod_int Tryd.underlying3 f3
    obtain ⟨k4, e4, rfl, _⟩ := DataW.trod_int Tryd.underlying3 f4
    obtain ⟨c, A, k, cp, e5, hr, hb⟩ := open_cm f5
    simp at e0 e1 e2 e3 e4 e5
    obtain ⟨e5, e6, e7, e8⟩ := e5
    subst e0 e1 e2 e3 e4 e5 e6 e7 e8
    exact ⟨⟨⟨k0, k1, k2, k3, k4, c⟩, A, k, cp⟩, rfl, hr, w1, w2, hb⟩
set_option maxRecDepth 100000 in
theorem open_way {n : Nat} {sp : Nat → Bool} {cs : List Value} {y : DataW H × List MemPlace} (h : DataW.trod enc Tryd.prog W 0 sp true n 77 cs = some y) : ∃ x : WyR, cs = wyCells x ∧ WyOk W x := by
  obtain ⟨xs, m, _, rfl, hlen, hxl, hf⟩ := DataW.trod_struct Tryd.underlying77 h
  have hc : Tryd.prog.cellsOf 77 = 3 := by kernel_rfl
  have hi : Tryd.prog.cellsOf 3 = 1 := by kernel_rfl
  have hs : Tryd.prog.cellsOf 68 = 1 := by kernel_rfl
  rw [hc] at hlen
  match cs, hlen, xs, hxl with
  | [c0, c1, c2], _, [y0, y1, y2], _ =>
    have f0 := hf 0 _ rfl
    have f1 := hf 1 _ rfl
    have f2 := hf 2 _ rfl
    simp [hi, hs] at f0 f1 f2
    obtain ⟨k0, e0, rfl, _⟩ := DataW.trod_int Tryd.underlying3 f0
    obtain ⟨k1, e1, rfl, w1⟩ := DataW.trod_int Tryd.underlying3 f1
    obtain ⟨A, k, c, l, e2, _, hl, hr, hq⟩ := open_gen Tryd.underlying68 9 (by kernel_rfl) (by omega) mrCells (fun x => rfl) (fun _ x => MgOk W x) (fun n cs y h => open_mr h) f2
    simp at e0 e1
    subst e0 e1 e2
    exact ⟨⟨k0, k1, A, k, c, l⟩, rfl, w1, hl, hr, fun x hx => by obtain ⟨_, _, h⟩ := hq x hx; exact h⟩
end
theorem params_ok : ∀ t ∈ Tryd.f7.params.toList, Tryd.prog.readableRec t = true ∧ t < Tryd.prog.types.size := by
  rw [Tryd.params7]
  intro t ht
  rcases (by simpa using ht : t = 67 ∨ t = 4) with rfl | rfl
  · exact ⟨by kernel_rfl, by rw [h_size]; decide⟩
  · exact ⟨by kernel_rfl, by rw [h_size]; decide⟩
set_option maxRecDepth 100000 in
theorem contract (H : Type) (enc : TypeId × Value → H) (W : World) (base : Nat) (args : Array Value) (ds gs : List (DataW H)) (before : List MemPlace)
    (hval : ∀ (j : Nat) t v, Tryd.f7.params[j]? = some t → args[j]? = some v → Value.okWide Tryd.prog W .any base t v)
    (hW : DataW.Whole enc Tryd.prog Tryd.f7.params.toList Rows.netPlaysSpec.vars false W args.toList ds gs before) (hL : laidMetH Tryd.prog laidList W) :
    Calls Tryd.prog 7 args W fun e W' => ∃ v, e = .returned v ∧ Rows.netPlaysSpec.post enc Tryd.prog Tryd.f7 false true false false W args v W' := by
  have hW' := hW
  obtain ⟨p, q, hA0, hV, rfl, hfz, hnd⟩ := hW
  have hA : DataW.TrodAll enc Tryd.prog W 0 (fun _ => true) true Tryd.f7.params.toList args.toList ds p := hA0
  rw [Tryd.params7] at hA hval
  obtain ⟨v0, vs0, d0, ds0, p0, q0, hargs, rfl, rfl, h0, r0⟩ := trodAll_cons hA
  obtain ⟨v1, vs1, d1, ds1, p1, q1, rfl, rfl, rfl, h1, r1⟩ := trodAll_cons r0
  obtain ⟨rfl, rfl, rfl⟩ := trodAll_nil r1
  obtain rfl : args = #[v0, v1] := by cases args; simp_all
  obtain ⟨rfl, rfl⟩ := trodVars_none hV
  obtain ⟨fuel, hf⟩ := h0
  obtain ⟨fuel1, hf1⟩ := h1
  obtain ⟨aa, ln, cp, rfl⟩ := okWide_slice Tryd.underlying67 (hval 0 67 v0 rfl rfl)
  obtain ⟨b, rfl⟩ := okWide_bool Tryd.underlying4 (hval 1 4 v1 rfl rfl)
  obtain ⟨A, k, c, l, hcs, _, hl, hr, hq⟩ := open_gen Tryd.underlying67 3 (by kernel_rfl) (by omega) wyCells (fun x => rfl) (fun _ x => WyOk W x) (fun n cs y h => open_way h) hf
  rw [hcs]
  refine (plays_walk l k c A b W hr hl (fun x hx => (by obtain ⟨_, _, h⟩ := hq x hx; exact h)) (laid_of hL)).mono fun e W' ⟨he, hbl⟩ => ?_
  rw [← hcs]
  subst he
  exact ⟨_, rfl, close_law (tb := 4) (by kernel_rfl) params_ok (by rfl) Tryd.underlying4 rfl hW' rfl hbl⟩
def wArgs : Array Value := #[.slice none 0 0, .bool false]
theorem reads (os : Os) {H : Type} (enc : TypeId × Value → H) : ∃ places, DataW.whole enc Tryd.prog ((laidWorld os).forCall (fun _ _ => 0) ⟨#[], wArgs, []⟩).memory Tryd.f7.params.toList Rows.netPlaysSpec.vars false wArgs.toList 8 =
    some ([.nil, .lit (.bool false)], [], places) :=
  ⟨[], by kernel_rfl⟩
set_option maxRecDepth 100000 in
theorem lifted (os : Os) (started : os.Started) (H : Type) (enc : TypeId × Value → H) (F : Stop.Interp) :
    ReturnsInHanded {} Tryd.checked os 7 .any ((OpenSpec.ofChange Rows.netPlaysSpec).preRow enc Tryd.prog Tryd.f7 Rows.netPlaysRow.domain false Rows.netPlaysRow.laid) (((OpenSpec.ofChange Rows.netPlaysSpec).at F).post enc Tryd.prog Tryd.f7 false true false false) := by
  obtain ⟨places, hx⟩ := reads os enc
  refine returnsInHanded_of_row (C := Tryd.checked) (s := OpenSpec.ofChange Rows.netPlaysSpec) own_knob started (by kernel_rfl) Tryd.func7
    (witness_row_at (enc := enc) (C := Tryd.checked) false (laidWorld os) wArgs rfl (by kernel_rfl) (by kernel_rfl) (by kernel_rfl)
      (OpenSpec.preRow_of_cond 8 hx (by kernel_rfl) (fun k hk => by cases hk) (by kernel_rfl) (laidWorld_met os _))) ?_
  intro W base args ds gs before hval hW _ hcond _ hL _ _
  exact contract H enc W base args ds gs before hval hW hL
theorem said : Rows.NetPlaysSaid :=
  OpenClaim.holds_of_cond 7 Tryd.f7 rfl rfl rfl rfl rfl rfl rfl ⟨rfl, rfl, rfl, rfl, rfl⟩ rfl rfl rfl rfl rfl (by kernel_rfl) Tryd.func7 (by kernel_rfl)
    (of_decide_eq_true (by kernel_rfl)) (by unfold Func.isWrapper; first | (rw [if_pos (by decide +kernel)]; kernel_rfl) | (rw [if_neg (by decide +kernel)]; exact ⟨rfl, rfl⟩))
    (fun os started H enc _ F => by rw [OpenClaim.pre_eq_preRow]; exact lifted os started H enc F)
theorem plain (f : FuncId) (fn : Func) (hf : Tryd.pinned.checked.prog.funcNamed "chainmail/chainmaillaw.NetPlays" = some f) (hfn : Tryd.pinned.checked.prog.funcs[f]? = some fn) :
    true = Tryd.pinned.checked.prog.looks [] ∧ ∀ (j : Nat) t, fn.params[j]? = some t → Tryd.pinned.checked.prog.wantsStandIn t = false := by
  obtain rfl : f = 7 := Option.some.inj ((show Tryd.prog.funcNamed "chainmail/chainmaillaw.NetPlays" = some 7 by kernel_rfl).symm.trans hf) |>.symm
  obtain rfl : fn = Tryd.f7 := (Option.some.inj (Tryd.func7.symm.trans hfn)).symm
  refine ⟨by kernel_rfl, fun j t ht => ?_⟩
  rw [Tryd.params7] at ht
  rcases (by simpa using Array.mem_of_getElem? ht : t = 67 ∨ t = 4) with rfl | rfl
  · exact (show Tryd.prog.wantsStandIn 67 = false by kernel_rfl)
  · exact (show Tryd.prog.wantsStandIn 4 = false by kernel_rfl)
theorem proved : Rows.NetPlaysCardSaid :=
  Claim7.holds_tied_plain_at .later [] _ _ _ _ said (fun _ h => by cases h) (by kernel_rfl) (fun _ h => by cases h) netPlays_row_tie rfl ⟨rfl, rfl⟩ (by kernel_rfl) rfl plain (by kernel_rfl)
#print axioms proved
end Go.Proofs.YtnahkpfamocnfaaDoor.netPlays
