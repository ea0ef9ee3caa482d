/- Ranging over a map that the call has made, told as a function: the walk's two laws. -/
import Derived.Test.YtmgpdkecpobcaaaDoorMapG
namespace Go.Proofs.YtmgpdkecpobcaaaDoor
open Go.RowKit Go.Maps Go.WideMaps
section
variable {P : Program} {kt : TypeId} {κ : Type} {C : KeyC P kt κ} {w : World} {ops : Array Oper} {rest : List Oper} {o : Oper} {a : Act} {Q : Exit → Act → World → Prop} {b r n cnt : Nat} {m : κ → Option Value} {left : κ → Bool}
theorem RangeG.left_eq (h : RangeG C w b r n m left cnt) : w.rangeLeft b r = cnt := by obtain ⟨D, l, hr, _⟩ := h; exact hr.left_eq
theorem wpList_rangeG (hg : o.guard = none) (mo : Operand) (t e : TypeId) (hop : o.op = Op.range t mo) (ht : P.underlying t = some (.map kt e)) (hm : a.eval mo = .map (some b)) (hown : MapG C w b n m)
    (hK : ∀ w' cnt, RangeG C w' b w.heap.size n m (fun x => (m x).isSome) cnt → Fr (fun _ => False) w w' → w'.heap.size = w.heap.size + 1 → wpList P ops Q rest (a.put o.dst (.pointer (some ⟨w.heap.size, 0, none⟩))) w') :
    wpList P ops Q (o :: rest) a w := by
  refine wpList_plain hg fun K' hK' => ?_
  obtain ⟨w', cnt, hrun, r1, r2, r3⟩ := hown.range ht
  unfold Oper.wp
  simp [execOp, hop, hm, hrun, Result.andThen]
  exact hK' _ _ (hK w' cnt r1 r2 r3)
open Classical in
theorem wpList_nextG (hg : o.guard = none) (it : Operand) (hop : o.op = Op.next it false) (hit : a.eval it = .pointer (some ⟨r, 0, none⟩)) (h : RangeG C w b r n m left cnt)
    (hDone : (∀ x, C.ok x → left x = false) → wpList P ops Q rest (a.put o.dst (.tuple #[.bool false])) w)
    (hMore : ∀ (x : κ) (v : Value) (w' : World) (cnt' : Nat), C.ok x → left x = true → m x = some v → RangeG C w' b r n m (fun y => left y && !decide (y = x)) cnt' → cnt' < cnt →
      Fr (fun k => k = r) w w' → w'.heap.size = w.heap.size → (Instr.entry (.pointer (some ⟨r, 0, none⟩))).run P w' = .ok (.tuple #[C.val x, v]) w' → wpList P ops Q rest (a.put o.dst (.tuple #[.bool true, C.val x, v])) w') :
    wpList P ops Q (o :: rest) a w := by
  refine wpList_plain hg fun K' hK' => ?_
  unfold Oper.wp
  rcases h.next o.type with ⟨h0, hl, hrun⟩ | ⟨x, v, w', cnt', hx, hlk, hm, hrun, hrg, hlt, hf, hsz, hen⟩
  · simp [execOp, hop, hit, hrun, Result.andThen]
    exact hK' _ _ (hDone hl)
  · simp [execOp, hop, hit, hrun, Result.andThen]
    exact hK' _ _ (hMore x v w' cnt' hx hlk hm hrg hlt hf hsz hen)
end
end Go.Proofs.YtmgpdkecpobcaaaDoor
