/- ntake with the slot and the value told: the frame stays written out. -/
import Derived.Test.YtopmehbncidpnaaGreatDoorHeldN
import Derived.Test.YtopmehbncidpnaaGreatDoorMapG
namespace Go.Proofs.YtopmehbncidpnaaGreatDoor
open Go.RowKit
section
variable {P : Program} {md : Region.Mode} {ops : Array Oper} {Q : Exit → Act → World → Prop} {N : Nat} {C : World → Prop}
theorem ntakeV (i d : Nat) (v : Value) {oi : Oper} {fuel : Nat} {listed : Array Bool} {a : Act} {w : World} (hi : ops[i]? = some oi) (hd : oi.dst = some d)
    (hs : Region.noSelect ops = true) (hf : Region.free md ops listed i = true) (hl : lateB md ops listed i N = true) (hr : (Region.ready md ops listed).contains i = true)
    (hQ : ∀ c a w, Q (.panic c) (Act.put a (some d) v) w → Q (.panic c) a w) (hw : Region.wanted oi (yielded ops a.tmps) = true) (hC : C w)
    (hy : ∀ w, C w → (execOp a.eval oi).run P w = .ok (.value v) w)
    (h : wpAnyN P md ops Q N C fuel (listed.setIfInBounds i true) (a.put (some d) v) w) : wpAnyN P md ops Q N C (fuel + 1) listed a w :=
  ntake i hi hs hf hl hr (by rw [hd]; exact hQ) hw hC hy (by rw [hd]; exact h)
theorem nskipV (i d : Nat) {oi : Oper} {fuel : Nat} {listed : Array Bool} {a : Act} {w : World} (hi : ops[i]? = some oi) (hd : oi.dst = some d)
    (hs : Region.noSelect ops = true) (hf : Region.free md ops listed i = true) (hl : lateB md ops listed i N = true) (hr : (Region.ready md ops listed).contains i = true)
    (hQ : ∀ c a w, Q (.panic c) (Act.put a (some d) undef) w → Q (.panic c) a w) (hw : Region.wanted oi (yielded ops a.tmps) = false) (hC : C w)
    (h : wpAnyN P md ops Q N C fuel (listed.setIfInBounds i true) (a.put (some d) undef) w) : wpAnyN P md ops Q N C (fuel + 1) listed a w :=
  nskip i hi hs hf hl hr (by rw [hd]; exact hQ) hw hC (by rw [hd]; exact h)
/-- An operation alone, told: no post of its own but K. -/
theorem nonlyV (i : Nat) (o : Oper) {fuel : Nat} {listed : Array Bool} {a : Act} {w : World} (hr : Region.ready md ops listed = [i]) (ho : ops[i]? = some o)
    (hw : Region.wanted o (yielded ops a.tmps) = true) (h : ∀ K' : Act → World → Prop, (∀ a w, (i < N → C w) → wpAnyN P md ops Q N C fuel (listed.setIfInBounds i true) a w → K' a w) → Oper.wp P o a w K' Q) : wpAnyN P md ops Q N C (fuel + 1) listed a w := nonly i hr ho hw h
/-- A map's update alone in a drawn region. -/
theorem nsetG {kt : TypeId} {κ : Type} {C' : KeyC P kt κ} {b n : Nat} {m : κ → Option Value} (i : Nat) (d : Option Nat) {o : Oper} {fuel : Nat} {listed : Array Bool} {a : Act} {w : World} (hr : Region.ready md ops listed = [i]) (ho : ops[i]? = some o) (hd : o.dst = d)
    (hw : Region.wanted o (yielded ops a.tmps) = true) (t e : TypeId) (ht : P.underlying t = some (.map kt e)) (mo x v : Operand) (hop : o.op = Op.mapUpdate t mo x v) (hm : a.eval mo = .map (some b)) (hown : MapG C' w b n m) (hn : n < maxLen) (key : κ) (val : Value) (hx : a.eval x = C'.val key) (hv : a.eval v = val)
    (hk : C'.ok key) (hK : ∀ w', MapG C' w' b (n + 1) (putM m key (some val)) → Fr (fun k => k = b) w w' → (i < N → C w') ∧ wpAnyN P md ops Q N C fuel (listed.setIfInBounds i true) (a.put d undef) w') : wpAnyN P md ops Q N C (fuel + 1) listed a w :=
  nonly i hr ho hw fun _ hK' => wp_setG t e ht mo x v hop hm hown hn key val hx hv hk fun w' h1 h2 => hK' _ _ (hK w' h1 h2).1 (by rw [hd]; exact (hK w' h1 h2).2)
end
end Go.Proofs.YtopmehbncidpnaaGreatDoor
