/- ntake and ntakeD with the slot told: the frame stays written out. -/
import Derived.Test.YtmgpdkecpobcaaaDoorHeldD
namespace Go.Proofs.YtmgpdkecpobcaaaDoor
open Go.RowKit
section
variable {P : Program} {md : Region.Mode} {ops : Array Oper} {Q : Exit → Act → World → Prop} {N : Nat} {C : World → Prop}
theorem ntakeW (i : Nat) {d : Nat} {v : Value} {oi : Oper} {fuel : Nat} {listed : Array Bool} {a : Act} {w : World} (hi : ops[i]? = some oi) (hd : oi.dst = some d)
    (hs : Region.noSelect ops = true) (hf : Region.free md ops listed i = true) (hl : lateB md ops listed i N = true) (hr : (Region.ready md ops listed).contains i = true)
    (hQ : ∀ c a w, Q (.panic c) (Act.put a (some d) v) w → Q (.panic c) a w) (hw : Region.wanted oi (yielded ops a.tmps) = true) (hC : C w)
    (hy : ∀ w, C w → (execOp a.eval oi).run P w = .ok (.value v) w)
    (h : wpAnyN P md ops Q N C fuel (listed.setIfInBounds i true) (a.put (some d) v) w) : wpAnyN P md ops Q N C (fuel + 1) listed a w :=
  ntake i hi hs hf hl hr (by rw [hd]; exact hQ) hw hC hy (by rw [hd]; exact h)
theorem nskipW (i : Nat) {d : Nat} {oi : Oper} {fuel : Nat} {listed : Array Bool} {a : Act} {w : World} (hi : ops[i]? = some oi) (hd : oi.dst = some d)
    (hs : Region.noSelect ops = true) (hf : Region.free md ops listed i = true) (hl : lateB md ops listed i N = true) (hr : (Region.ready md ops listed).contains i = true)
    (hQ : ∀ c a w, Q (.panic c) (Act.put a (some d) undef) w → Q (.panic c) a w) (hw : Region.wanted oi (yielded ops a.tmps) = false) (hC : C w)
    (h : wpAnyN P md ops Q N C fuel (listed.setIfInBounds i true) (a.put (some d) undef) w) : wpAnyN P md ops Q N C (fuel + 1) listed a w :=
  nskip i hi hs hf hl hr (by rw [hd]; exact hQ) hw hC (by rw [hd]; exact h)
theorem ntakeDW (i : Nat) (D : List Nat) {d : Nat} {v : Value} {oi : Oper} {fuel : Nat} {listed : Array Bool} {a : Act} {w : World} (hi : ops[i]? = some oi) (hd : oi.dst = some d)
    (hs : Region.noSelect ops = true) (hf : Region.free md ops listed i = true) (hb : behindB md ops listed i D = true) (hl : lateD md ops listed i N D = true) (hr : (Region.ready md ops listed).contains i = true)
    (hQ : ∀ c a w, Q (.panic c) (Act.put a (some d) v) w → Q (.panic c) a w) (hw : Region.wanted oi (yielded ops a.tmps) = true) (hC : C w)
    (hy : ∀ w, C w → (execOp a.eval oi).run P w = .ok (.value v) w)
    (h : wpAnyN P md ops Q N C fuel (listed.setIfInBounds i true) (a.put (some d) v) w) : wpAnyN P md ops Q N C (fuel + 1) listed a w :=
  ntakeD i D hi hs hf hb hl hr (by rw [hd]; exact hQ) hw hC hy (by rw [hd]; exact h)
end
end Go.Proofs.YtmgpdkecpobcaaaDoor
