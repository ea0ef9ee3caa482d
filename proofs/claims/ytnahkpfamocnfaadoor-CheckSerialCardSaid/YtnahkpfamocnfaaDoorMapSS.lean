/- A map from strings to strings that the call has made: what it holds, told as a function; its laws at the operations. -/
import Derived.Test.YtnahkpfamocnfaaDoorFrame
import Derived.Test.YtnahkpfamocnfaaDoorSerPlain
import Derived.Test.YtnahkpfamocnfaaDoorRows
import Derived.Maps.OwnSet
import Derived.Maps.RangeWalk
import Derived.Maps.Ext
import Derived.Maps.StringElems
import Derived.WalkKit
import Derived.WalkSpells
import Derived.WalkLawsBesides
namespace Go.Proofs.YtnahkpfamocnfaaDoor
open Go.RowKit Go.Maps Go.WideMaps
theorem strLaw : Keyed Tryd.prog 9 := string_keyed Tryd.underlying9
theorem zeroS (w : World) : (zeroValue 9).run Tryd.prog w = .ok (.string ⟨#[]⟩) w := by kernel_rfl
def klS (s : ByteArray) : Lit := .string s.data.toList
theorem klS_key (s : ByteArray) : WideAt.IsKeyLit (klS s) := trivial
theorem klS_inj {s t : ByteArray} (h : klS s = klS t) : s = t := by
  unfold klS at h
  injection h with h
  have : s.data = t.data := Array.ext' h
  cases s; cases t; simp_all
def ViewSS (D : DataW Unit) (m : Mp) : Prop := ∀ s : ByteArray, s.size ≤ maxLen → Maps.has D (klS s) = (m s).isSome ∧ ∀ v, m s = some v → ∀ z, D.atKey (klS s) z = .lit (.string v.data.toList)
/-- Block b is a map of at most n entries that holds what m tells. -/
def MapV (w : World) (b n : Nat) (m : Mp) : Prop := ∃ D : DataW Unit, w.ownsMap Tryd.prog 9 (plainElem Tryd.prog 9) b n D ∧ ViewSS D m
section
variable {w w' : World} {b n : Nat} {m : Mp}
theorem MapV.lt (h : MapV w b n m) : b < w.heap.size := by obtain ⟨D, h, _⟩ := h; exact h.lt
theorem MapV.mono (h : MapV w b n m) {n' : Nat} (hn : n ≤ n') : MapV w b n' m := by obtain ⟨D, h, hv⟩ := h; exact ⟨D, h.mono hn, hv⟩
theorem MapV.of_block (h : MapV w b n m) (e : w'.heap[b]? = w.heap[b]?) : MapV w' b n m := by
  obtain ⟨D, ⟨es, clock, hb, r⟩, hv⟩ := h
  exact ⟨D, ⟨es, clock, e.trans hb, r⟩, hv⟩
theorem MapV.fr {S : Nat → Prop} (h : MapV w b n m) (hf : Fr S w w') (hn : ¬ S b) : MapV w' b n m := h.of_block (hf.block b h.lt hn)
theorem MapV.below {B : Nat} (h : MapV w b n m) (hb : Below B w w') (hB : b < B) : MapV w' b n m := h.of_block (hb.block b hB)
theorem MapV.drew (h : MapV w b n m) : MapV w.drew b n m := h
theorem MapV.alloc (h : MapV w b n m) (o : Obj) : MapV (w.alloc o) b n m := h.fr (S := fun _ => False) ((Fr.refl _ _).alloc o) (fun x => x)
theorem MapV.notBlk {g : Nat} {t : TypeId} {cs : Array Value} (h : MapV w b n m) (hb : Blk w g t cs) : b ≠ g := by
  rintro rfl
  obtain ⟨D, ⟨es, clock, e, _⟩, _⟩ := h
  unfold Blk at hb
  rw [e] at hb
  cases hb
theorem MapV.notOwn {base size k : Nat} {e : TypeId} {v : Value} {xs : List Value} (h : MapV w b n m) (ho : w.ownsRow base e size v k xs) : v.ownBlock ≠ some b := by
  rcases ho.2 with ⟨rfl, _⟩ | ⟨g, cap, cur, rfl, _, hh, _⟩
  · simp [Value.ownBlock]
  · intro he
    have : g = b := by simpa [Value.ownBlock] using he
    subst this
    obtain ⟨D, ⟨es, clock, e, _⟩, _⟩ := h
    rw [e] at hh
    cases hh
theorem viewSS_empty : ViewSS (.map []) Mp.empty := fun s _ => ⟨rfl, fun v h => by cases h⟩
theorem MapV.made (w : World) : MapV (w.alloc (.map #[] 0)) w.heap.size 0 Mp.empty := ⟨_, World.ownsMap_made w _ _ _, viewSS_empty⟩
theorem ViewSS.set {D : DataW Unit} (h : ViewSS D m) (hD : IsMap D) (s v : ByteArray) : ViewSS (D.put (klS s) (.lit (.string v.data.toList))) (m.set s (some v)) := fun t ht => by
  by_cases e : t = s
  · subst e
    rw [has_put_same hD (klS_key t)]
    refine ⟨by simp [Mp.set], fun u hu z => ?_⟩
    rw [atKey_put_same hD (klS_key t)]
    simp [Mp.set] at hu
    rw [hu]
  · have hne : klS t ≠ klS s := fun h2 => e (klS_inj h2)
    rw [has_put_other hne]
    have hm : m.set s (some v) t = m t := by simp [Mp.set, e]
    rw [hm]
    refine ⟨(h t ht).1, fun u hu z => ?_⟩
    rw [atKey_put_other hne]
    exact (h t ht).2 u hu z
theorem ViewSS.del {D : DataW Unit} (h : ViewSS D m) (s : ByteArray) : ViewSS (D.del (klS s)) (m.set s none) := fun t ht => by
  by_cases e : t = s
  · subst e
    rw [has_del_same]
    exact ⟨by simp [Mp.set], fun u hu z => by simp [Mp.set] at hu⟩
  · have hne : klS t ≠ klS s := fun h2 => e (klS_inj h2)
    rw [has_del_other hne]
    have hm : m.set s none t = m t := by simp [Mp.set, e]
    rw [hm]
    refine ⟨(h t ht).1, fun u hu z => ?_⟩
    rw [atKey_del_other hne]
    exact (h t ht).2 u hu z
/-- 'v, ok := m[k]'. -/
theorem MapV.look (h : MapV w b n m) (s : ByteArray) (hs : s.size ≤ maxLen) :
    (Instr.lookup 100 (.map (some b)) (.string s) true).run Tryd.prog w = .ok (.tuple #[.string ((m s).getD ⟨#[]⟩), .bool (m s).isSome]) w := by
  obtain ⟨D, ho, hv⟩ := h
  obtain ⟨v, ps, hrun, hR⟩ := ho.look_ok strLaw Tryd.underlying100 (zeroS w) (zd := .lit (.string [])) (zp := []) (plainElem_string Tryd.underlying9 (s := ⟨#[]⟩) (by unfold maxLen; show 0 ≤ _; omega)) (keyOf_string_mk Tryd.underlying9 hs)
  obtain ⟨u, rfl, he, _⟩ := plainElem_string_inv Tryd.underlying9 hR
  obtain ⟨h1, h2⟩ := hv s hs
  rw [hrun]
  have hk : (Lit.string s.data.toList) = klS s := rfl
  rw [hk] at he ⊢
  have hval : u = (m s).getD ⟨#[]⟩ := by
    rcases hm : m s with _ | x
    · have hz : D.atKey (klS s) (.lit (.string [])) = .lit (.string []) := atKey_of_not_has (by rw [h1, hm]; rfl) _
      rw [hz] at he
      have he2 : (DataW.lit (Lit.string []) : DataW Unit) = .lit (.string u.data.toList) := congrArg Prod.fst he
      simp only [DataW.lit.injEq, Lit.string.injEq] at he2
      show u = _
      have : u.data = #[] := Array.ext' (by simpa using he2.symm)
      cases u; simp_all
    · rw [h2 x hm] at he
      have he2 : (DataW.lit (Lit.string x.data.toList) : DataW Unit) = .lit (.string u.data.toList) := congrArg Prod.fst he
      simp only [DataW.lit.injEq, Lit.string.injEq] at he2
      show u = x
      have : u.data = x.data := Array.ext' he2.symm
      cases u; cases x; simp_all
  rw [h1, hval]
end
section
variable {w : World} {ops : Array Oper} {rest : List Oper} {o : Oper} {a : Act} {Q : Exit → Act → World → Prop} {K : Act → World → Prop}
/-- 'm[k] = v'. -/
theorem wp_setSS (m x v : Operand) (hop : o.op = Op.mapUpdate 100 m x v) (b n : Nat) (mp : Mp) (hm : a.eval m = .map (some b)) (hown : MapV w b n mp) (hn : n < maxLen) (key val : ByteArray) (hx : a.eval x = .string key) (hv : a.eval v = .string val)
    (hk : key.size ≤ maxLen) (hvl : val.size ≤ maxLen) (hK : ∀ w', MapV w' b (n + 1) (mp.set key (some val)) → Fr (fun k => k = b) w w' → K (a.put o.dst undef) w') : o.wp Tryd.prog a w K Q := by
  obtain ⟨D, ho, hview⟩ := hown
  obtain ⟨w', hrun, r1, r2⟩ := ho.update strLaw Tryd.underlying100 hn (keyOf_string_mk Tryd.underlying9 hk) (plainElem_string Tryd.underlying9 hvl)
  unfold Oper.wp
  simp [execOp, hop, hm, hx, hv, hrun, Result.andThen]
  exact hK _ ⟨_, r1, hview.set ho.isMap key val⟩ (Fr.of_grown r2 (fun k e => (Option.some.inj e).symm))
theorem wpList_setSS (hg : o.guard = none) (m x v : Operand) (hop : o.op = Op.mapUpdate 100 m x v) (b n : Nat) (mp : Mp) (hm : a.eval m = .map (some b)) (hown : MapV w b n mp) (hn : n < maxLen) (key val : ByteArray) (hx : a.eval x = .string key) (hv : a.eval v = .string val)
    (hk : key.size ≤ maxLen) (hvl : val.size ≤ maxLen) (hK : ∀ w', MapV w' b (n + 1) (mp.set key (some val)) → Fr (fun k => k = b) w w' → wpList Tryd.prog ops Q rest (a.put o.dst undef) w') : wpList Tryd.prog ops Q (o :: rest) a w :=
  wpList_plain hg fun _ hK' => wp_setSS m x v hop b n mp hm hown hn key val hx hv hk hvl fun w' h1 h2 => hK' _ _ (hK w' h1 h2)
/-- 'delete(m, k)'. -/
theorem wp_delSS (m x : Operand) (hop : o.op = Op.call { callee := Callee.builtin Builtin.delete, args := #[m, x], argTypes := #[100, 9] }) (b n : Nat) (mp : Mp) (hm : a.eval m = .map (some b)) (hown : MapV w b n mp) (key : ByteArray) (hx : a.eval x = .string key)
    (hk : key.size ≤ maxLen) (hK : ∀ w', MapV w' b n (mp.set key none) → Fr (fun k => k = b) w w' → K (a.put o.dst (.tuple #[])) w') : o.wp Tryd.prog a w K Q := by
  obtain ⟨D, ho, hview⟩ := hown
  obtain ⟨w', hrun, r1, r2⟩ := ho.drop strLaw Tryd.underlying100 (keyOf_string_mk Tryd.underlying9 hk) o.type
  unfold Oper.wp
  simp [execOp, hop, resolve, invoke, builtin, hm, hx, hrun, Result.andThen]
  exact hK _ ⟨_, r1, hview.del key⟩ (Fr.of_grown r2.grown (fun k e => (Option.some.inj e).symm))
theorem wpList_delSS (hg : o.guard = none) (m x : Operand) (hop : o.op = Op.call { callee := Callee.builtin Builtin.delete, args := #[m, x], argTypes := #[100, 9] }) (b n : Nat) (mp : Mp) (hm : a.eval m = .map (some b)) (hown : MapV w b n mp) (key : ByteArray) (hx : a.eval x = .string key)
    (hk : key.size ≤ maxLen) (hK : ∀ w', MapV w' b n (mp.set key none) → Fr (fun k => k = b) w w' → wpList Tryd.prog ops Q rest (a.put o.dst (.tuple #[])) w') : wpList Tryd.prog ops Q (o :: rest) a w :=
  wpList_plain hg fun _ hK' => wp_delSS m x hop b n mp hm hown key hx hk fun w' h1 h2 => hK' _ _ (hK w' h1 h2)
end
/-- What reads as a key of a string's type is that string. -/
theorem keyOf_str_inv {key : Value} {kl : Lit} (h : keyOf Tryd.prog 9 key = some kl) : ∃ s : ByteArray, key = .string s ∧ kl = klS s ∧ s.size ≤ maxLen := by
  have hk := Tryd.underlying9
  cases key <;> simp [keyOf, hk, mapKey] at h
  rename_i s
  exact ⟨s, rfl, h.2.symm, h.1⟩
end Go.Proofs.YtnahkpfamocnfaaDoor
