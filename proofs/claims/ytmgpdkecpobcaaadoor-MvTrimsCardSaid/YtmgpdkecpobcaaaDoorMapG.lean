/- A map that the call has made, of whatever elements: what it holds, told as a function from keys to values; its laws at the operations. -/
import Derived.Test.YtmgpdkecpobcaaaDoorFrame
import Derived.Maps.OwnSet
import Derived.Maps.RangeWalk
import Derived.Maps.Ext
import Derived.WalkKit
import Derived.WalkSpells
import Derived.WalkLawsBesides
namespace Go.Proofs.YtmgpdkecpobcaaaDoor
open Go.RowKit Go.Maps Go.WideMaps
/-- How the keys of a type are told. -/
structure KeyC (P : Program) (kt : TypeId) (κ : Type) where
  law : Keyed P kt
  kl : κ → Lit
  val : κ → Value
  ok : κ → Prop
  mkk : ∀ x, ok x → keyOf P kt (val x) = some (kl x)
  inv : ∀ v l, keyOf P kt v = some l → ∃ x, ok x ∧ v = val x ∧ l = kl x
  inj : ∀ x y, kl x = kl y → x = y
def keyI {P : Program} {kt : TypeId} (h : P.underlying kt = some (.int .i64)) : KeyC P kt Int where
  law := int_keyed h
  kl x := .int .i64 x
  val x := .int .i64 x
  ok x := (Lit.int .i64 x).wf = true
  mkk x hx := keyOf_int_mk h hx
  inv v l hv := by obtain ⟨x, h1, h2, h3⟩ := Maps.keyOf_int_inv h hv; exact ⟨x, h3, h1, h2⟩
  inj x y e := by injection e
def keyS {P : Program} {kt : TypeId} (h : P.underlying kt = some .string) : KeyC P kt ByteArray where
  law := string_keyed h
  kl s := .string s.data.toList
  val s := .string s
  ok s := s.size ≤ maxLen
  mkk s hs := keyOf_string_mk h hs
  inv v l hv := by
    cases v <;> simp [keyOf, h, mapKey] at hv
    rename_i s
    exact ⟨s, hv.1, rfl, hv.2.symm⟩
  inj s t e := by
    injection e with e
    have : s.data = t.data := Array.ext' e
    cases s; cases t; simp_all
def heldR (v : Value) : Option (DataW Value × List MemPlace) := some (.held v, [])
section
variable {P : Program} {kt : TypeId} {κ : Type}
theorem KeyC.key (C : KeyC P kt κ) {x : κ} (hx : C.ok x) : WideAt.IsKeyLit (C.kl x) := C.law.key (C.mkk x hx)
def ViewG (C : KeyC P kt κ) (D : DataW Value) (m : κ → Option Value) : Prop :=
  ∀ x, C.ok x → Maps.has D (C.kl x) = (m x).isSome ∧ ∀ v, m x = some v → ∀ z, D.atKey (C.kl x) z = .held v
/-- Block b is a map of at most n entries that holds what m tells. -/
def MapG (C : KeyC P kt κ) (w : World) (b n : Nat) (m : κ → Option Value) : Prop := ∃ D : DataW Value, w.ownsMap P kt heldR b n D ∧ ViewG C D m
variable {C : KeyC P kt κ} {w w' : World} {b n : Nat} {m : κ → Option Value}
theorem MapG.lt (h : MapG C w b n m) : b < w.heap.size := by obtain ⟨D, h, _⟩ := h; exact h.lt
theorem MapG.mono (h : MapG C w b n m) {n' : Nat} (hn : n ≤ n') : MapG C w b n' m := by obtain ⟨D, h, hv⟩ := h; exact ⟨D, h.mono hn, hv⟩
theorem MapG.of_block (h : MapG C w b n m) (e : w'.heap[b]? = w.heap[b]?) : MapG C w' b n m := by
  obtain ⟨D, ⟨es, clock, hb, r⟩, hv⟩ := h
  exact ⟨D, ⟨es, clock, e.trans hb, r⟩, hv⟩
theorem MapG.fr {S : Nat → Prop} (h : MapG C w b n m) (hf : Fr S w w') (hn : ¬ S b) : MapG C w' b n m := h.of_block (hf.block b h.lt hn)
theorem MapG.below {B : Nat} (h : MapG C w b n m) (hb : Below B w w') (hB : b < B) : MapG C w' b n m := h.of_block (hb.block b hB)
theorem MapG.drew (h : MapG C w b n m) : MapG C w.drew b n m := h
theorem MapG.drewN (h : MapG C w b n m) (k : Nat) : MapG C (w.drewN k) b n m := h
theorem MapG.alloc (h : MapG C w b n m) (o : Obj) : MapG C (w.alloc o) b n m := h.fr (S := fun _ => False) ((Fr.refl _ _).alloc o) (fun x => x)
theorem MapG.notBlk {g : Nat} {t : TypeId} {cs : Array Value} (h : MapG C w b n m) (hb : Blk w g t cs) : b ≠ g := by
  rintro rfl
  obtain ⟨D, ⟨es, clock, e, _⟩, _⟩ := h
  unfold Blk at hb
  rw [e] at hb
  cases hb
theorem MapG.notOwn {base size k : Nat} {e : TypeId} {v : Value} {xs : List Value} (h : MapG C w b n m) (ho : w.ownsRow base e size v k xs) : v.ownBlock ≠ some b := by
  rcases ho.2 with ⟨rfl, _⟩ | ⟨g, cap, cur, rfl, _, hh, _⟩
  · simp [Value.ownBlock]
  · intro he
    have : g = b := by simpa [Value.ownBlock] using he
    subst this
    obtain ⟨D, ⟨es, clock, e, _⟩, _⟩ := h
    rw [e] at hh
    cases hh
theorem viewG_empty (C : KeyC P kt κ) : ViewG C (.map []) (fun _ => none) := fun s _ => ⟨rfl, fun v h => by cases h⟩
theorem MapG.made (C : KeyC P kt κ) (w : World) : MapG C (w.alloc (.map #[] 0)) w.heap.size 0 (fun _ => none) := ⟨_, World.ownsMap_made w _ _ _, viewG_empty C⟩
open Classical in
noncomputable def putM (m : κ → Option Value) (x : κ) (v : Option Value) : κ → Option Value := fun y => if y = x then v else m y
theorem putM_same (m : κ → Option Value) (x : κ) (v : Option Value) : putM m x v x = v := by unfold putM; rw [if_pos rfl]
theorem putM_ne {m : κ → Option Value} {x y : κ} (h : y ≠ x) (v : Option Value) : putM m x v y = m y := by unfold putM; rw [if_neg h]
theorem ViewG.set {D : DataW Value} (h : ViewG C D m) (hD : IsMap D) (x : κ) (v : Value) : ViewG C (D.put (C.kl x) (.held v)) (putM m x (some v)) := fun t ht => by
  by_cases e : t = x
  · subst e
    rw [has_put_same hD (C.key ht), putM_same]
    refine ⟨rfl, fun u hu z => ?_⟩
    rw [atKey_put_same hD (C.key ht)]
    injection hu with hu
    rw [hu]
  · have hne : C.kl t ≠ C.kl x := fun h2 => e (C.inj _ _ h2)
    rw [has_put_other hne, putM_ne e]
    refine ⟨(h t ht).1, fun u hu z => ?_⟩
    rw [atKey_put_other hne]
    exact (h t ht).2 u hu z
theorem ViewG.del {D : DataW Value} (h : ViewG C D m) (x : κ) : ViewG C (D.del (C.kl x)) (putM m x none) := fun t ht => by
  by_cases e : t = x
  · subst e
    rw [has_del_same, putM_same]
    exact ⟨rfl, fun u hu z => by cases hu⟩
  · have hne : C.kl t ≠ C.kl x := fun h2 => e (C.inj _ _ h2)
    rw [has_del_other hne, putM_ne e]
    refine ⟨(h t ht).1, fun u hu z => ?_⟩
    rw [atKey_del_other hne]
    exact (h t ht).2 u hu z
theorem heldR_eq {v : Value} {d : DataW Value} {ps : List MemPlace} (h : heldR v = some (d, ps)) : d = .held v := by
  unfold heldR at h
  injection h with h
  injection h with h _
  exact h.symm
/-- 'm[k]', with 'ok' or without. -/
theorem MapG.look (h : MapG C w b n m) {t e : TypeId} (ht : P.underlying t = some (.map kt e)) {z : Value} (hz : (zeroValue e).run P w = .ok z w) {x : κ} (hx : C.ok x) :
    (Instr.lookup t (.map (some b)) (C.val x) true).run P w = .ok (.tuple #[(m x).getD z, .bool (m x).isSome]) w ∧ (Instr.lookup t (.map (some b)) (C.val x) false).run P w = .ok ((m x).getD z) w := by
  obtain ⟨D, ho, hv⟩ := h
  obtain ⟨h1, h2⟩ := hv x hx
  have hval : ∀ (v : Value) (ps : List MemPlace), heldR v = some (D.atKey (C.kl x) (.held z), ps) → v = (m x).getD z := fun v ps hR => by
    have e := heldR_eq hR
    rcases hm : m x with _ | y
    · rw [atKey_of_not_has (by rw [h1, hm]; rfl)] at e
      injection e with e
      exact e.symm
    · rw [h2 y hm] at e
      injection e with e
      exact e.symm
  obtain ⟨v, ps, hrun, hR⟩ := ho.look_ok C.law ht hz (zd := .held z) (zp := []) rfl (C.mkk x hx)
  obtain ⟨v', ps', hrun', hR'⟩ := ho.lookup C.law ht hz (zd := .held z) (zp := []) rfl (C.mkk x hx)
  rw [hrun, hrun', hval v ps hR, hval v' ps' hR', h1]
  exact ⟨rfl, rfl⟩
theorem look_nilG (C : KeyC P kt κ) (w : World) {t e : TypeId} (ht : P.underlying t = some (.map kt e)) {z : Value} (hz : (zeroValue e).run P w = .ok z w) {x : κ} (hx : C.ok x) :
    (Instr.lookup t (.map none) (C.val x) true).run P w = .ok (.tuple #[z, .bool false]) w ∧ (Instr.lookup t (.map none) (C.val x) false).run P w = .ok z w :=
  ⟨Maps.look_nil true C.law ht hz (C.mkk x hx), Maps.look_nil false C.law ht hz (C.mkk x hx)⟩
/-- 'len(m)'. -/
theorem MapG.len (h : MapG C w b n m) {t e : TypeId} (ht : P.underlying t = some (.map kt e)) : ∃ k : Nat, (∀ ty, (Builtin.len_ #[t] ty #[.map (some b)]).run P w = .ok (.int .i64 k) w) ∧ k ≤ n ∧ (k = 0 ↔ ∀ x, C.ok x → m x = none) := by
  obtain ⟨D, ho, hv⟩ := h
  refine ⟨Maps.size D, fun ty => ho.len ht ty, ho.size_le, fun h0 x hx => ?_, fun h0 => ?_⟩
  · have h1 := (hv x hx).1
    obtain ⟨es, rfl⟩ := ho.isMap
    have : es = [] := List.eq_nil_of_length_eq_zero h0
    subst this
    rcases hm : m x with _ | y
    · rfl
    · rw [hm] at h1; cases h1
  · obtain ⟨es, hD, _, hk⟩ := ho.entries C.law
    obtain ⟨es0, clock, hb, F, hs, hD2⟩ := ho
    rcases es with _ | ⟨p, es⟩
    · rw [hD]; rfl
    · exfalso
      have hkeys := Maps.fit_keys F
      have hp : p ∈ (es0.toList.map (Go.WideElems.rg P kt heldR)) := by
        have : p ∈ ((es0.toList.map (Go.WideElems.rg P kt heldR)).foldr DataW.insert []) := by
          have e : DataW.map ((es0.toList.map (Go.WideElems.rg P kt heldR)).foldr DataW.insert []) = .map (p :: es) := hD2.symm.trans hD
          injection e with e
          rw [e]
          exact List.mem_cons_self ..
        exact mem_sorted.1 this
      obtain ⟨v, hv2⟩ := hkeys p hp
      obtain ⟨x, hx, _, e2⟩ := C.inv v _ hv2
      have h1 := (hv x hx).1
      rw [h0 x hx, hD] at h1
      have : Maps.has (DataW.map (p :: es)) (C.kl x) = true := by
        rw [has_eq, List.any_cons, ← e2, WideAt.sameKey_self (by rw [e2]; exact C.key hx)]
        rfl
      rw [this] at h1
      cases h1
theorem MapG.turned (hf : w.grownBy w' (some b)) : Fr (fun k => k = b) w w' := Fr.of_grown hf (fun k e => (Option.some.inj e).symm)
/-- 'm[k] = v'. -/
theorem MapG.store (h : MapG C w b n m) {t e : TypeId} (ht : P.underlying t = some (.map kt e)) (hn : n < maxLen) {x : κ} (hx : C.ok x) (v : Value) :
    ∃ w', (Instr.mapUpdate t (.map (some b)) (C.val x) v).run P w = .ok () w' ∧ MapG C w' b (n + 1) (putM m x (some v)) ∧ Fr (fun k => k = b) w w' := by
  obtain ⟨D, ho, hview⟩ := h
  obtain ⟨w', hrun, r1, r2⟩ := ho.update C.law ht hn (C.mkk x hx) (d := .held v) (ps := []) rfl
  exact ⟨w', hrun, ⟨_, r1, hview.set ho.isMap x v⟩, MapG.turned r2⟩
/-- 'delete(m, k)'. -/
theorem MapG.drop (h : MapG C w b n m) {t e : TypeId} (ht : P.underlying t = some (.map kt e)) {x : κ} (hx : C.ok x) (ty : TypeId) :
    ∃ w', (Builtin.delete_ #[t, kt] ty #[.map (some b), C.val x]).run P w = .ok (.tuple #[]) w' ∧ MapG C w' b n (putM m x none) ∧ Fr (fun k => k = b) w w' := by
  obtain ⟨D, ho, hview⟩ := h
  obtain ⟨w', hrun, r1, r2⟩ := ho.drop C.law ht (C.mkk x hx) ty
  exact ⟨w', hrun, ⟨_, r1, hview.del x⟩, MapG.turned r2.grown⟩
/-- A range over the map under way: which keys are still to come. -/
def RangeG (C : KeyC P kt κ) (w : World) (b r n : Nat) (m : κ → Option Value) (left : κ → Bool) (cnt : Nat) : Prop :=
  ∃ (D : DataW Value) (l : Lit → Bool), w.ranges P kt heldR b r n D l cnt ∧ ViewG C D m ∧ ∀ x, C.ok x → l (C.kl x) = left x
variable {r cnt : Nat} {left : κ → Bool}
theorem RangeG.owns (h : RangeG C w b r n m left cnt) : MapG C w b n m := by obtain ⟨D, l, hr, hv, _⟩ := h; exact ⟨D, hr.owns, hv⟩
theorem RangeG.ne (h : RangeG C w b r n m left cnt) : r ≠ b := by obtain ⟨D, l, hr, hv, _⟩ := h; exact hr.ne
theorem RangeG.lt (h : RangeG C w b r n m left cnt) : r < w.heap.size := by obtain ⟨D, l, hr, hv, _⟩ := h; exact hr.lt
theorem RangeG.of_blocks (h : RangeG C w b r n m left cnt) (e : w'.heap[b]? = w.heap[b]?) (e2 : w'.heap[r]? = w.heap[r]?) : RangeG C w' b r n m left cnt := by
  obtain ⟨D, l, ⟨es, clock, since, seen, c0, hb, h1, h2, h3, hr, h4⟩, hv⟩ := h
  exact ⟨D, l, ⟨es, clock, since, seen, c0, e.trans hb, h1, h2, h3, e2.trans hr, h4⟩, hv⟩
theorem RangeG.fr {S : Nat → Prop} (h : RangeG C w b r n m left cnt) (hf : Fr S w w') (hn : ¬ S b) (hr : ¬ S r) : RangeG C w' b r n m left cnt :=
  h.of_blocks (hf.block b h.owns.lt hn) (hf.block r h.lt hr)
theorem RangeG.notBlk {g : Nat} {t : TypeId} {cs : Array Value} (h : RangeG C w b r n m left cnt) (hb : Blk w g t cs) : r ≠ g := by
  rintro rfl
  obtain ⟨D, l, ⟨es, clock, since, seen, c0, _, h1, h2, h3, hr, h4⟩, hv⟩ := h
  unfold Blk at hb
  rw [hr] at hb
  cases hb
theorem MapG.range (h : MapG C w b n m) {t e : TypeId} (ht : P.underlying t = some (.map kt e)) :
    ∃ w' cnt, (Instr.range t (.map (some b))).run P w = .ok (.pointer (some ⟨w.heap.size, 0, none⟩)) w' ∧ RangeG C w' b w.heap.size n m (fun x => (m x).isSome) cnt ∧ Fr (fun _ => False) w w' ∧ w'.heap.size = w.heap.size + 1 := by
  obtain ⟨D, ho, hv⟩ := h
  obtain ⟨w', hrun, r1, r2, r3⟩ := ho.range C.law ht
  exact ⟨w', _, hrun, ⟨D, _, r1, hv, fun x hx => (hv x hx).1⟩, Fr.of_grown r2 (fun _ e => by cases e), r3⟩
open Classical in
theorem RangeG.next (h : RangeG C w b r n m left cnt) (ty : TypeId) :
    (cnt = 0 ∧ (∀ x, C.ok x → left x = false) ∧ (Instr.next (.pointer (some ⟨r, 0, none⟩)) false ty).run P w = .ok (.tuple #[.bool false]) w) ∨
    ∃ x v w' cnt', C.ok x ∧ left x = true ∧ m x = some v ∧ (Instr.next (.pointer (some ⟨r, 0, none⟩)) false ty).run P w = .ok (.tuple #[.bool true, C.val x, v]) w' ∧
      RangeG C w' b r n m (fun y => left y && !decide (y = x)) cnt' ∧ cnt' < cnt ∧ Fr (fun k => k = r) w w' ∧ w'.heap.size = w.heap.size ∧ (Instr.entry (.pointer (some ⟨r, 0, none⟩))).run P w' = .ok (.tuple #[C.val x, v]) w' := by
  obtain ⟨D, l, hr, hv, hl⟩ := h
  rcases hr.next C.law ty with ⟨h0, h1, h2⟩ | ⟨key, v, kl, y, w', cnt', hkey, hlk, hv2, hat, hrun, hrg, hlt, hgr, hsz, hen⟩
  · exact .inl ⟨h0, fun x hx => by rw [← hl x hx, h1], h2⟩
  · obtain ⟨x, hx, rfl, rfl⟩ := C.inv key kl hkey
    obtain ⟨h1, h2⟩ := hv x hx
    have hy : y = (.held v, []) := by unfold heldR at hv2; injection hv2 with hv2; exact hv2.symm
    subst hy
    have hm : m x = some v := by
      rw [has_true_of_atKey hat] at h1
      obtain ⟨u, hu⟩ := Option.isSome_iff_exists.1 h1.symm
      have := (h2 u hu (.held v)).symm.trans (hat (.held v))
      injection this with this
      rw [hu, this]
    refine .inr ⟨x, v, w', cnt', hx, by rw [← hl x hx]; exact hlk, hm, hrun, ⟨D, _, hrg, hv, fun y hy => ?_⟩, hlt, MapG.turned hgr, hsz, hen⟩
    rw [hl y hy]
    by_cases e : y = x
    · subst e
      rw [WideAt.sameKey_self (C.key hy)]
      simp
    · rw [sameKey_ne (fun e2 => e (C.inj _ _ e2))]
      simp [e]
open Classical in
/-- 'delete(m, k)' in the round. -/
theorem RangeG.drop (h : RangeG C w b r n m left cnt) {t e : TypeId} (ht : P.underlying t = some (.map kt e)) {x : κ} (hx : C.ok x) (ty : TypeId) :
    ∃ w' cnt', (Builtin.delete_ #[t, kt] ty #[.map (some b), C.val x]).run P w = .ok (.tuple #[]) w' ∧ RangeG C w' b r n (putM m x none) (fun y => left y && !decide (y = x)) cnt' ∧ cnt' ≤ cnt ∧ Fr (fun k => k = b) w w' := by
  obtain ⟨D, l, hr, hv, hl⟩ := h
  obtain ⟨w', cnt', hrun, r1, r2, r3⟩ := hr.drop C.law ht (C.mkk x hx) ty
  refine ⟨w', cnt', hrun, ⟨_, _, r1, hv.del x, fun y hy => ?_⟩, r2, MapG.turned r3.grown⟩
  rw [hl y hy]
  by_cases e : y = x
  · subst e
    rw [WideAt.sameKey_self (C.key hy)]
    simp
  · rw [sameKey_ne (fun e2 => e (C.inj _ _ e2))]
    simp [e]
end
section
variable {P : Program} {kt : TypeId} {κ : Type} {C : KeyC P kt κ} {w : World} {ops : Array Oper} {rest : List Oper} {o : Oper} {a : Act} {Q : Exit → Act → World → Prop} {K : Act → World → Prop} {b n : Nat} {m : κ → Option Value}
theorem wp_setG (t e : TypeId) (ht : P.underlying t = some (.map kt e)) (mo x v : Operand) (hop : o.op = Op.mapUpdate t mo x v) (hm : a.eval mo = .map (some b)) (hown : MapG C w b n m) (hn : n < maxLen) (key : κ) (val : Value) (hx : a.eval x = C.val key) (hv : a.eval v = val)
    (hk : C.ok key) (hK : ∀ w', MapG C w' b (n + 1) (putM m key (some val)) → Fr (fun k => k = b) w w' → K (a.put o.dst undef) w') : o.wp P a w K Q := by
  obtain ⟨w', hrun, r1, r2⟩ := hown.store ht hn hk val
  unfold Oper.wp
  simp [execOp, hop, hm, hx, hv, hrun, Result.andThen]
  exact hK _ r1 r2
theorem wpList_setG (hg : o.guard = none) (t e : TypeId) (ht : P.underlying t = some (.map kt e)) (mo x v : Operand) (hop : o.op = Op.mapUpdate t mo x v) (hm : a.eval mo = .map (some b)) (hown : MapG C w b n m) (hn : n < maxLen) (key : κ) (val : Value) (hx : a.eval x = C.val key) (hv : a.eval v = val)
    (hk : C.ok key) (hK : ∀ w', MapG C w' b (n + 1) (putM m key (some val)) → Fr (fun k => k = b) w w' → wpList P ops Q rest (a.put o.dst undef) w') : wpList P ops Q (o :: rest) a w :=
  wpList_plain hg fun _ hK' => wp_setG t e ht mo x v hop hm hown hn key val hx hv hk fun w' h1 h2 => hK' _ _ (hK w' h1 h2)
theorem wp_delG (t e : TypeId) (ht : P.underlying t = some (.map kt e)) (mo x : Operand) (hop : o.op = Op.call { callee := Callee.builtin Builtin.delete, args := #[mo, x], argTypes := #[t, kt] }) (hm : a.eval mo = .map (some b)) (hown : MapG C w b n m) (key : κ) (hx : a.eval x = C.val key)
    (hk : C.ok key) (hK : ∀ w', MapG C w' b n (putM m key none) → Fr (fun k => k = b) w w' → K (a.put o.dst (.tuple #[])) w') : o.wp P a w K Q := by
  obtain ⟨w', hrun, r1, r2⟩ := hown.drop ht hk o.type
  unfold Oper.wp
  simp [execOp, hop, resolve, invoke, builtin, hm, hx, hrun, Result.andThen]
  exact hK _ r1 r2
theorem wpList_delG (hg : o.guard = none) (t e : TypeId) (ht : P.underlying t = some (.map kt e)) (mo x : Operand) (hop : o.op = Op.call { callee := Callee.builtin Builtin.delete, args := #[mo, x], argTypes := #[t, kt] }) (hm : a.eval mo = .map (some b)) (hown : MapG C w b n m) (key : κ) (hx : a.eval x = C.val key)
    (hk : C.ok key) (hK : ∀ w', MapG C w' b n (putM m key none) → Fr (fun k => k = b) w w' → wpList P ops Q rest (a.put o.dst (.tuple #[])) w') : wpList P ops Q (o :: rest) a w :=
  wpList_plain hg fun _ hK' => wp_delG t e ht mo x hop hm hown key hx hk fun w' h1 h2 => hK' _ _ (hK w' h1 h2)
end
end Go.Proofs.YtmgpdkecpobcaaaDoor
