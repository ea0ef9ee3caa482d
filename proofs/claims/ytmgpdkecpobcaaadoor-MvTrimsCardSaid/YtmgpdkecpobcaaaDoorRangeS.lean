/- A map's entry set anew at a key that it has, while the map is ranged over. -/
import Derived.Test.YtmgpdkecpobcaaaDoorRangeG
namespace Go.Proofs.YtmgpdkecpobcaaaDoor
open Go.RowKit Go.Maps Go.WideMaps Go.MapKept
open Go.WideElems (Fit rd rg pl rd_key rd_val rg_of rd_mk rd_stay elemAt other_key)
open Go.ChangeMaps (setBlock modify_eq_set heap_setBlock_same heap_setBlock_other)
theorem mem_set_cases {α : Type} {l : List α} {j : Nat} {a x : α} (h : x ∈ l.set j a) : x = a ∨ ∃ i, i ≠ j ∧ l[i]? = some x := by
  obtain ⟨i, hi⟩ := List.mem_iff_getElem?.1 h
  rw [List.getElem?_set] at hi
  split at hi
  · split at hi
    · injection hi with hi; exact .inl hi.symm
    · cases hi
  · rename_i hne
    exact .inr ⟨i, fun e => hne e.symm, hi⟩
section
variable {H : Type} {P : Program} {k : TypeId} {R : Value → Option (DataW H × List MemPlace)} {w : World} {b r n cnt : Nat} {D : DataW H} {left : Lit → Bool}
theorem ranges_set {t e : TypeId} (h : w.ranges P k R b r n D left cnt) (K : Keyed P k) (ht : P.underlying t = some (.map k e)) (hn : n < maxLen) {key val : Value} {kl : Lit} {d : DataW H} {ps : List MemPlace} (hkey : keyOf P k key = some kl) (hv : R val = some (d, ps)) (hin : Maps.has D kl = true) :
    ∃ w', (Instr.mapUpdate t (.map (some b)) key val).run P w = .ok () w' ∧ w'.ranges P k R b r n (D.put kl d) left cnt ∧ w.grownBy w' (some b) := by
  have hne := h.ne
  obtain ⟨es, clock, since, seen, c0, hb, F, hs, rfl, hr, hold, rfl, hl1, hl2, hsc, hsk⟩ := h
  obtain ⟨es', clock', hrun, F', hput, _⟩ := Maps.fit_store (R' := R) K ht hb F (Nat.lt_of_le_of_lt hs hn) (fun _ _ _ _ hz => hz) hkey hv
  -- the key is there
  have hex : ∃ x ∈ es.toList, x.key = key := by
    rw [has_eq, List.any_eq_true] at hin
    obtain ⟨p, hp, hk⟩ := hin
    obtain ⟨x, hx, rfl⟩ := List.mem_map.1 (mem_sorted.1 hp)
    refine ⟨x, hx, ?_⟩
    obtain ⟨y, hy⟩ := F.reads x hx
    rw [rg_of hy] at hk
    refine Classical.byContradiction fun hxk => ?_
    rw [Maps.sameKey_ne (fun e1 => hxk (K.inj (by rw [← e1]; exact rd_key hy) hkey))] at hk
    cases hk
  rcases K.find w hkey es.toList F.keys with ⟨h1, h2⟩ | ⟨j, e0, h1, h2, h3⟩
  · obtain ⟨x, hx, hk⟩ := hex
    exact absurd hk (h2 x hx)
  have hj : es[j]? = some e0 := by simpa using h2
  have hjl : j < es.toList.length := (List.getElem?_eq_some_iff.1 h2).1
  have hrun2 : (Instr.mapUpdate t (.map (some b)) key val).run P w = .ok () (setBlock w b (.map (es.modify j (fun e' => { e' with key := key, val := val })) clock)) := by
    simp [Instr.mapUpdate, run_underlying ht, MapKept.run_getObj_map hb, K.check w false hkey, h1, hj, h3, K.stays w hkey, MapKept.run_setObj_map _ hb, Result.andThen, setBlock]
  have hsame : (setBlock w b (.map es' clock')).heap[b]? = (setBlock w b (.map (es.modify j (fun e' => { e' with key := key, val := val })) clock)).heap[b]? := by
    rw [hrun] at hrun2
    injection hrun2 with _ e
    rw [e]
  have hbl := (Array.getElem?_eq_some_iff.1 hb).1
  rw [heap_setBlock_same hb (.map es' clock'), heap_setBlock_same hb (.map (es.modify j (fun e' => { e' with key := key, val := val })) clock)] at hsame
  injection hsame with hsame
  injection hsame with hes hcl
  subst hcl
  have hlist : es'.toList = es.toList.set j { e0 with key := key, val := val } := by rw [hes, Array.toList_modify, modify_eq_set _ _ _ _ h2]
  have hrg0 : (rg P k R e0).1 = kl := by
    obtain ⟨y, hy⟩ := F.reads e0 (List.mem_of_getElem? h2)
    have m1 := rd_key hy
    rw [h3, hkey] at m1
    rw [rg_of hy, Option.some.inj m1]
  have hrgn : (rg P k R { e0 with key := key, val := val }).1 = kl := by rw [rg_of (rd_mk hkey hv)]
  have hborn : es'.toList.map (·.born) = es.toList.map (·.born) := by
    rw [hlist, List.map_set]
    apply List.ext_getElem?
    intro i
    rw [List.getElem?_set]
    split
    · rename_i e1
      subst e1
      rw [List.length_map, if_pos hjl, List.getElem?_map, h2]
      rfl
    · rfl
  have hcnt : ∀ a : Array MapEntry, (leftOf a seen).size = ((a.toList.map (·.born)).filter fun x => !seen.contains x).length := fun a => by
    unfold leftOf
    rw [← Array.length_toList, Array.toList_filter, List.filter_map, List.length_map]
    rfl
  have hsz : es'.size = es.size := by
    have := congrArg List.length hborn
    simpa using this
  refine ⟨_, hrun, ⟨es', _, since, seen, c0, heap_setBlock_same hb _, F', by rw [hsz]; exact hs, by rw [DataW.put_eq, hput], (heap_setBlock_other hb _ hne).trans hr, fun x hx => ?_, by rw [hcnt, hcnt, hborn], fun x hx => ?_, fun kl' hk' => ?_, hsc, hsk⟩, ⟨rfl, rfl, rfl, by simp [setBlock], fun i _ hi => heap_setBlock_other hb _ (fun e => hi (by rw [e]))⟩⟩
  · rw [hlist] at hx
    rcases mem_set_cases hx with rfl | ⟨i, _, hi⟩
    · exact hold e0 (List.mem_of_getElem? h2)
    · exact hold x (List.mem_of_getElem? hi)
  · rw [hlist] at hx
    rcases mem_set_cases hx with rfl | ⟨i, _, hi⟩
    · rw [hrgn, ← hrg0]
      exact hl1 e0 (List.mem_of_getElem? h2)
    · exact hl1 x (List.mem_of_getElem? hi)
  · obtain ⟨x, hx, rfl⟩ := hl2 kl' hk'
    obtain ⟨i, hi⟩ := List.mem_iff_getElem?.1 hx
    by_cases hij : i = j
    · subst hij
      rw [h2] at hi
      injection hi with hi
      subst hi
      refine ⟨{ e0 with key := key, val := val }, ?_, by rw [hrgn, hrg0]⟩
      rw [hlist]
      exact List.mem_iff_getElem?.2 ⟨i, by rw [List.getElem?_set, if_pos rfl, if_pos hjl]⟩
    · refine ⟨x, ?_, rfl⟩
      rw [hlist]
      exact List.mem_iff_getElem?.2 ⟨i, by rw [List.getElem?_set, if_neg (fun e => hij e.symm)]; exact hi⟩
end
section
variable {P : Program} {kt : TypeId} {κ : Type} {C : KeyC P kt κ} {w : World} {b r n cnt : Nat} {m : κ → Option Value} {left : κ → Bool}
/-- 'm[k] = v' of a key that is there, in the round. -/
theorem RangeG.set (h : RangeG C w b r n m left cnt) {t e : TypeId} (ht : P.underlying t = some (.map kt e)) (hn : n < maxLen) {x : κ} (hx : C.ok x) (hin : (m x).isSome = true) (v : Value) :
    ∃ w', (Instr.mapUpdate t (.map (some b)) (C.val x) v).run P w = .ok () w' ∧ RangeG C w' b r n (putM m x (some v)) left cnt ∧ Fr (fun k => k = b) w w' := by
  obtain ⟨D, l, hr, hv, hl⟩ := h
  obtain ⟨w', hrun, r1, r2⟩ := ranges_set hr C.law ht hn (C.mkk x hx) (d := .held v) (ps := []) rfl (by rw [(hv x hx).1]; exact hin)
  exact ⟨w', hrun, ⟨_, l, r1, hv.set hr.owns.isMap x v, hl⟩, MapG.turned r2⟩
end
section
variable {P : Program} {kt : TypeId} {κ : Type} {C : KeyC P kt κ} {w : World} {ops : Array Oper} {rest : List Oper} {o : Oper} {a : Act} {Q : Exit → Act → World → Prop} {b r n cnt : Nat} {m : κ → Option Value} {left : κ → Bool}
theorem wp_setR {K : Act → World → Prop} (t e : TypeId) (ht : P.underlying t = some (.map kt e)) (mo x v : Operand) (hop : o.op = Op.mapUpdate t mo x v) (hm : a.eval mo = .map (some b)) (hown : RangeG C w b r n m left cnt) (hn : n < maxLen) (key : κ) (val : Value) (hx : a.eval x = C.val key) (hv : a.eval v = val)
    (hk : C.ok key) (hin : (m key).isSome = true) (hK : ∀ w', RangeG C w' b r n (putM m key (some val)) left cnt → Fr (fun k => k = b) w w' → K (a.put o.dst undef) w') : o.wp P a w K Q := by
  obtain ⟨w', hrun, r1, r2⟩ := hown.set ht hn hk hin val
  unfold Oper.wp
  simp [execOp, hop, hm, hx, hv, hrun, Result.andThen]
  exact hK _ r1 r2
theorem wpList_setR (hg : o.guard = none) (t e : TypeId) (ht : P.underlying t = some (.map kt e)) (mo x v : Operand) (hop : o.op = Op.mapUpdate t mo x v) (hm : a.eval mo = .map (some b)) (hown : RangeG C w b r n m left cnt) (hn : n < maxLen) (key : κ) (val : Value) (hx : a.eval x = C.val key) (hv : a.eval v = val)
    (hk : C.ok key) (hin : (m key).isSome = true) (hK : ∀ w', RangeG C w' b r n (putM m key (some val)) left cnt → Fr (fun k => k = b) w w' → wpList P ops Q rest (a.put o.dst undef) w') : wpList P ops Q (o :: rest) a w :=
  wpList_plain hg fun _ hK' => wp_setR t e ht mo x v hop hm hown hn key val hx hv hk hin fun w' h1 h2 => hK' _ _ (hK w' h1 h2)
open Classical in
theorem wpList_dropR (hg : o.guard = none) (t e : TypeId) (ht : P.underlying t = some (.map kt e)) (mo x : Operand) (hop : o.op = Op.call { callee := Callee.builtin Builtin.delete, args := #[mo, x], argTypes := #[t, kt] }) (hm : a.eval mo = .map (some b)) (hown : RangeG C w b r n m left cnt) (key : κ) (hx : a.eval x = C.val key)
    (hk : C.ok key) (hK : ∀ w' cnt', RangeG C w' b r n (putM m key none) (fun y => left y && !decide (y = key)) cnt' → cnt' ≤ cnt → Fr (fun k => k = b) w w' → wpList P ops Q rest (a.put o.dst (.tuple #[])) w') : wpList P ops Q (o :: rest) a w := by
  refine wpList_plain hg fun K' hK' => ?_
  obtain ⟨w', cnt', hrun, r1, r2, r3⟩ := hown.drop ht hk o.type
  unfold Oper.wp
  simp [execOp, hop, resolve, invoke, builtin, hm, hx, hrun, Result.andThen]
  exact hK' _ _ (hK w' cnt' r1 r2 r3)
end
end Go.Proofs.YtmgpdkecpobcaaaDoor
