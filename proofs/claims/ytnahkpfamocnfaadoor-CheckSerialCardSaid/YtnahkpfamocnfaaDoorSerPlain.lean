/- Plain: the search for an order (6.1, 6.2): as the program walks, as the document tries; that they tell the same; that what is told fits; that a history made one behind the other is never refused. -/
import Derived.Below
namespace Go.Proofs.YtnahkpfamocnfaaDoor
structure OpP where
  kind : Int
  key : ByteArray
  val : ByteArray
  found : Bool
structure TxP where
  ops : List OpP
  from_ : Int
  to_ : Int
abbrev Mp := ByteArray → Option ByteArray
def Mp.empty : Mp := fun _ => none
def Mp.set (m : Mp) (k : ByteArray) (v : Option ByteArray) : Mp := fun x => if x = k then v else m x
/-- Does a Get tell what is there? -/
def getOk (m : Mp) (o : OpP) : Prop := (m o.key).isSome = o.found ∧ ∀ v, m o.key = some v → v = o.val
instance (m : Mp) (o : OpP) : Decidable (getOk m o) := by
  unfold getOk
  rcases h : m o.key with _ | v
  · exact decidable_of_iff ((none : Option ByteArray).isSome = o.found) ⟨fun h => ⟨h, fun v e => by cases e⟩, fun h => h.1⟩
  · exact decidable_of_iff (true = o.found ∧ v = o.val) ⟨fun h => ⟨h.1, fun u e => by injection e with e; rw [← e]; exact h.2⟩, fun h => ⟨h.1, h.2 v rfl⟩⟩
def op1 (m : Mp) (o : OpP) : Option Mp :=
  if o.kind = 1 then (if getOk m o then some m else none) else if o.kind = 2 then some (m.set o.key (some o.val)) else if o.kind = 3 then some (m.set o.key none) else some m
def playsP (m : Mp) : List OpP → Option Mp
  | [] => some m
  | o :: l => (op1 m o).bind fun m' => playsP m' l
theorem playsP_append (m : Mp) (a b : List OpP) : playsP m (a ++ b) = (playsP m a).bind fun m' => playsP m' b := by
  induction a generalizing m with
  | nil => rfl
  | cons o a ih =>
    simp only [List.cons_append, playsP]
    rcases op1 m o with _ | m'
    · rfl
    · exact ih m'
section
variable (l : List TxP)
def toA (i : Nat) : Int := (l[i]?.map (·.to_)).getD (-1)
def fromA (i : Nat) : Int := (l[i]?.map (·.from_)).getD 0
def opsA (i : Nat) : List OpP := (l[i]?.map (·.ops)).getD []
/-- None that is not there yet was done ahead of one's beginning. -/
def mayP (order : List Nat) (i : Nat) : Prop := ∀ k, k < l.length → k ≠ i → k ∉ order → ¬ (0 ≤ toA l k ∧ toA l k < fromA l i)
def doneP (order : List Nat) : Prop := ∀ k, k < l.length → 0 ≤ toA l k → k ∈ order
instance (order : List Nat) (i : Nat) : Decidable (mayP l order i) := by unfold mayP; exact inferInstance
instance (order : List Nat) : Decidable (doneP l order) := by unfold doneP; exact inferInstance
def walkP : Nat → List Nat → Mp → Option (List Nat)
  | 0, order, _ => if doneP l order then some order else none
  | f + 1, order, m => if doneP l order then some order else
      (List.range l.length).findSome? fun i => if i ∈ order ∨ ¬ mayP l order i then none else (playsP m (opsA l i)).bind fun m' => walkP f (order ++ [i]) m'
/-- A place, from 1 on; 0: none. -/
def posP (order : List Nat) (k : Nat) : Nat := if k ∈ order then order.idxOf k + 1 else 0
def FitsP (order : List Nat) : Prop :=
  order.Nodup ∧ (∀ k ∈ order, k < l.length) ∧ (∀ i, i < l.length → (0 ≤ toA l i → i ∈ order) ∧ ∀ k, k < l.length → ¬ (0 ≤ toA l i ∧ toA l i < fromA l k ∧ 0 < posP order k ∧ posP order k < posP order i)) ∧
    (playsP Mp.empty (order.flatMap (opsA l))).isSome = true
/-- Those that are not in an order, as never told. -/
def cutP (order : List Nat) : List TxP := l.mapIdx fun i t => if i ∉ order ∧ 0 ≤ t.to_ then { t with to_ := -1 } else t
def StartsP (order : List Nat) : Prop := (∀ i, i < l.length → i ∉ order → 0 ≤ toA l i → ∀ k ∈ order, ¬ toA l i < fromA l k) ∧ FitsP (cutP l order) order
instance (order : List Nat) : Decidable (FitsP l order) := by unfold FitsP; exact inferInstance
instance (order : List Nat) : Decidable (StartsP l order) := by unfold StartsP; exact inferInstance
def tryP : Nat → List Nat → Option (List Nat)
  | 0, order => if FitsP l order then some order else none
  | f + 1, order => if FitsP l order then some order else
      (List.range l.length).findSome? fun i => if i ∈ order ∨ ¬ StartsP l (order ++ [i]) then none else tryP f (order ++ [i])
/-- What holds of every order that is looked at. -/
structure InvP (order : List Nat) (m : Mp) : Prop where
  nodup : order.Nodup
  lt : ∀ k ∈ order, k < l.length
  pairs : ∀ i ∈ order, ∀ k ∈ order, order.idxOf k < order.idxOf i → ¬ (0 ≤ toA l i ∧ toA l i < fromA l k)
  rest : ∀ i, i < l.length → i ∉ order → 0 ≤ toA l i → ∀ k ∈ order, ¬ toA l i < fromA l k
  plays : playsP Mp.empty (order.flatMap (opsA l)) = some m
end
section
variable {l : List TxP} {order : List Nat} {m : Mp}
theorem InvP.nil : InvP l [] Mp.empty := ⟨List.nodup_nil, by simp, by simp, by simp, rfl⟩
theorem posP_pos {k : Nat} : 0 < posP order k ↔ k ∈ order := by unfold posP; split <;> simp_all
theorem posP_lt {i k : Nat} (hk : k ∈ order) : posP order k < posP order i ↔ i ∈ order ∧ order.idxOf k < order.idxOf i := by
  unfold posP
  rw [if_pos hk]
  by_cases hi : i ∈ order
  · rw [if_pos hi]; simp [hi]
  · rw [if_neg hi]; simp [hi]
theorem InvP.fits (h : InvP l order m) : FitsP l order ↔ doneP l order := by
  constructor
  · intro hf k hk h0
    exact (hf.2.2.1 k hk).1 h0
  · intro hd
    refine ⟨h.nodup, h.lt, fun i hi => ⟨hd i hi, fun k hk ⟨h0, h1, h2, h3⟩ => ?_⟩, by rw [h.plays]; rfl⟩
    have hk' := posP_pos.1 h2
    obtain ⟨hi', h4⟩ := (posP_lt hk').1 h3
    exact h.pairs i hi' k hk' h4 ⟨h0, h1⟩
theorem cutP_len : (cutP l order).length = l.length := by unfold cutP; simp
theorem cutP_from (i : Nat) : fromA (cutP l order) i = fromA l i := by
  unfold fromA cutP
  rw [List.getElem?_mapIdx]
  rcases l[i]? with _ | t
  · rfl
  · simp; split <;> rfl
theorem cutP_ops (i : Nat) : opsA (cutP l order) i = opsA l i := by
  unfold opsA cutP
  rw [List.getElem?_mapIdx]
  rcases l[i]? with _ | t
  · rfl
  · simp; split <;> rfl
theorem cutP_to (i : Nat) : toA (cutP l order) i = if i ∉ order ∧ 0 ≤ toA l i then -1 else toA l i := by
  unfold toA cutP
  rw [List.getElem?_mapIdx]
  rcases l[i]? with _ | t
  · simp
  · simp; split <;> rfl
theorem idxOf_snoc_old {i k : Nat} (h : k ∈ order) : (order ++ [i]).idxOf k = order.idxOf k := by
  rw [List.idxOf_append]; rw [if_pos h]
theorem idxOf_snoc_new {i : Nat} (h : i ∉ order) : (order ++ [i]).idxOf i = order.length := by
  rw [List.idxOf_append]; rw [if_neg h]; simp
theorem flatMap_snoc (i : Nat) : (order ++ [i]).flatMap (opsA l) = order.flatMap (opsA l) ++ opsA l i := by simp
theorem InvP.step (h : InvP l order m) {i : Nat} (hi : i < l.length) (hn : i ∉ order) (hm : mayP l order i) {m' : Mp} (hp : playsP m (opsA l i) = some m') : InvP l (order ++ [i]) m' := by
  refine ⟨?_, ?_, ?_, ?_, ?_⟩
  · rw [List.nodup_append]
    exact ⟨h.nodup, by simp, fun a ha b hb => by rw [List.mem_singleton.1 hb]; exact fun e => hn (e ▸ ha)⟩
  · intro k hk
    rcases List.mem_append.1 hk with hk | hk
    · exact h.lt k hk
    · rw [List.mem_singleton.1 hk]; exact hi
  · intro a ha k hk hlt
    rcases List.mem_append.1 hk with hk | hk
    · rcases List.mem_append.1 ha with ha | ha
      · rw [idxOf_snoc_old hk, idxOf_snoc_old ha] at hlt
        exact h.pairs a ha k hk hlt
      · rw [List.mem_singleton.1 ha]
        exact fun ⟨h0, h1⟩ => h.rest i hi hn h0 k hk h1
    · exfalso
      rw [List.mem_singleton.1 hk, idxOf_snoc_new hn] at hlt
      rcases List.mem_append.1 ha with ha | ha
      · rw [idxOf_snoc_old ha] at hlt
        have := List.idxOf_lt_length_of_mem ha
        omega
      · rw [List.mem_singleton.1 ha, idxOf_snoc_new hn] at hlt
        omega
  · intro a ha hna h0 k hk
    have hna' : a ∉ order := fun e => hna (List.mem_append_left _ e)
    have hne : a ≠ i := fun e => hna (by rw [e]; simp)
    rcases List.mem_append.1 hk with hk | hk
    · exact h.rest a ha hna' h0 k hk
    · rw [List.mem_singleton.1 hk]
      exact fun h1 => hm a ha hne hna' ⟨h0, h1⟩
  · rw [flatMap_snoc, playsP_append, h.plays]
    exact hp
theorem InvP.starts (h : InvP l order m) {i : Nat} (hi : i < l.length) (hn : i ∉ order) : StartsP l (order ++ [i]) ↔ mayP l order i ∧ (playsP m (opsA l i)).isSome = true := by
  constructor
  · rintro ⟨h1, h2⟩
    refine ⟨fun k hk hne hnk ⟨h0, h3⟩ => h1 k hk (by simp [hnk, hne]) h0 i (by simp) h3, ?_⟩
    have := h2.2.2.2
    rw [show (order ++ [i]).flatMap (opsA (cutP l (order ++ [i]))) = (order ++ [i]).flatMap (opsA l) from by
      congr 1; funext x; exact cutP_ops x] at this
    rw [flatMap_snoc, playsP_append, h.plays] at this
    exact this
  · rintro ⟨h1, h2⟩
    obtain ⟨m', hm'⟩ := Option.isSome_iff_exists.1 h2
    have hs := h.step hi hn h1 hm'
    refine ⟨hs.rest, hs.nodup, fun k hk => by rw [cutP_len]; exact hs.lt k hk, fun a ha => ?_, ?_⟩
    · rw [cutP_len] at ha ⊢
      rw [cutP_to]
      refine ⟨fun h0 => ?_, fun k hk => ?_⟩
      · split at h0
        · omega
        · rename_i hc
          simp only [not_and, Int.not_le] at hc
          rcases Decidable.em (a ∈ order ++ [i]) with hin | hin
          · exact hin
          · have := hc hin; omega
      · rw [cutP_from]
        rintro ⟨h0, h3, h4, h5⟩
        have hk' := posP_pos.1 h4
        obtain ⟨ha', h6⟩ := (posP_lt hk').1 h5
        rw [if_neg (by simp only [not_and]; intro hc; exact absurd ha' hc)] at h0 h3
        exact hs.pairs a ha' k hk' h6 ⟨h0, h3⟩
    · rw [show (order ++ [i]).flatMap (opsA (cutP l (order ++ [i]))) = (order ++ [i]).flatMap (opsA l) from by
        congr 1; funext x; exact cutP_ops x, hs.plays]
      rfl
theorem findSome_congr {α β : Type} {f g : α → Option β} : ∀ {r : List α}, (∀ x ∈ r, f x = g x) → r.findSome? f = r.findSome? g
  | [], _ => rfl
  | x :: r, h => by
    rw [List.findSome?_cons, List.findSome?_cons, h x (List.mem_cons_self ..), findSome_congr (r := r) (fun y hy => h y (List.mem_cons_of_mem _ hy))]
theorem walk_try : ∀ (f : Nat) (order : List Nat) (m : Mp), InvP l order m → walkP l f order m = tryP l f order
  | 0, order, m, h => by
    unfold walkP tryP
    by_cases hd : doneP l order
    · rw [if_pos hd, if_pos (h.fits.2 hd)]
    · rw [if_neg hd, if_neg (fun e => hd (h.fits.1 e))]
  | f + 1, order, m, h => by
    unfold walkP tryP
    by_cases hd : doneP l order
    · rw [if_pos hd, if_pos (h.fits.2 hd)]
    · rw [if_neg hd, if_neg (fun e => hd (h.fits.1 e))]
      refine findSome_congr fun i hi => ?_
      have hi := List.mem_range.1 hi
      by_cases hin : i ∈ order
      · rw [if_pos (.inl hin), if_pos (.inl hin)]
      · by_cases hs : StartsP l (order ++ [i])
        · obtain ⟨h1, h2⟩ := (h.starts hi hin).1 hs
          obtain ⟨m', hm'⟩ := Option.isSome_iff_exists.1 h2
          rw [if_neg (by simp [hin, h1]), if_neg (by simp [hin, hs]), hm']
          exact walk_try f _ m' (h.step hi hin h1 hm')
        · have hr : (if i ∈ order ∨ ¬ StartsP l (order ++ [i]) then none else tryP l f (order ++ [i])) = none := if_pos (.inr hs)
          rw [hr]
          by_cases hm : mayP l order i
          · rw [if_neg (by simp [hin, hm])]
            rcases hp : playsP m (opsA l i) with _ | m'
            · rfl
            · exact absurd ((h.starts hi hin).2 ⟨hm, by rw [hp]; rfl⟩) hs
          · rw [if_pos (.inr hm)]
/-- What the program's search tells is what the document's does. -/
theorem serial_same (l : List TxP) : walkP l l.length [] Mp.empty = tryP l l.length [] := walk_try _ _ _ InvP.nil
/-- An order that is told fits. -/
theorem walk_fits : ∀ (f : Nat) (order : List Nat) (m : Mp), InvP l order m → ∀ o, walkP l f order m = some o → FitsP l o
  | 0, order, m, h, o, ho => by
    unfold walkP at ho
    by_cases hd : doneP l order
    · rw [if_pos hd] at ho; injection ho with ho; subst ho; exact h.fits.2 hd
    · rw [if_neg hd] at ho; cases ho
  | f + 1, order, m, h, o, ho => by
    unfold walkP at ho
    by_cases hd : doneP l order
    · rw [if_pos hd] at ho; injection ho with ho; subst ho; exact h.fits.2 hd
    · rw [if_neg hd] at ho
      obtain ⟨i, hi, ho⟩ := List.exists_of_findSome?_eq_some ho
      have hi := List.mem_range.1 hi
      split at ho
      · cases ho
      · rename_i hc
        simp only [not_or, Decidable.not_not] at hc
        rcases hp : playsP m (opsA l i) with _ | m'
        · rw [hp] at ho; cases ho
        · rw [hp] at ho
          exact walk_fits f _ m' (h.step hi hc.1 hc.2 hp) o ho
theorem serial_fits {l : List TxP} {o : List Nat} (h : walkP l l.length [] Mp.empty = some o) : FitsP l o := walk_fits _ _ _ InvP.nil o h
/-- A way on: those that are put behind, one by one. -/
def WayP (l : List TxP) : List Nat → Mp → List Nat → Prop
  | order, _, [] => doneP l order
  | order, m, i :: r => i < l.length ∧ i ∉ order ∧ mayP l order i ∧ ∃ m', playsP m (opsA l i) = some m' ∧ WayP l (order ++ [i]) m' r
theorem walk_finds : ∀ (r : List Nat) (f : Nat) (order : List Nat) (m : Mp), r.length ≤ f → WayP l order m r → (walkP l f order m).isSome = true
  | [], f, order, m, _, h => by
    have h : doneP l order := h
    cases f <;> (unfold walkP; rw [if_pos h]; rfl)
  | i :: r, 0, order, m, hf, h => by simp at hf
  | i :: r, f + 1, order, m, hf, h => by
    obtain ⟨hi, hn, hm, m', hp, hr⟩ := h
    unfold walkP
    by_cases hd : doneP l order
    · rw [if_pos hd]; rfl
    · rw [if_neg hd]
      rw [List.isSome_findSome?, List.any_eq_true]
      refine ⟨i, List.mem_range.2 hi, ?_⟩
      rw [if_neg (by simp [hn, hm]), hp]
      exact walk_finds r f _ m' (by simpa using hf) hr
/-- A history that was made one behind the other: each told what it found. -/
def MadeP (l : List TxP) : Prop := (∀ i, i < l.length → fromA l i = 2 * i ∧ toA l i = 2 * i + 3) ∧ ∀ i, i ≤ l.length → (playsP Mp.empty ((List.range i).flatMap (opsA l))).isSome = true
theorem made_way (h : MadeP l) : ∀ (k j : Nat) (m : Mp), j + k = l.length → playsP Mp.empty ((List.range j).flatMap (opsA l)) = some m → WayP l (List.range j) m (List.range' j k)
  | 0, j, m, hj, _ => by
    intro k hk _
    simp; omega
  | k + 1, j, m, hj, hm => by
    have hjl : j < l.length := by omega
    rw [List.range'_succ]
    refine ⟨hjl, by simp, fun a ha hne hna ⟨_, h1⟩ => ?_, ?_⟩
    · rw [(h.1 a ha).2, (h.1 j hjl).1] at h1
      simp at hna
      omega
    · obtain ⟨m', hm'⟩ := Option.isSome_iff_exists.1 (h.2 (j + 1) (by omega))
      have hm2 := hm'
      rw [List.range_succ, flatMap_snoc, playsP_append, hm] at hm'
      refine ⟨m', hm', ?_⟩
      have := made_way h k (j + 1) m' (by omega) hm2
      rw [List.range_succ] at this
      exact this
theorem serial_made (h : MadeP l) : (walkP l l.length [] Mp.empty).isSome = true := by
  have := made_way h l.length 0 Mp.empty (by omega) rfl
  exact walk_finds (List.range' 0 l.length) l.length [] Mp.empty (by simp) this
end
end Go.Proofs.YtnahkpfamocnfaaDoor
