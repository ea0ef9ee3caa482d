/- Plain: what CheckFits makes of a history; that one that is made is one that was made one behind the other. -/
import Derived.Test.YtnahkpfamocnfaaSerPlain
namespace Go.Proofs.Ytnahkpfamocnfaa
def transO (made : Bool) (m : Mp) (o : OpP) : OpP := if o.kind = 1 ∧ made = true then ⟨o.kind, o.key, (m o.key).getD ⟨#[]⟩, (m o.key).isSome⟩ else o
def transM (m : Mp) (o : OpP) : Mp := if o.kind = 1 then m else if o.kind = 2 then m.set o.key (some o.val) else if o.kind = 3 then m.set o.key none else m
def transS (made : Bool) (a : List OpP × Mp) (o : OpP) : List OpP × Mp := (a.1 ++ [transO made a.2 o], transM a.2 o)
def transT (made : Bool) (i : Nat) (m : Mp) (t : TxP) : TxP × Mp :=
  (⟨(t.ops.foldl (transS made) ([], m)).1, if made then 2 * i else t.from_, if made then 2 * i + 3 else t.to_⟩, (t.ops.foldl (transS made) ([], m)).2)
def transL (made : Bool) (a : List TxP × Mp) (t : TxP) : List TxP × Mp := (a.1 ++ [(transT made a.1.length a.2 t).1], (transT made a.1.length a.2 t).2)
theorem op1_trans (m : Mp) (o : OpP) : op1 m (transO true m o) = some (transM m o) := by
  unfold transO transM op1
  by_cases h1 : o.kind = 1
  · have hg : getOk m ⟨o.kind, o.key, (m o.key).getD ⟨#[]⟩, (m o.key).isSome⟩ := ⟨rfl, fun v hv => by
      have hv : m o.key = some v := hv
      show v = (m o.key).getD ⟨#[]⟩
      rw [hv]; rfl⟩
    simp [h1]
    rw [h1] at hg
    exact hg
  · by_cases h2 : o.kind = 2
    · simp [h2]
    · by_cases h3 : o.kind = 3
      · simp [h3]
      · simp [h1, h2, h3]
theorem plays_trans : ∀ (ops : List OpP) (a : List OpP × Mp) (m0 : Mp), playsP m0 a.1 = some a.2 → playsP m0 (ops.foldl (transS true) a).1 = some (ops.foldl (transS true) a).2
  | [], _, _, h => h
  | o :: ops, a, m0, h => by
    rw [List.foldl_cons]
    refine plays_trans ops _ m0 ?_
    unfold transS
    rw [playsP_append, h]
    simp only [Option.bind, playsP, op1_trans]
theorem transL_len (made : Bool) : ∀ (l : List TxP) (a : List TxP × Mp), (l.foldl (transL made) a).1.length = a.1.length + l.length
  | [], a => rfl
  | t :: l, a => by
    rw [List.foldl_cons, transL_len made l]
    unfold transL
    simp; omega
theorem made_all : ∀ (l : List TxP) (a : List TxP × Mp), (∀ (i : Nat) (t : TxP), a.1[i]? = some t → t.from_ = 2 * (i : Int) ∧ t.to_ = 2 * (i : Int) + 3) → playsP Mp.empty (a.1.flatMap (·.ops)) = some a.2 →
    (∀ (i : Nat) (t : TxP), (l.foldl (transL true) a).1[i]? = some t → t.from_ = 2 * (i : Int) ∧ t.to_ = 2 * (i : Int) + 3) ∧ playsP Mp.empty ((l.foldl (transL true) a).1.flatMap (·.ops)) = some (l.foldl (transL true) a).2
  | [], a, h1, h2 => ⟨h1, h2⟩
  | t :: l, a, h1, h2 => by
    rw [List.foldl_cons]
    refine made_all l _ (fun i u hu => ?_) ?_
    · unfold transL at hu
      rw [List.getElem?_append] at hu
      split at hu
      · exact h1 i u hu
      · rename_i hi
        rw [List.getElem?_singleton] at hu
        split at hu
        · rename_i h0
          injection hu with hu
          have : i = a.1.length := by omega
          subst this
          rw [← hu]
          exact ⟨rfl, rfl⟩
        · cases hu
    · unfold transL transT
      simp only [List.flatMap_append, List.flatMap_cons, List.flatMap_nil, List.append_nil, playsP_append, h2, Option.bind]
      exact plays_trans t.ops ([], a.2) a.2 rfl
theorem flat_opsA (l : List TxP) : ∀ i, i ≤ l.length → (List.range i).flatMap (opsA l) = (l.take i).flatMap (·.ops)
  | 0, _ => rfl
  | i + 1, h => by
    have hg : l[i]? = some l[i] := List.getElem?_eq_getElem (by omega)
    rw [List.range_succ, List.flatMap_append, flat_opsA l i (by omega), List.take_add_one, hg, List.flatMap_append]
    congr 1
    simp [opsA, hg]
theorem trans_made (l : List TxP) : MadeP (l.foldl (transL true) ([], Mp.empty)).1 := by
  obtain ⟨h1, h2⟩ := made_all l ([], Mp.empty) (fun i t h => by simp at h) rfl
  refine ⟨fun i hi => ?_, fun i hi => ?_⟩
  · have hg : (l.foldl (transL true) ([], Mp.empty)).1[i]? = some (l.foldl (transL true) ([], Mp.empty)).1[i] := List.getElem?_eq_getElem hi
    obtain ⟨a, b⟩ := h1 i _ hg
    unfold fromA toA
    rw [hg]
    exact ⟨a, b⟩
  · rw [flat_opsA _ i hi]
    rw [← List.take_append_drop i (l.foldl (transL true) ([], Mp.empty)).1, List.flatMap_append, playsP_append] at h2
    rcases hq : playsP Mp.empty (((l.foldl (transL true) ([], Mp.empty)).1.take i).flatMap (·.ops)) with _ | q
    · rw [hq] at h2; cases h2
    · rw [hq]; rfl
def fineP (N : Nat) (o : OpP) : Prop := o.key.size ≤ N ∧ o.val.size ≤ N
def fineM (N : Nat) (m : Mp) : Prop := ∀ k v, m k = some v → v.size ≤ N
theorem fineM_set {N : Nat} {m : Mp} (h : fineM N m) (k : ByteArray) (v : Option ByteArray) (hv : ∀ x, v = some x → x.size ≤ N) : fineM N (m.set k v) := fun x y hy => by
  unfold Mp.set at hy
  split at hy
  · exact hv y hy
  · exact h x y hy
theorem transO_fine {N : Nat} {made : Bool} {m : Mp} {o : OpP} (hm : fineM N m) (h : fineP N o) : fineP N (transO made m o) := by
  unfold transO
  split
  · refine ⟨h.1, ?_⟩
    show ((m o.key).getD ⟨#[]⟩).size ≤ N
    rcases hq : m o.key with _ | v
    · show (0 : Nat) ≤ N; omega
    · exact hm _ _ hq
  · exact h
theorem transM_fine {N : Nat} {m : Mp} {o : OpP} (hm : fineM N m) (h : fineP N o) : fineM N (transM m o) := by
  unfold transM
  split
  · exact hm
  · split
    · exact fineM_set hm _ _ (fun x hx => by injection hx with hx; rw [← hx]; exact h.2)
    · split
      · exact fineM_set hm _ _ (fun x hx => by cases hx)
      · exact hm
theorem trans_fine (N : Nat) (made : Bool) : ∀ (ops : List OpP) (a : List OpP × Mp), (∀ o ∈ a.1, fineP N o) → fineM N a.2 → (∀ o ∈ ops, fineP N o) → (∀ o ∈ (ops.foldl (transS made) a).1, fineP N o) ∧ fineM N (ops.foldl (transS made) a).2
  | [], _, h, hm, _ => ⟨h, hm⟩
  | o :: ops, a, h, hm, h2 => by
    rw [List.foldl_cons]
    have ho := h2 o (List.mem_cons_self ..)
    refine trans_fine N made ops _ (fun x hx => ?_) (transM_fine hm ho) (fun x hx => h2 x (List.mem_cons_of_mem _ hx))
    unfold transS at hx
    rcases List.mem_append.1 hx with hx | hx
    · exact h x hx
    · rw [List.mem_singleton.1 hx]; exact transO_fine hm ho
theorem transS_len (made : Bool) : ∀ (ops : List OpP) (a : List OpP × Mp), (ops.foldl (transS made) a).1.length = a.1.length + ops.length
  | [], _ => rfl
  | o :: ops, a => by
    rw [List.foldl_cons, transS_len made ops]
    unfold transS
    simp; omega
end Go.Proofs.Ytnahkpfamocnfaa
