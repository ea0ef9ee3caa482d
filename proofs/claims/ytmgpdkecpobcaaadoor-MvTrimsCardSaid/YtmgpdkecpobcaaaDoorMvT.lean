/- mv: what MvTrims leans on: putting in another order makes no difference; a Trim is not seen from its time on. -/
import Derived.Test.YtmgpdkecpobcaaaDoorMvP
namespace Go.Proofs.YtmgpdkecpobcaaaDoor
def okR (r : Rx) : Prop := r.key.length ≤ 20 ∧ r.v.length ≤ 40
structure PutR (L : List Rx) (K : Kp) : Prop where
  sorted : ∀ x, SortedV (K x)
  mem : ∀ x v, v ∈ K x ↔ ∃ r ∈ L, okR r ∧ r.key = x ∧ ofR r = v
theorem PutR.empty : PutR [] (fun _ => []) := ⟨fun _ => List.Pairwise.nil, fun x v => by simp⟩
theorem PutR.new {L : List Rx} {K : Kp} (p : PutR L K) {r : Rx} (hd : ∀ q ∈ L, ¬ (q.key = r.key ∧ q.t = r.t)) : hasV (K r.key) r.t = false := by
  unfold hasV
  rw [List.any_eq_false]
  intro v hv h
  obtain ⟨q, hq, _, hk, rfl⟩ := (p.mem _ v).1 hv
  have h : q.t = r.t := of_decide_eq_true h
  exact hd q hq ⟨hk, h⟩
theorem PutR.put {L : List Rx} {K : Kp} (p : PutR L K) {r : Rx} (hd : ∀ q ∈ L, ¬ (q.key = r.key ∧ q.t = r.t)) (hok : okR r) : PutR (L ++ [r]) (putK K r.key (insV (K r.key) (ofR r))) := by
  refine ⟨fun x => ?_, fun x v => ?_⟩
  · unfold putK
    split
    · exact insV_sorted (p.sorted _) (p.new hd)
    · exact p.sorted x
  · unfold putK
    split
    · rename_i e
      subst e
      rw [insV_mem, p.mem]
      constructor
      · rintro (rfl | ⟨q, hq, ho, hk, rfl⟩)
        · exact ⟨r, by simp, hok, rfl, rfl⟩
        · exact ⟨q, by simp [hq], ho, hk, rfl⟩
      · rintro ⟨q, hq, ho, hk, rfl⟩
        rcases List.mem_append.1 hq with h | h
        · exact .inr ⟨q, h, ho, hk, rfl⟩
        · rw [List.mem_singleton] at h; rw [h]; exact .inl rfl
    · rename_i e
      rw [p.mem]
      constructor
      · rintro ⟨q, hq, ho, hk, rfl⟩; exact ⟨q, by simp [hq], ho, hk, rfl⟩
      · rintro ⟨q, hq, ho, hk, rfl⟩
        rcases List.mem_append.1 hq with h | h
        · exact ⟨q, h, ho, hk, rfl⟩
        · rw [List.mem_singleton] at h; subst h; exact absurd hk.symm e
theorem PutR.skip {L : List Rx} {K : Kp} (p : PutR L K) {r : Rx} (hok : ¬ okR r) : PutR (L ++ [r]) K := by
  refine ⟨p.sorted, fun x v => (p.mem x v).trans ⟨?_, ?_⟩⟩
  · rintro ⟨q, hq, ho, hk, rfl⟩; exact ⟨q, by simp [hq], ho, hk, rfl⟩
  · rintro ⟨q, hq, ho, hk, rfl⟩
    rcases List.mem_append.1 hq with h | h
    · exact ⟨q, h, ho, hk, rfl⟩
    · rw [List.mem_singleton] at h; subst h; exact absurd ho hok
theorem PutR.same {L M : List Rx} {K J : Kp} (p : PutR L K) (q : PutR M J) (h : ∀ r, r ∈ L ↔ r ∈ M) : K = J := by
  funext x
  refine sorted_eqV (p.sorted x) (q.sorted x) (fun v => ?_)
  rw [p.mem, q.mem]
  constructor
  · rintro ⟨r, hr, h2⟩; exact ⟨r, (h r).1 hr, h2⟩
  · rintro ⟨r, hr, h2⟩; exact ⟨r, (h r).2 hr, h2⟩
theorem atK_mem {K : Kp} {ks : List Sx} (h : KeysK K ks) (t : Int) (p : Sx × Sx) : p ∈ atK K ks t ↔ tellV (getV (K p.1) t) = (p.2, true) := by
  unfold atK
  rw [List.mem_filterMap]
  constructor
  · rintro ⟨x, hx, e⟩
    split at e
    · rename_i h1
      injection e with e
      subst e
      exact Prod.ext rfl h1
    · cases e
  · intro e
    refine ⟨p.1, (h.2 _).2 (fun hn => ?_), by rw [e]; rfl⟩
    rw [hn] at e
    simp [getV, tellV] at e
theorem atK_sorted {K : Kp} {ks : List Sx} (h : KeysK K ks) (t : Int) : (atK K ks t).Pairwise (·.1 < ·.1) := by
  unfold atK
  rw [List.pairwise_filterMap]
  refine h.1.imp (fun {a b} hab p hp q hq => ?_)
  split at hp
  · split at hq
    · injection hp with hp; injection hq with hq; rw [← hp, ← hq]; exact hab
    · cases hq
  · cases hp
theorem atK_trim {K : Kp} {ks ks' : List Sx} {to t : Int} (hs : ∀ x, SortedV (K x)) (h : KeysK K ks) (h' : KeysK (fun x => trimV to (K x)) ks') (ht : to ≤ t) : atK (fun x => trimV to (K x)) ks' t = atK K ks t := by
  refine sorted_eq (lt := fun a b : Sx × Sx => a.1 < b.1) (fun a => List.lt_irrefl _) (fun _ _ _ h1 h2 => List.lt_trans h1 h2) (atK_sorted h' t) (atK_sorted h t) (fun p => ?_)
  rw [atK_mem h, atK_mem h', get_trim to (hs _) ht]
theorem sum_sub {f g : Sx → Nat} (hfg : ∀ x, f x ≤ g x) : ∀ (l m : List Sx), l.Nodup → (∀ x ∈ l, x ∈ m) → (l.map f).sum ≤ (m.map g).sum
  | [], m, _, _ => by simp
  | x :: l, m, hn, hs => by
    have hn2 := List.nodup_cons.1 hn
    have hp := List.perm_cons_erase (hs x List.mem_cons_self)
    have hsum : (m.map g).sum = g x + ((m.erase x).map g).sum := by
      have := (hp.map g).sum_nat
      simpa using this
    have ih := sum_sub hfg l (m.erase x) hn2.2 (fun y hy => (List.mem_erase_of_ne (fun (e : y = x) => hn2.1 (e ▸ hy))).2 (hs y (List.mem_cons_of_mem _ hy)))
    rw [hsum, List.map_cons, List.sum_cons]
    have := hfg x
    omega
theorem sumK_trim {K : Kp} {ks ks' : List Sx} {to : Int} (h : KeysK K ks) (h' : KeysK (fun x => trimV to (K x)) ks') : sumK (fun x => trimV to (K x)) ks' ≤ sumK K ks := by
  refine sum_sub (fun x => trimV_len to (K x)) ks' ks (h'.1.imp (fun {a b} h e => by subst e; exact List.lt_irrefl _ h)) (fun x hx => (h.2 x).2 (fun e => ?_))
  have := (h'.2 x).1 hx
  simp only [e] at this
  exact this rfl
end Go.Proofs.YtmgpdkecpobcaaaDoor
