/- mv: the plain side of Store: what Put, Get, At, Trim, Many do to versions told as lists by keys, and what the document's do to one list; that they agree. -/
import Derived.Test.YtmgpdkecpobcaaaDoorLkP
namespace Go.Proofs.YtmgpdkecpobcaaaDoor
structure Vx where
  t : Int
  v : Sx
  g : Bool
deriving DecidableEq
structure Rx where
  key : Sx
  v : Sx
  g : Bool
  t : Int
deriving DecidableEq
abbrev Kp := Sx → List Vx
def lessV (l : List Vx) (t : Int) : List Vx := l.takeWhile (fun x => decide (x.t < t))
def hasV (l : List Vx) (t : Int) : Bool := l.any (fun x => decide (x.t = t))
def insV (l : List Vx) (v : Vx) : List Vx := lessV l v.t ++ v :: l.drop (lessV l v.t).length
def getV (l : List Vx) (t : Int) : Option Vx := (l.takeWhile (fun x => decide (x.t ≤ t))).getLast?
def tellV (o : Option Vx) : Sx × Bool := match o with
  | none => ([], false)
  | some x => if x.g then ([], false) else (x.v, true)
/-- how many are passed over by a Trim: the last one of the times up to it, if there is one, is the first one that stays. -/
def trimN (to : Int) : List Vx → Nat
  | a :: b :: l => if b.t ≤ to then trimN to (b :: l) + 1 else 0
  | _ => 0
def cutG (to : Int) (l : List Vx) : List Vx := match l with
  | a :: l' => if a.g && decide (a.t ≤ to) then l' else a :: l'
  | [] => []
def trimV (to : Int) (l : List Vx) : List Vx := cutG to (l.drop (trimN to l))
abbrev SortedV (l : List Vx) : Prop := l.Pairwise (·.t < ·.t)
theorem sorted_eqV {l m : List Vx} (hl : SortedV l) (hm : SortedV m) (he : ∀ a, a ∈ l ↔ a ∈ m) : l = m :=
  sorted_eq (lt := fun a b : Vx => a.t < b.t) (fun a => Int.lt_irrefl _) (fun _ _ _ h1 h2 => Int.lt_trans h1 h2) hl hm he
theorem SortedV.uniq {l : List Vx} (h : SortedV l) {a b : Vx} (ha : a ∈ l) (hb : b ∈ l) (e : a.t = b.t) : a = b := by
  induction l with
  | nil => cases ha
  | cons c l ih =>
    have h := List.pairwise_cons.1 h
    rcases List.mem_cons.1 ha with rfl | ha' <;> rcases List.mem_cons.1 hb with rfl | hb'
    · rfl
    · have := h.1 b hb'; omega
    · have := h.1 a ha'; omega
    · exact ih h.2 ha' hb'
theorem mem_takeWhile_imp {α : Type} {p : α → Bool} {l : List α} {a : α} (h : a ∈ l.takeWhile p) : p a = true := by
  induction l with
  | nil => cases h
  | cons b l ih =>
    rw [List.takeWhile_cons] at h
    split at h
    · rcases List.mem_cons.1 h with rfl | h
      · assumption
      · exact ih h
    · cases h
/-- of a sorted list those up to a time are its beginning. -/
theorem mem_take_le {l : List Vx} (hs : SortedV l) (t : Int) (a : Vx) : a ∈ l.takeWhile (fun x => decide (x.t ≤ t)) ↔ a ∈ l ∧ a.t ≤ t := by
  constructor
  · intro h; exact ⟨(List.takeWhile_prefix _).subset h, by simpa using mem_takeWhile_imp h⟩
  · rintro ⟨h1, h2⟩
    induction l with
    | nil => cases h1
    | cons b l ih =>
      have hs := List.pairwise_cons.1 hs
      rw [List.takeWhile_cons]
      rcases List.mem_cons.1 h1 with rfl | h1
      · rw [if_pos (by simpa using h2)]; exact List.mem_cons_self
      · have := hs.1 a h1
        rw [if_pos (by simp; omega)]
        exact List.mem_cons_of_mem _ (ih hs.2 h1)
theorem mem_less {l : List Vx} (hs : SortedV l) (t : Int) (a : Vx) : a ∈ lessV l t ↔ a ∈ l ∧ a.t < t := by
  unfold lessV
  constructor
  · intro h; exact ⟨(List.takeWhile_prefix _).subset h, by simpa using mem_takeWhile_imp h⟩
  · rintro ⟨h1, h2⟩
    induction l with
    | nil => cases h1
    | cons b l ih =>
      have hs := List.pairwise_cons.1 hs
      rw [List.takeWhile_cons]
      rcases List.mem_cons.1 h1 with rfl | h1
      · rw [if_pos (by simpa using h2)]; exact List.mem_cons_self
      · have := hs.1 a h1
        rw [if_pos (by simp; omega)]
        exact List.mem_cons_of_mem _ (ih hs.2 h1)
/-- The last one of a sorted list up to a time. -/
theorem getV_some {l : List Vx} (hs : SortedV l) {t : Int} {x : Vx} : getV l t = some x ↔ x ∈ l ∧ x.t ≤ t ∧ ∀ y ∈ l, y.t ≤ t → y.t ≤ x.t := by
  have hsub : SortedV (l.takeWhile (fun x => decide (x.t ≤ t))) := hs.sublist (List.takeWhile_prefix _).sublist
  unfold getV
  constructor
  · intro h
    have hm := List.mem_of_getLast? h
    have h2 := (mem_take_le hs t x).1 hm
    refine ⟨h2.1, h2.2, fun y hy hyt => ?_⟩
    have hy2 := (mem_take_le hs t y).2 ⟨hy, hyt⟩
    obtain ⟨ys, e⟩ := List.getLast?_eq_some_iff.1 h
    rw [e] at hy2 hsub
    rcases List.mem_append.1 hy2 with h3 | h3
    · have := (List.pairwise_append.1 hsub).2.2 y h3 x (by simp); omega
    · rw [List.mem_singleton] at h3; rw [h3]; omega
  · rintro ⟨h1, h2, h3⟩
    have hm := (mem_take_le hs t x).2 ⟨h1, h2⟩
    cases e : (l.takeWhile (fun x => decide (x.t ≤ t))).getLast? with
    | none => rw [List.getLast?_eq_none_iff] at e; rw [e] at hm; cases hm
    | some y =>
      have hy := List.mem_of_getLast? e
      have hy2 := (mem_take_le hs t y).1 hy
      have h4 := h3 y hy2.1 hy2.2
      obtain ⟨ys, e2⟩ := List.getLast?_eq_some_iff.1 e
      rw [e2] at hm hsub
      rcases List.mem_append.1 hm with h5 | h5
      · have := (List.pairwise_append.1 hsub).2.2 x h5 y (by simp); omega
      · rw [List.mem_singleton] at h5; rw [h5]
theorem getV_none {l : List Vx} (hs : SortedV l) {t : Int} : getV l t = none ↔ ∀ y ∈ l, ¬ y.t ≤ t := by
  unfold getV
  rw [List.getLast?_eq_none_iff, List.eq_nil_iff_forall_not_mem]
  constructor
  · intro h y hy ht; exact h y ((mem_take_le hs t y).2 ⟨hy, ht⟩)
  · intro h y hy; have := (mem_take_le hs t y).1 hy; exact h y this.1 this.2
/-- The search's place, and what Get takes there. -/
theorem getV_found {l : List Vx} (hs : SortedV l) {t : Int} (h : hasV l t = true) : getV l t = l[(lessV l t).length]? ∧ (lessV l t).length < l.length := by
  unfold hasV at h
  obtain ⟨x, hx, hxt⟩ := List.any_eq_true.1 h
  simp only [decide_eq_true_eq] at hxt
  have hpre := List.takeWhile_append_dropWhile (p := fun x => decide (x.t < t)) (l := l)
  have hxd : x ∈ l.dropWhile (fun x => decide (x.t < t)) := by
    rw [← hpre] at hx
    rcases List.mem_append.1 hx with h1 | h1
    · have := mem_takeWhile_imp h1; simp at this; omega
    · exact h1
  cases e : l.dropWhile (fun x => decide (x.t < t)) with
  | nil => rw [e] at hxd; cases hxd
  | cons y r =>
    have hy : ¬ y.t < t := by
      have := List.head_dropWhile_not (p := fun x => decide (x.t < t)) (l := l) (by rw [e]; simp)
      simp only [e, List.head_cons] at this
      simpa using this
    have hyx : y = x := by
      rw [e] at hxd
      rcases List.mem_cons.1 hxd with h1 | h1
      · exact h1.symm
      · rw [e] at hpre
        rw [← hpre] at hs
        have := (List.pairwise_cons.1 (List.pairwise_append.1 hs).2.1).1 x h1
        omega
    subst hyx
    rw [e] at hpre
    have hl : l = lessV l t ++ y :: r := hpre.symm
    have hi : l[(lessV l t).length]? = some y := by
      conv => lhs; rw [hl]
      rw [List.getElem?_append_right (by exact Nat.le_of_eq (by rw [← hl]))]
      have e0 : (lessV l t).length - (lessV l t).length = 0 := by omega
      simp [← hl]
    refine ⟨?_, ?_⟩
    · rw [hi]; exact (getV_some hs).2 ⟨hx, by omega, fun z _ hz => by omega⟩
    · exact (List.getElem?_eq_some_iff.1 hi).1
theorem less_eq_le {l : List Vx} {t : Int} (h : hasV l t = false) : l.takeWhile (fun x => decide (x.t ≤ t)) = lessV l t := by
  unfold lessV
  unfold hasV at h
  rw [List.any_eq_false] at h
  induction l with
  | nil => rfl
  | cons a l ih =>
    have ha := h a List.mem_cons_self
    simp only [decide_eq_true_eq] at ha
    rw [List.takeWhile_cons, List.takeWhile_cons, ih (fun x hx => h x (List.mem_cons_of_mem _ hx))]
    by_cases e : a.t < t
    · rw [if_pos (by simp; omega), if_pos (by simpa using e)]
    · rw [if_neg (by simp; omega), if_neg (by simpa using e)]
theorem getV_other {l : List Vx} {t : Int} (h : hasV l t = false) : ((lessV l t).length = 0 → getV l t = none) ∧ (0 < (lessV l t).length → getV l t = l[(lessV l t).length - 1]? ∧ (lessV l t).length - 1 < l.length) := by
  unfold getV
  rw [less_eq_le h]
  have hp : lessV l t <+: l := List.takeWhile_prefix _
  refine ⟨fun h0 => by rw [List.length_eq_zero_iff.1 h0]; rfl, fun h0 => ?_⟩
  have hl := hp.length_le
  refine ⟨?_, by omega⟩
  rw [List.getLast?_eq_getElem?]
  obtain ⟨r, hr⟩ := hp
  conv => rhs; rw [← hr]
  rw [List.getElem?_append_left (by rw [hr]; omega), hr]
theorem drop_less (l : List Vx) (t : Int) : l.drop (lessV l t).length = l.dropWhile (fun x => decide (x.t < t)) := by
  have h := List.takeWhile_append_dropWhile (p := fun x : Vx => decide (x.t < t)) (l := l)
  unfold lessV
  conv => lhs; arg 2; rw [← h]
  rw [h]
  have := List.drop_left (l₁ := l.takeWhile (fun x => decide (x.t < t))) (l₂ := l.dropWhile (fun x => decide (x.t < t)))
  rw [h] at this
  exact this
theorem insV_mem {l : List Vx} {v x : Vx} : x ∈ insV l v ↔ x = v ∨ x ∈ l := by
  unfold insV
  rw [drop_less]
  have : x ∈ l ↔ x ∈ lessV l v.t ∨ x ∈ l.dropWhile (fun x => decide (x.t < v.t)) := by
    rw [← List.mem_append]; unfold lessV; rw [List.takeWhile_append_dropWhile]
  rw [this, List.mem_append, List.mem_cons]
  constructor
  · rintro (h | h | h)
    · exact .inr (.inl h)
    · exact .inl h
    · exact .inr (.inr h)
  · rintro (h | h | h)
    · exact .inr (.inl h)
    · exact .inl h
    · exact .inr (.inr h)
theorem insV_sorted {l : List Vx} {v : Vx} (hs : SortedV l) (hn : hasV l v.t = false) : SortedV (insV l v) := by
  unfold hasV at hn
  rw [List.any_eq_false] at hn
  unfold insV
  rw [drop_less]
  have h := List.takeWhile_append_dropWhile (p := fun x : Vx => decide (x.t < v.t)) (l := l)
  have hs2 := hs
  rw [← h] at hs2
  have hs3 := List.pairwise_append.1 hs2
  have hd : ∀ x ∈ l.dropWhile (fun x => decide (x.t < v.t)), v.t < x.t := fun x hx => by
    have hne := hn x ((List.dropWhile_sublist _).subset hx)
    simp only [decide_eq_true_eq] at hne
    refine Classical.byContradiction (fun hlt => ?_)
    have h1 : x ∈ lessV l v.t := (mem_less hs v.t x).2 ⟨(List.dropWhile_sublist _).subset hx, by omega⟩
    have := hs3.2.2 x h1 x hx
    omega
  refine List.pairwise_append.2 ⟨hs3.1, List.pairwise_cons.2 ⟨hd, hs3.2.1⟩, fun a ha b hb => ?_⟩
  have ha2 := ((mem_less hs v.t a).1 ha).2
  rcases List.mem_cons.1 hb with rfl | hb
  · exact ha2
  · have := hd b hb; omega
theorem insV_len (l : List Vx) (v : Vx) : (insV l v).length = l.length + 1 := by
  unfold insV
  have : (lessV l v.t).length ≤ l.length := (List.takeWhile_prefix _).length_le
  simp; omega
/-! Trim of one key's -/
theorem trimN_le (to : Int) : ∀ l : List Vx, trimN to l ≤ l.length - 1
  | [] => Nat.le_refl _
  | [a] => Nat.le_refl _
  | a :: b :: l => by
    unfold trimN
    have := trimN_le to (b :: l)
    split
    · simp at *; omega
    · omega
theorem trimN_mem (to : Int) : ∀ (l : List Vx), SortedV l → ∀ x, x ∈ l.drop (trimN to l) ↔ x ∈ l ∧ ¬ ∃ y ∈ l, x.t < y.t ∧ y.t ≤ to
  | [], _, x => by simp
  | [a], _, x => by
    simp only [trimN, List.drop_zero, List.mem_singleton]
    constructor
    · rintro rfl; exact ⟨rfl, by rintro ⟨y, rfl, h⟩; omega⟩
    · exact fun h => h.1
  | a :: b :: l, hs, x => by
    have h1 := List.pairwise_cons.1 hs
    unfold trimN
    by_cases e : b.t ≤ to
    · rw [if_pos e, List.drop_succ_cons, trimN_mem to (b :: l) h1.2 x]
      constructor
      · rintro ⟨h2, h3⟩
        refine ⟨List.mem_cons_of_mem _ h2, ?_⟩
        rintro ⟨y, hy, hy2⟩
        rcases List.mem_cons.1 hy with rfl | hy
        · have := h1.1 x h2; omega
        · exact h3 ⟨y, hy, hy2⟩
      · rintro ⟨h2, h3⟩
        rcases List.mem_cons.1 h2 with rfl | h2
        · exact absurd ⟨b, by simp, h1.1 b (by simp), e⟩ h3
        · exact ⟨h2, fun ⟨y, hy, hy2⟩ => h3 ⟨y, List.mem_cons_of_mem _ hy, hy2⟩⟩
    · rw [if_neg e, List.drop_zero]
      refine ⟨fun h => ⟨h, ?_⟩, fun h => h.1⟩
      rintro ⟨y, hy, hy1, hy2⟩
      have hb : ∀ z ∈ b :: l, b.t ≤ z.t := fun z hz => by
        rcases List.mem_cons.1 hz with rfl | hz
        · omega
        · have := (List.pairwise_cons.1 h1.2).1 z hz; omega
      rcases List.mem_cons.1 hy with rfl | hy
      · rcases List.mem_cons.1 h with rfl | h
        · omega
        · have := h1.1 x h; omega
      · have := hb y hy; omega
theorem cutG_sub (to : Int) (l : List Vx) : (cutG to l).Sublist l := by
  unfold cutG
  split
  · split
    · exact List.sublist_cons_self _ _
    · exact List.Sublist.refl _
  · exact List.Sublist.refl _
theorem trimV_sorted (to : Int) {l : List Vx} (hs : SortedV l) : SortedV (trimV to l) := hs.sublist ((cutG_sub _ _).trans (List.drop_sublist _ _))
theorem trimV_len (to : Int) (l : List Vx) : (trimV to l).length ≤ l.length := ((cutG_sub _ _).trans (List.drop_sublist _ _)).length_le
theorem trimV_mem (to : Int) {l : List Vx} (hs : SortedV l) (x : Vx) : x ∈ trimV to l ↔ x ∈ l ∧ (¬ ∃ y ∈ l, x.t < y.t ∧ y.t ≤ to) ∧ ¬ (x.g = true ∧ x.t ≤ to) := by
  have hm := trimN_mem to l hs x
  have hsd : SortedV (l.drop (trimN to l)) := hs.sublist (List.drop_sublist _ _)
  have hnone : ∀ a r, l.drop (trimN to l) = a :: r → ∀ y ∈ r, to < y.t := fun a r e y hy => by
    have h1 := (trimN_mem to l hs a).1 (by rw [e]; exact List.mem_cons_self)
    rw [e] at hsd
    have h2 := (List.pairwise_cons.1 hsd).1 y hy
    refine Classical.byContradiction (fun hle => h1.2 ⟨y, ?_, h2, by omega⟩)
    exact (List.drop_sublist (trimN to l) l).subset (by rw [e]; exact List.mem_cons_of_mem _ hy)
  unfold trimV
  rw [← and_assoc, ← hm]
  cases e : l.drop (trimN to l) with
  | nil => simp [cutG]
  | cons a r =>
    have hn := hnone a r e
    rw [e] at hsd
    have hlt := (List.pairwise_cons.1 hsd).1
    unfold cutG
    simp only
    by_cases c : a.g = true ∧ a.t ≤ to
    · rw [if_pos (by simp [c.1, c.2]), List.mem_cons]
      constructor
      · intro h; exact ⟨.inr h, fun h2 => by have := hn x h; omega⟩
      · rintro ⟨rfl | h, h2⟩
        · exact absurd c h2
        · exact h
    · rw [if_neg (by simpa using c), List.mem_cons]
      constructor
      · rintro (rfl | h)
        · exact ⟨.inl rfl, c⟩
        · exact ⟨.inr h, fun h2 => by have := hn x h; omega⟩
      · exact fun h => h.1
/-- What is told of times from 'to' on is what it was. -/
theorem get_trim (to : Int) {l : List Vx} (hs : SortedV l) {t : Int} (ht : to ≤ t) : tellV (getV (trimV to l) t) = tellV (getV l t) := by
  have hs2 := trimV_sorted to hs
  cases e : getV l t with
  | none =>
    have h1 := (getV_none hs).1 e
    have : getV (trimV to l) t = none := (getV_none hs2).2 (fun y hy => h1 y ((trimV_mem to hs y).1 hy).1)
    rw [this]
  | some x =>
    obtain ⟨h1, h2, h3⟩ := (getV_some hs).1 e
    by_cases hx : x ∈ trimV to l
    · have : getV (trimV to l) t = some x := (getV_some hs2).2 ⟨hx, h2, fun y hy => h3 y ((trimV_mem to hs y).1 hy).1⟩
      rw [this]
    · have hgone : x.g = true ∧ x.t ≤ to := by
        refine Classical.byContradiction (fun hc => hx ((trimV_mem to hs x).2 ⟨h1, ?_, hc⟩))
        rintro ⟨y, hy, hy1, hy2⟩
        have := h3 y hy (by omega)
        omega
      have : getV (trimV to l) t = none := (getV_none hs2).2 (fun y hy hyt => by
        have h4 := (trimV_mem to hs y).1 hy
        have h5 := h3 y h4.1 hyt
        by_cases e5 : y.t = x.t
        · have := hs.uniq h4.1 h1 e5
          rw [this] at hy
          exact hx hy
        · exact h4.2.1 ⟨x, h1, by omega, hgone.2⟩)
      rw [this]
      simp [tellV, hgone.1]
/-! the document's -/
def hitR (x : Sx) (t : Int) (r : Rx) : Bool := decide (r.key = x) && decide (r.t ≤ t)
def bestR (x : Sx) (t : Int) (l : List Rx) : Option Rx := l.foldl (fun b r => if hitR x t r then (match b with | none => some r | some c => if c.t < r.t then some r else some c) else b) none
def tellR (o : Option Rx) : Sx × Bool := match o with
  | none => ([], false)
  | some x => if x.g then ([], false) else (x.v, true)
theorem bestR_fold (x : Sx) (t : Int) : ∀ (l : List Rx) (b : Option Rx), (∀ c, b = some c → hitR x t c = true) →
    (l.foldl (fun b r => if hitR x t r then (match b with | none => some r | some c => if c.t < r.t then some r else some c) else b) b = none → b = none ∧ ∀ r ∈ l, hitR x t r = false) ∧
    ∀ c, l.foldl (fun b r => if hitR x t r then (match b with | none => some r | some c => if c.t < r.t then some r else some c) else b) b = some c → hitR x t c = true ∧ (b = some c ∨ c ∈ l) ∧ (∀ d, b = some d → d.t ≤ c.t) ∧ ∀ r ∈ l, hitR x t r = true → r.t ≤ c.t
  | [], b, hb => ⟨fun h => ⟨h, fun r hr => nomatch hr⟩, fun c h => ⟨hb c h, .inl h, fun d hd => by simp at h; rw [h] at hd; injection hd with hd; rw [hd]; omega, fun r hr => nomatch hr⟩⟩
  | r :: l, b, hb => by
    rw [List.foldl_cons]
    by_cases e : hitR x t r = true
    · rw [if_pos e]
      cases hbb : b with
      | none =>
        simp only
        obtain ⟨h1, h2⟩ := bestR_fold x t l (some r) (fun c hc => by injection hc with hc; rw [← hc]; exact e)
        refine ⟨fun h => absurd (h1 h).1 (by simp), fun c hc => ?_⟩
        obtain ⟨g1, g2, g3, g4⟩ := h2 c hc
        refine ⟨g1, ?_, fun d hd => (nomatch hd), fun q hq hh => ?_⟩
        · rcases g2 with g2 | g2
          · injection g2 with g2; rw [g2]; exact .inr List.mem_cons_self
          · exact .inr (List.mem_cons_of_mem _ g2)
        · rcases List.mem_cons.1 hq with rfl | hq
          · exact g3 _ rfl
          · exact g4 q hq hh
      | some b0 =>
        simp only
        by_cases e2 : b0.t < r.t
        · rw [if_pos e2]
          obtain ⟨h1, h2⟩ := bestR_fold x t l (some r) (fun c hc => by injection hc with hc; rw [← hc]; exact e)
          refine ⟨fun h => absurd (h1 h).1 (by simp), fun c hc => ?_⟩
          obtain ⟨g1, g2, g3, g4⟩ := h2 c hc
          refine ⟨g1, ?_, fun d hd => ?_, fun q hq hh => ?_⟩
          · rcases g2 with g2 | g2
            · injection g2 with g2; rw [g2]; exact .inr List.mem_cons_self
            · exact .inr (List.mem_cons_of_mem _ g2)
          · injection hd with hd; have := g3 _ rfl; rw [← hd]; omega
          · rcases List.mem_cons.1 hq with rfl | hq
            · exact g3 _ rfl
            · exact g4 q hq hh
        · rw [if_neg e2]
          obtain ⟨h1, h2⟩ := bestR_fold x t l (some b0) (fun c hc => by injection hc with hc; rw [← hc]; exact hb b0 hbb)
          refine ⟨fun h => absurd (h1 h).1 (by simp), fun c hc => ?_⟩
          obtain ⟨g1, g2, g3, g4⟩ := h2 c hc
          refine ⟨g1, ?_, g3, fun q hq hh => ?_⟩
          · rcases g2 with g2 | g2
            · exact .inl g2
            · exact .inr (List.mem_cons_of_mem _ g2)
          · rcases List.mem_cons.1 hq with rfl | hq
            · have := g3 _ rfl; omega
            · exact g4 q hq hh
    · rw [if_neg e]
      obtain ⟨h1, h2⟩ := bestR_fold x t l b hb
      refine ⟨fun h => ⟨(h1 h).1, fun q hq => ?_⟩, fun c hc => ?_⟩
      · rcases List.mem_cons.1 hq with rfl | hq
        · simpa using e
        · exact (h1 h).2 q hq
      · obtain ⟨g1, g2, g3, g4⟩ := h2 c hc
        refine ⟨g1, ?_, g3, fun q hq hh => ?_⟩
        · rcases g2 with g2 | g2
          · exact .inl g2
          · exact .inr (List.mem_cons_of_mem _ g2)
        · rcases List.mem_cons.1 hq with rfl | hq
          · exact absurd hh e
          · exact g4 q hq hh
def ApartV (l : List Rx) : Prop := l.Pairwise fun a b => ¬ (a.key = b.key ∧ a.t = b.t)
theorem ApartV.uniq {l : List Rx} (h : ApartV l) {a b : Rx} (ha : a ∈ l) (hb : b ∈ l) (h1 : a.key = b.key) (h2 : a.t = b.t) : a = b := by
  induction l with
  | nil => cases ha
  | cons c l ih =>
    unfold ApartV at h
    rw [List.pairwise_cons] at h
    rcases List.mem_cons.1 ha with rfl | ha' <;> rcases List.mem_cons.1 hb with rfl | hb'
    · rfl
    · exact absurd ⟨h1, h2⟩ (h.1 b hb')
    · exact absurd ⟨h1.symm, h2.symm⟩ (h.1 a ha')
    · exact ih h.2 ha' hb'
def ofR (r : Rx) : Vx := ⟨r.t, if r.g then [] else r.v, r.g⟩
structure StR (l : List Rx) (K : Kp) : Prop where
  apart : ApartV l
  sorted : ∀ x, SortedV (K x)
  mem : ∀ x v, v ∈ K x ↔ ∃ r ∈ l, r.key = x ∧ ofR r = v
theorem tell_of (r : Rx) : tellV (some (ofR r)) = tellR (some r) := by
  unfold tellV tellR ofR
  simp only
  cases r.g <;> simp
theorem StR.get {l : List Rx} {K : Kp} (s : StR l K) (x : Sx) (t : Int) : tellV (getV (K x) t) = tellR (bestR x t l) := by
  obtain ⟨h1, h2⟩ := bestR_fold x t l none (fun c hc => nomatch hc)
  cases e : bestR x t l with
  | none =>
    have h3 := (h1 e).2
    have : getV (K x) t = none := (getV_none (s.sorted x)).2 (fun y hy ht => by
      obtain ⟨r, hr, hk, rfl⟩ := (s.mem x y).1 hy
      have := h3 r hr
      have ht2 : r.t ≤ t := ht
      simp [hitR, hk, ht2] at this)
    rw [this]; rfl
  | some c =>
    obtain ⟨g1, g2, _, g4⟩ := h2 c e
    have g2 : c ∈ l := g2.resolve_left (fun h => nomatch h)
    simp only [hitR, Bool.and_eq_true, decide_eq_true_eq] at g1
    have : getV (K x) t = some (ofR c) := (getV_some (s.sorted x)).2 ⟨(s.mem x _).2 ⟨c, g2, g1.1, rfl⟩, g1.2, fun y hy ht => by
      obtain ⟨r, hr, hk, rfl⟩ := (s.mem x y).1 hy
      have ht2 : r.t ≤ t := ht
      exact g4 r hr (by simp [hitR, hk, ht2])⟩
    rw [this]
    exact tell_of c
def hasR' (l : List Rx) (x : Sx) (t : Int) : Bool := l.any fun r => decide (r.key = x) && decide (r.t = t)
theorem StR.has {l : List Rx} {K : Kp} (s : StR l K) (x : Sx) (t : Int) : hasR' l x t = hasV (K x) t := by
  rw [Bool.eq_iff_iff]
  unfold hasR' hasV
  rw [List.any_eq_true, List.any_eq_true]
  constructor
  · rintro ⟨r, hr, hp⟩
    simp only [Bool.and_eq_true, decide_eq_true_eq] at hp
    exact ⟨ofR r, (s.mem x _).2 ⟨r, hr, hp.1, rfl⟩, decide_eq_true hp.2⟩
  · rintro ⟨v, hv, hp⟩
    obtain ⟨r, hr, hk, rfl⟩ := (s.mem x v).1 hv
    have hp : r.t = t := of_decide_eq_true hp
    exact ⟨r, hr, by simp [hk, hp]⟩
def putK (K : Kp) (x : Sx) (l : List Vx) : Kp := fun y => if y = x then l else K y
theorem StR.put {l : List Rx} {K : Kp} (s : StR l K) (r : Rx) (hn : hasV (K r.key) r.t = false) : StR (l ++ [r]) (putK K r.key (insV (K r.key) (ofR r))) := by
  have hn2 := (s.has r.key r.t).trans hn
  refine ⟨List.pairwise_append.2 ⟨s.apart, List.pairwise_singleton _ _, fun a ha b hb => ?_⟩, fun x => ?_, fun x v => ?_⟩
  · rw [List.mem_singleton] at hb
    subst hb
    unfold hasR' at hn2
    rw [List.any_eq_false] at hn2
    have := hn2 a ha
    simpa using this
  · unfold putK
    split
    · exact insV_sorted (s.sorted _) hn
    · exact s.sorted x
  · unfold putK
    split
    · rename_i e
      subst e
      rw [insV_mem, s.mem]
      constructor
      · rintro (rfl | ⟨q, hq, hk, rfl⟩)
        · exact ⟨r, by simp, rfl, rfl⟩
        · exact ⟨q, by simp [hq], hk, rfl⟩
      · rintro ⟨q, hq, hk, rfl⟩
        rcases List.mem_append.1 hq with h | h
        · exact .inr ⟨q, h, hk, rfl⟩
        · rw [List.mem_singleton] at h; rw [h]; exact .inl rfl
    · rename_i e
      rw [s.mem]
      constructor
      · rintro ⟨q, hq, hk, rfl⟩; exact ⟨q, by simp [hq], hk, rfl⟩
      · rintro ⟨q, hq, hk, rfl⟩
        rcases List.mem_append.1 hq with h | h
        · exact ⟨q, h, hk, rfl⟩
        · rw [List.mem_singleton] at h; subst h; exact absurd hk.symm e
def followsR (l : List Rx) (to : Int) (v : Rx) : Bool := l.any fun w => decide (w.key = v.key) && decide (v.t < w.t) && decide (w.t ≤ to)
def trimR (to : Int) (l : List Rx) : List Rx := l.filter fun v => !followsR l to v && !(v.g && decide (v.t ≤ to))
theorem StR.trim {l : List Rx} {K : Kp} (s : StR l K) (to : Int) : StR (trimR to l) (fun x => trimV to (K x)) := by
  refine ⟨s.apart.filter _, fun x => trimV_sorted to (s.sorted x), fun x v => ?_⟩
  rw [trimV_mem to (s.sorted x)]
  have hf : ∀ r ∈ l, r.key = x → (followsR l to r = true ↔ ∃ y ∈ K x, (ofR r).t < y.t ∧ y.t ≤ to) := fun r hr hk => by
    unfold followsR
    rw [List.any_eq_true]
    constructor
    · rintro ⟨w, hw, hp⟩
      simp only [Bool.and_eq_true, decide_eq_true_eq] at hp
      exact ⟨ofR w, (s.mem x _).2 ⟨w, hw, hp.1.1.trans hk, rfl⟩, hp.1.2, hp.2⟩
    · rintro ⟨y, hy, h1, h2⟩
      obtain ⟨w, hw, hk2, rfl⟩ := (s.mem x y).1 hy
      have h1' : r.t < w.t := h1
      have h2' : w.t ≤ to := h2
      exact ⟨w, hw, by simp [hk, hk2, h1', h2']⟩
  constructor
  · rintro ⟨h1, h2, h3⟩
    obtain ⟨r, hr, hk, rfl⟩ := (s.mem x v).1 h1
    refine ⟨r, List.mem_filter.2 ⟨hr, ?_⟩, hk, rfl⟩
    have e1 : followsR l to r = false := by
      cases e : followsR l to r with
      | false => rfl
      | true => exact absurd ((hf r hr hk).1 e) h2
    have e2 : (r.g && decide (r.t ≤ to)) = false := by
      cases e : (r.g && decide (r.t ≤ to)) with
      | false => rfl
      | true => simp only [Bool.and_eq_true, decide_eq_true_eq] at e; exact absurd e h3
    simp only [e1, e2]; rfl
  · rintro ⟨r, hr, hk, rfl⟩
    obtain ⟨hr, hp⟩ := List.mem_filter.1 hr
    simp only [Bool.and_eq_true, Bool.not_eq_true'] at hp
    refine ⟨(s.mem x _).2 ⟨r, hr, hk, rfl⟩, fun h => ?_, fun h => ?_⟩
    · rw [(hf r hr hk).2 h] at hp; simp at hp
    · have h1 : r.g = true := h.1
      have h2 : r.t ≤ to := h.2
      simp [h1, h2] at hp
/-! keys, and how many -/
def KeysK (K : Kp) (ks : List Sx) : Prop := ks.Pairwise (· < ·) ∧ ∀ x, x ∈ ks ↔ K x ≠ []
def keysV (l : List Rx) : List Sx := sortS (l.foldl (fun s r => if r.key ∈ s then s else s ++ [r.key]) [])
theorem keysV_fold : ∀ (l : List Rx) (s : List Sx), s.Nodup → (l.foldl (fun s r => if r.key ∈ s then s else s ++ [r.key]) s).Nodup ∧ ∀ x, x ∈ l.foldl (fun s r => if r.key ∈ s then s else s ++ [r.key]) s ↔ x ∈ s ∨ ∃ a ∈ l, a.key = x
  | [], s, hs => ⟨hs, fun x => by simp⟩
  | a :: l, s, hs => by
    rw [List.foldl_cons]
    by_cases e : a.key ∈ s
    · rw [if_pos e]
      obtain ⟨h1, h2⟩ := keysV_fold l s hs
      refine ⟨h1, fun x => (h2 x).trans ⟨?_, ?_⟩⟩
      · rintro (h | ⟨b, hb, rfl⟩)
        · exact .inl h
        · exact .inr ⟨b, List.mem_cons_of_mem _ hb, rfl⟩
      · rintro (h | ⟨b, hb, rfl⟩)
        · exact .inl h
        · rcases List.mem_cons.1 hb with rfl | hb
          · exact .inl e
          · exact .inr ⟨b, hb, rfl⟩
    · rw [if_neg e]
      obtain ⟨h1, h2⟩ := keysV_fold l (s ++ [a.key]) (List.nodup_append.2 ⟨hs, List.nodup_cons.2 ⟨by simp, List.nodup_nil⟩, fun x hx y hy => by
        rw [List.mem_singleton] at hy; subst hy; rintro rfl; exact e hx⟩)
      refine ⟨h1, fun x => (h2 x).trans ⟨?_, ?_⟩⟩
      · rintro (h | ⟨b, hb, rfl⟩)
        · rcases List.mem_append.1 h with h | h
          · exact .inl h
          · rw [List.mem_singleton] at h; exact .inr ⟨a, List.mem_cons_self, h.symm⟩
        · exact .inr ⟨b, List.mem_cons_of_mem _ hb, rfl⟩
      · rintro (h | ⟨b, hb, rfl⟩)
        · exact .inl (List.mem_append.2 (.inl h))
        · rcases List.mem_cons.1 hb with rfl | hb
          · exact .inl (List.mem_append.2 (.inr (by simp)))
          · exact .inr ⟨b, hb, rfl⟩
theorem StR.keysK {l : List Rx} {K : Kp} (s : StR l K) : KeysK K (keysV l) := by
  refine ⟨sortS_lt (keysV_fold l [] List.nodup_nil).1, fun x => ?_⟩
  unfold keysV
  rw [mem_sortS, (keysV_fold l [] List.nodup_nil).2 x]
  constructor
  · rintro (h | ⟨r, hr, hk⟩)
    · cases h
    · intro e
      have := (s.mem x (ofR r)).2 ⟨r, hr, hk, rfl⟩
      rw [e] at this; cases this
  · intro h
    obtain ⟨v, r, e⟩ := List.exists_cons_of_ne_nil h
    obtain ⟨q, hq, hk, _⟩ := (s.mem x v).1 (by rw [e]; simp)
    exact .inr ⟨q, hq, hk⟩
theorem KeysK.uniq {K : Kp} {ks ks' : List Sx} (h : KeysK K ks) (h' : KeysK K ks') : ks = ks' := sorted_eqS h.1 h'.1 (fun a => (h.2 a).trans (h'.2 a).symm)
def sumK (K : Kp) (ks : List Sx) : Nat := (ks.map fun x => (K x).length).sum
theorem StR.len_key {l : List Rx} {K : Kp} (s : StR l K) (x : Sx) : (l.filter (fun r => decide (r.key = x))).length = (K x).length := by
  have h1 : ((l.filter (fun r => decide (r.key = x))).map (·.t)).Nodup := by
    have h2 : ApartV (l.filter (fun r => decide (r.key = x))) := s.apart.filter _
    unfold List.Nodup
    rw [List.pairwise_map]
    have h3 : ∀ a ∈ l.filter (fun r => decide (r.key = x)), a.key = x := fun a ha => by simpa using (List.mem_filter.1 ha).2
    exact List.Pairwise.imp_of_mem (fun {a b} ha hb hab e => hab ⟨by rw [h3 a ha, h3 b hb], e⟩) h2
  have h2 : ((K x).map (·.t)).Nodup := by
    unfold List.Nodup
    rw [List.pairwise_map]
    exact (s.sorted x).imp (fun {a b} h e => by omega)
  have h3 := (List.perm_ext_iff_of_nodup h1 h2).2 (fun t => by
    rw [List.mem_map, List.mem_map]
    constructor
    · rintro ⟨r, hr, rfl⟩
      obtain ⟨hr, hk⟩ := List.mem_filter.1 hr
      exact ⟨ofR r, (s.mem x _).2 ⟨r, hr, by simpa using hk, rfl⟩, rfl⟩
    · rintro ⟨v, hv, rfl⟩
      obtain ⟨r, hr, hk, rfl⟩ := (s.mem x v).1 hv
      exact ⟨r, List.mem_filter.2 ⟨hr, by simpa using hk⟩, rfl⟩)
  have := h3.length_eq
  simpa using this
theorem len_by_keys : ∀ (ks : List Sx) (l : List Rx), ks.Nodup → (∀ r ∈ l, r.key ∈ ks) → (ks.map fun x => (l.filter (fun r => decide (r.key = x))).length).sum = l.length
  | [], l, _, h => by
    cases l with
    | nil => rfl
    | cons r l => exact absurd (h r List.mem_cons_self) (by simp)
  | x :: ks, l, hn, h => by
    have hn2 := List.nodup_cons.1 hn
    have ih := len_by_keys ks (l.filter (fun r => !decide (r.key = x))) hn2.2 (fun r hr => by
      obtain ⟨h1, h2⟩ := List.mem_filter.1 hr
      have h3 := h r h1
      simp at h2
      exact (List.mem_cons.1 h3).resolve_left h2)
    rw [List.map_cons, List.sum_cons]
    have e : ks.map (fun y => (l.filter (fun r => decide (r.key = y))).length) = ks.map (fun y => ((l.filter (fun r => !decide (r.key = x))).filter (fun r => decide (r.key = y))).length) := by
      refine List.map_congr_left (fun y hy => ?_)
      rw [List.filter_filter]
      congr 1
      refine List.filter_congr (fun r _ => ?_)
      by_cases e : r.key = y
      · have : ¬ y = x := fun e2 => hn2.1 (e2 ▸ hy)
        simp [e, this]
      · simp [e]
    rw [e, ih]
    have hc : ∀ (m : List Rx), (m.filter (fun r => decide (r.key = x))).length + (m.filter (fun r => !decide (r.key = x))).length = m.length := fun m => by
      induction m with
      | nil => rfl
      | cons a m ih => by_cases e : a.key = x <;> simp [e] at * <;> omega
    exact hc l
theorem StR.many {l : List Rx} {K : Kp} (s : StR l K) {ks : List Sx} (h : KeysK K ks) : sumK K ks = l.length := by
  have hn : ks.Nodup := h.1.imp (fun {a b} h e => by subst e; exact List.lt_irrefl _ h)
  have h2 := len_by_keys ks l hn (fun r hr => (h.2 _).2 (fun e => by
    have := (s.mem r.key (ofR r)).2 ⟨r, hr, rfl, rfl⟩
    rw [e] at this; cases this))
  rw [← h2]
  unfold sumK
  congr 1
  exact List.map_congr_left (fun x _ => (s.len_key x).symm)
/-- What At tells: of each key, in order, what is there. -/
def atK (K : Kp) (ks : List Sx) (t : Int) : List (Sx × Sx) := ks.filterMap fun x => if (tellV (getV (K x) t)).2 then some (x, (tellV (getV (K x) t)).1) else none
def atR (l : List Rx) (t : Int) : List (Sx × Sx) := (keysV l).filterMap fun x => if (tellR (bestR x t l)).2 then some (x, (tellR (bestR x t l)).1) else none
theorem StR.at_ {l : List Rx} {K : Kp} (s : StR l K) {ks : List Sx} (h : KeysK K ks) (t : Int) : atK K ks t = atR l t := by
  rw [h.uniq s.keysK]
  unfold atK atR
  congr 1
  funext x
  rw [s.get x t]
theorem StR.empty : StR [] (fun _ => []) := ⟨List.Pairwise.nil, fun _ => List.Pairwise.nil, fun x v => by simp⟩
end Go.Proofs.YtmgpdkecpobcaaaDoor
