/- locks: the plain side of Table: what Lock and Release do to a table told as functions, and what the document's do to lists; that they agree. -/
namespace Go.Proofs.YtmgpdkecpobcaaaDoor
abbrev Sx := List UInt8
structure Kx where
  h : Int → Option Int
  ws : List (Int × Int)
abbrev Tb := Sx → Option Kx
structure Ak where
  tx : Int
  key : Sx
  mode : Int
deriving DecidableEq
def clash (m mode : Int) : Bool := decide (m = 2) || decide (mode = 2)
def holdK (h : Int → Option Int) (tx : Int) : Int := (h tx).getD 0
def FitsK (h : Int → Option Int) (tx mode : Int) : Prop := ∀ o m, h o = some m → o ≠ tx → clash m mode = false
def behind (ws : List (Int × Int)) (tx mode : Int) : Bool := ws.any fun w => decide (w.1 < tx) && clash w.2 mode
def FreeK (h : Int → Option Int) (tx mode : Int) (ws : List (Int × Int)) : Prop := mode ≤ holdK h tx ∨ (FitsK h tx mode ∧ behind ws tx mode = false)
open Classical in
noncomputable def freeB (h : Int → Option Int) (tx mode : Int) (ws : List (Int × Int)) : Bool := decide (FreeK h tx mode ws)
def setH (h : Int → Option Int) (tx : Int) (v : Option Int) : Int → Option Int := fun o => if o = tx then v else h o
def gainH (h : Int → Option Int) (tx mode : Int) : Int → Option Int := setH h tx (some (max (holdK h tx) mode))
def insW (ws : List (Int × Int)) (w : Int × Int) : List (Int × Int) := ws.takeWhile (fun x => decide (x.1 < w.1)) ++ w :: ws.dropWhile (fun x => decide (x.1 < w.1))
def WoundsP (h : Int → Option Int) (tx mode : Int) (l : List Int) : Prop := l.Pairwise (· < ·) ∧ ∀ o, o ∈ l ↔ (tx < o ∧ ∃ m, h o = some m ∧ clash m mode = true)
noncomputable def regrant : (Int → Option Int) → List (Int × Int) → List (Int × Int) → (Int → Option Int) × List (Int × Int) × List (Int × Int)
  | h, left, [] => (h, left, [])
  | h, left, w :: ws => if freeB h w.1 w.2 left then
      ((regrant (gainH h w.1 w.2) left ws).1, (regrant (gainH h w.1 w.2) left ws).2.1, w :: (regrant (gainH h w.1 w.2) left ws).2.2)
    else regrant h (left ++ [w]) ws
def offW (ws : List (Int × Int)) (tx : Int) : List (Int × Int) := ws.filter fun w => !decide (w.1 = tx)
noncomputable def relK (k : Kx) (tx : Int) : Kx × List (Int × Int) :=
  (⟨(regrant (setH k.h tx none) [] (offW k.ws tx)).1, (regrant (setH k.h tx none) [] (offW k.ws tx)).2.1⟩, (regrant (setH k.h tx none) [] (offW k.ws tx)).2.2)
def EmptyK (k : Kx) : Prop := (∀ o, k.h o = none) ∧ k.ws = []
open Classical in
noncomputable def relO (k : Kx) (tx : Int) : Option Kx := if EmptyK (relK k tx).1 then none else some (relK k tx).1
noncomputable def relT (T : Tb) (tx : Int) : Tb := fun x => (T x).bind fun k => relO k tx
noncomputable def grantsOf (T : Tb) (tx : Int) (x : Sx) : List Ak := match T x with
  | none => []
  | some k => (relK k tx).2.map fun g => ⟨g.1, x, g.2⟩
def KeysP (T : Tb) (ks : List Sx) : Prop := ks.Pairwise (· < ·) ∧ ∀ x, x ∈ ks ↔ T x ≠ none
open Classical in
noncomputable def putT (T : Tb) (x : Sx) (k : Option Kx) : Tb := fun y => if y = x then k else T y
def k0 : Kx := ⟨fun _ => none, []⟩
def atT (T : Tb) (x : Sx) : Kx := (T x).getD k0
/-! sorted lists are told by what they hold -/
theorem sorted_eq {α : Type} {lt : α → α → Prop} (hi : ∀ a, ¬ lt a a) (ht : ∀ a b c, lt a b → lt b c → lt a c) {l m : List α} (hl : l.Pairwise lt) (hm : m.Pairwise lt) (he : ∀ a, a ∈ l ↔ a ∈ m) : l = m := by
  have nd : ∀ {l : List α}, l.Pairwise lt → l.Nodup := fun h => List.Pairwise.imp (R := lt) (by intro a b h e; subst e; exact hi _ h) h
  exact List.Perm.eq_of_pairwise (le := lt) (fun a b _ _ h1 h2 => absurd (ht _ _ _ h1 h2) (hi a)) hl hm ((List.perm_ext_iff_of_nodup (nd hl) (nd hm)).2 he)
theorem sorted_eqI {l m : List Int} (hl : l.Pairwise (· < ·)) (hm : m.Pairwise (· < ·)) (he : ∀ a, a ∈ l ↔ a ∈ m) : l = m :=
  sorted_eq (fun a => Int.lt_irrefl a) (fun _ _ _ h1 h2 => Int.lt_trans h1 h2) hl hm he
theorem sorted_eqS {l m : List Sx} (hl : l.Pairwise (· < ·)) (hm : m.Pairwise (· < ·)) (he : ∀ a, a ∈ l ↔ a ∈ m) : l = m :=
  sorted_eq (fun a => List.lt_irrefl a) (fun _ _ _ h1 h2 => List.lt_trans h1 h2) hl hm he
theorem sorted_eqW {l m : List (Int × Int)} (hl : l.Pairwise (·.1 < ·.1)) (hm : m.Pairwise (·.1 < ·.1)) (he : ∀ a, a ∈ l ↔ a ∈ m) : l = m :=
  sorted_eq (lt := fun a b => a.1 < b.1) (fun a => Int.lt_irrefl _) (fun _ _ _ h1 h2 => Int.lt_trans h1 h2) hl hm he
def sortI (l : List Int) : List Int := l.mergeSort (fun x y => decide (x ≤ y))
def sortS (l : List Sx) : List Sx := l.mergeSort (fun x y => decide (x ≤ y))
theorem sortI_lt {l : List Int} (h : l.Nodup) : (sortI l).Pairwise (· < ·) := by
  have h1 := List.pairwise_mergeSort (le := fun x y : Int => decide (x ≤ y)) (fun _ _ _ h1 h2 => by simp at *; omega) (fun a b => by simp; omega) l
  have h2 : (sortI l).Nodup := ((List.mergeSort_perm l _).nodup_iff).2 h
  exact h1.imp₂ (fun a b h1 (h2 : a ≠ b) => by simp at h1; omega) h2
theorem sortS_lt {l : List Sx} (h : l.Nodup) : (sortS l).Pairwise (· < ·) := by
  have h1 := List.pairwise_mergeSort (le := fun x y : Sx => decide (x ≤ y)) (fun a b c h1 h2 => by simp only [decide_eq_true_eq] at *; exact List.le_trans h1 h2) (fun a b => by simpa using List.le_total a b) l
  have h2 : (sortS l).Nodup := ((List.mergeSort_perm l _).nodup_iff).2 h
  refine h1.imp₂ (fun a b h1 (h2 : a ≠ b) => ?_) h2
  simp only [decide_eq_true_eq] at h1
  exact Classical.byContradiction fun h => h2 (List.le_antisymm h1 (List.not_lt.1 h))
theorem mem_sortI {l : List Int} {a : Int} : a ∈ sortI l ↔ a ∈ l := (List.mergeSort_perm l _).mem_iff
theorem mem_sortS {l : List Sx} {a : Sx} : a ∈ sortS l ↔ a ∈ l := (List.mergeSort_perm l _).mem_iff
theorem sortI_id {l : List Int} (h : l.Pairwise (· < ·)) : sortI l = l := sorted_eqI (sortI_lt (h.imp (fun {a b} h => by omega))) h (fun _ => mem_sortI)
/-! the document's -/
def howR (H : List Ak) (tx : Int) (x : Sx) : Int := match H.find? (fun a => decide (a.tx = tx ∧ a.key = x)) with
  | some a => a.mode
  | none => 0
def inWay (x a : Ak) : Bool := decide (a.key = x.key) && !decide (a.tx = x.tx) && clash a.mode x.mode
def wayR (H : List Ak) (x : Ak) : List Int := sortI ((H.filter (inWay x)).map (·.tx))
def elderB (x a : Ak) : Bool := decide (a.key = x.key) && decide (a.tx < x.tx) && clash a.mode x.mode
def mayR (H W : List Ak) (x : Ak) : Bool := decide (x.mode ≤ howR H x.tx x.key) || (!W.any (elderB x) && (wayR H x).isEmpty)
def hasR : List Ak → Ak → List Ak
  | [], x => [x]
  | a :: H, x => if a.tx = x.tx ∧ a.key = x.key then { a with mode := max a.mode x.mode } :: H else a :: hasR H x
def waitR (W : List Ak) (x : Sx) : List Int := sortI ((W.filter (fun a => decide (a.key = x))).map (·.tx))
def keysR (H W : List Ak) : List Sx := sortS ((H ++ W).foldl (fun l a => if a.key ∈ l then l else l ++ [a.key]) [])
def grant1 (x : Sx) (s : List Ak × List Ak × List Ak) (w : Int) : List Ak × List Ak × List Ak :=
  match s.2.1.find? (fun a => decide (a.tx = w) && decide (a.key = x) && mayR s.1 s.2.1 a) with
  | some a => (hasR s.1 a, s.2.1.filter (fun b => !decide (b = a)), s.2.2 ++ [a])
  | none => s
def grantK (s : List Ak × List Ak × List Ak) (x : Sx) : List Ak × List Ak × List Ak := (waitR s.2.1 x).foldl (grant1 x) s
def offR (l : List Ak) (tx : Int) : List Ak := l.filter fun a => !decide (a.tx = tx)
def releaseR (H W : List Ak) (tx : Int) : List Ak × List Ak × List Ak := (keysR H W).foldl grantK (offR H tx, offR W tx, [])
/-! how the two hang together -/
def Apart (l : List Ak) : Prop := l.Pairwise fun a b => ¬ (a.tx = b.tx ∧ a.key = b.key)
def OkMode (m : Int) : Prop := m = 1 ∨ m = 2
structure KeyR (H W : List Ak) (x : Sx) (h : Int → Option Int) (ws : List (Int × Int)) : Prop where
  hold : ∀ tx m, h tx = some m ↔ (⟨tx, x, m⟩ : Ak) ∈ H
  sorted : ws.Pairwise (·.1 < ·.1)
  wait : ∀ tx m, (tx, m) ∈ ws ↔ (⟨tx, x, m⟩ : Ak) ∈ W
structure LwR (H W : List Ak) : Prop where
  h1 : Apart H
  w1 : Apart W
  hm : ∀ a ∈ H, OkMode a.mode
  wm : ∀ a ∈ W, OkMode a.mode
structure TbR (H W : List Ak) (T : Tb) : Prop where
  lw : LwR H W
  keys : ∀ x, KeyR H W x (atT T x).h (atT T x).ws
  full : ∀ x k, T x = some k → ¬ EmptyK k
  fifty : ∀ x k, T x = some k → k.ws.length ≤ 50
theorem Apart.uniq {l : List Ak} (h : Apart l) {a b : Ak} (ha : a ∈ l) (hb : b ∈ l) (h1 : a.tx = b.tx) (h2 : a.key = b.key) : a = b := by
  induction l with
  | nil => cases ha
  | cons c l ih =>
    unfold Apart at h
    rw [List.pairwise_cons] at h
    rcases List.mem_cons.1 ha with rfl | ha' <;> rcases List.mem_cons.1 hb with rfl | hb'
    · rfl
    · exact absurd ⟨h1, h2⟩ (h.1 b hb')
    · exact absurd ⟨h1.symm, h2.symm⟩ (h.1 a ha')
    · exact ih h.2 ha' hb'
theorem Apart.filter {l : List Ak} (h : Apart l) (p : Ak → Bool) : Apart (l.filter p) := List.Pairwise.filter p h
theorem howR_mem {H : List Ak} (h : Apart H) {tx : Int} {x : Sx} {m : Int} (hm : (⟨tx, x, m⟩ : Ak) ∈ H) : howR H tx x = m := by
  unfold howR
  cases e : H.find? (fun a => decide (a.tx = tx ∧ a.key = x)) with
  | none => have := List.find?_eq_none.1 e _ hm; simp at this
  | some a =>
    have h1 := List.find?_some e
    have h2 := List.mem_of_find?_eq_some e
    simp only [decide_eq_true_eq] at h1
    have := h.uniq h2 hm h1.1 h1.2
    rw [this]
theorem howR_none {H : List Ak} {tx : Int} {x : Sx} (hm : ∀ m, (⟨tx, x, m⟩ : Ak) ∉ H) : howR H tx x = 0 := by
  unfold howR
  cases e : H.find? (fun a => decide (a.tx = tx ∧ a.key = x)) with
  | none => rfl
  | some a =>
    have h1 := List.find?_some e
    have h2 := List.mem_of_find?_eq_some e
    simp only [decide_eq_true_eq] at h1
    obtain ⟨a1, a2, a3⟩ := a
    simp at h1
    obtain ⟨rfl, rfl⟩ := h1
    exact absurd h2 (hm _)
theorem KeyR.how {H W : List Ak} {x : Sx} {h : Int → Option Int} {ws : List (Int × Int)} (r : KeyR H W x h ws) (lw : LwR H W) (tx : Int) : howR H tx x = holdK h tx := by
  unfold holdK
  cases e : h tx with
  | none => exact howR_none (fun m hm => by rw [(r.hold tx m).2 hm] at e; cases e)
  | some m => exact howR_mem lw.h1 ((r.hold tx m).1 e)
theorem way_mem {H W : List Ak} {x : Ak} {h : Int → Option Int} {ws : List (Int × Int)} (r : KeyR H W x.key h ws) (o : Int) : o ∈ wayR H x ↔ o ≠ x.tx ∧ ∃ m, h o = some m ∧ clash m x.mode = true := by
  unfold wayR
  rw [mem_sortI, List.mem_map]
  constructor
  · rintro ⟨a, ha, rfl⟩
    obtain ⟨ha, hp⟩ := List.mem_filter.1 ha
    simp only [inWay, Bool.and_eq_true, decide_eq_true_eq, Bool.not_eq_true', decide_eq_false_iff_not] at hp
    obtain ⟨⟨h1, h2⟩, h3⟩ := hp
    obtain ⟨a1, a2, a3⟩ := a
    simp only at h1 h2 h3
    subst h1
    exact ⟨h2, a3, (r.hold _ _).2 ha, h3⟩
  · rintro ⟨h1, m, h2, h3⟩
    refine ⟨⟨o, x.key, m⟩, List.mem_filter.2 ⟨(r.hold _ _).1 h2, ?_⟩, rfl⟩
    simp [inWay, h1, h3]
theorem way_sorted {H W : List Ak} (lw : LwR H W) (x : Ak) : (wayR H x).Pairwise (· < ·) := by
  refine sortI_lt ?_
  have h2 : Apart (H.filter (inWay x)) := lw.h1.filter _
  unfold List.Nodup
  rw [List.pairwise_map]
  have h3 : ∀ a ∈ H.filter (inWay x), a.key = x.key := fun a ha => by
    obtain ⟨_, hp⟩ := List.mem_filter.1 ha
    simp only [inWay, Bool.and_eq_true, decide_eq_true_eq] at hp
    exact hp.1.1
  exact h2.imp_of_mem (fun {a b} ha hb hab e => hab ⟨e, by rw [h3 a ha, h3 b hb]⟩)
theorem freeB_true {h : Int → Option Int} {tx mode : Int} {ws : List (Int × Int)} : freeB h tx mode ws = true ↔ FreeK h tx mode ws := by classical (unfold freeB; exact decide_eq_true_iff)
theorem freeB_false {h : Int → Option Int} {tx mode : Int} {ws : List (Int × Int)} : freeB h tx mode ws = false ↔ ¬ FreeK h tx mode ws := by classical (unfold freeB; exact decide_eq_false_iff_not)
theorem KeyR.may {H W : List Ak} {x : Ak} {h : Int → Option Int} {ws : List (Int × Int)} (r : KeyR H W x.key h ws) (lw : LwR H W) : mayR H W x = freeB h x.tx x.mode ws := by
  unfold mayR
  rw [r.how lw, Bool.eq_iff_iff, freeB_true]
  simp only [Bool.or_eq_true, decide_eq_true_eq, Bool.and_eq_true, Bool.not_eq_true', List.any_eq_false, List.isEmpty_iff, FreeK]
  have e1 : (∀ a ∈ W, ¬ elderB x a = true) ↔ behind ws x.tx x.mode = false := by
    simp only [behind, List.any_eq_false]
    constructor
    · intro h1 w hw hp
      simp only [Bool.and_eq_true, decide_eq_true_eq] at hp
      exact h1 ⟨w.1, x.key, w.2⟩ ((r.wait _ _).1 hw) (by simp [elderB, hp.1, hp.2])
    · intro h1 a ha hp
      simp only [elderB, Bool.and_eq_true, decide_eq_true_eq] at hp
      obtain ⟨a1, a2, a3⟩ := a
      obtain ⟨⟨h2, h3⟩, h4⟩ := hp
      simp only at h2 h3 h4
      subst h2
      exact h1 (a1, a3) ((r.wait _ _).2 ha) (by simp [h3, h4])
  have e2 : wayR H x = [] ↔ FitsK h x.tx x.mode := by
    constructor
    · intro h1 o m hm ho
      cases hc : clash m x.mode with
      | false => rfl
      | true => have := (way_mem r o).2 ⟨ho, m, hm, hc⟩; rw [h1] at this; cases this
    · intro h1
      refine List.eq_nil_iff_forall_not_mem.2 (fun o ho => ?_)
      obtain ⟨h2, m, h3, h4⟩ := (way_mem r o).1 ho
      rw [h1 o m h3 h2] at h4; cases h4
  rw [e1, e2]
  constructor
  · rintro (h | ⟨h, k⟩)
    · exact .inl h
    · exact .inr ⟨k, h⟩
  · rintro (h | ⟨h, k⟩)
    · exact .inl h
    · exact .inr ⟨k, h⟩
theorem hasR_mem {H : List Ak} (hA : Apart H) (x : Ak) (hx : OkMode x.mode) (hH : ∀ a ∈ H, OkMode a.mode) (b : Ak) :
    b ∈ hasR H x ↔ (b.tx = x.tx ∧ b.key = x.key ∧ b.mode = max (howR H x.tx x.key) x.mode) ∨ (¬ (b.tx = x.tx ∧ b.key = x.key) ∧ b ∈ H) := by
  induction H with
  | nil =>
    have : max (howR [] x.tx x.key) x.mode = x.mode := by unfold OkMode at hx; simp [howR]; omega
    rw [this]
    simp only [hasR, List.mem_singleton, List.not_mem_nil, and_false, or_false]
    constructor
    · rintro rfl; exact ⟨rfl, rfl, rfl⟩
    · rintro ⟨h1, h2, h3⟩; cases b; cases x; simp_all
  | cons a H ih =>
    unfold Apart at hA
    rw [List.pairwise_cons] at hA
    by_cases e : a.tx = x.tx ∧ a.key = x.key
    · have e1 : howR (a :: H) x.tx x.key = a.mode := by simp [howR, e.1, e.2]
      rw [e1]
      simp only [hasR, if_pos e, List.mem_cons]
      constructor
      · rintro (rfl | h)
        · exact .inl ⟨e.1, e.2, rfl⟩
        · exact .inr ⟨fun h2 => hA.1 b h ⟨e.1.trans h2.1.symm, e.2.trans h2.2.symm⟩, .inr h⟩
      · rintro (⟨h1, h2, h3⟩ | ⟨h1, rfl | h2⟩)
        · left; obtain ⟨b1, b2, b3⟩ := b; obtain ⟨a1, a2, a3⟩ := a; simp_all
        · exact absurd e h1
        · exact .inr h2
    · have e1 : howR (a :: H) x.tx x.key = howR H x.tx x.key := by simp [howR, e]
      rw [e1]
      simp only [hasR, if_neg e, List.mem_cons, ih hA.2 (fun a h => hH a (List.mem_cons_of_mem _ h))]
      constructor
      · rintro (rfl | h | h)
        · exact .inr ⟨e, .inl rfl⟩
        · exact .inl h
        · exact .inr ⟨h.1, .inr h.2⟩
      · rintro (h | ⟨h1, rfl | h2⟩)
        · exact .inr (.inl h)
        · exact .inl rfl
        · exact .inr (.inr ⟨h1, h2⟩)
theorem howR_ok {H : List Ak} (hH : ∀ a ∈ H, OkMode a.mode) (tx : Int) (x : Sx) : howR H tx x = 0 ∨ OkMode (howR H tx x) := by
  unfold howR
  cases e : H.find? (fun a => decide (a.tx = tx ∧ a.key = x)) with
  | none => exact .inl rfl
  | some a => exact .inr (hH a (List.mem_of_find?_eq_some e))
theorem hasR_apart {H : List Ak} (hA : Apart H) (x : Ak) : Apart (hasR H x) := by
  induction H with
  | nil => exact List.pairwise_singleton _ _
  | cons a H ih =>
    unfold Apart at hA
    rw [List.pairwise_cons] at hA
    by_cases e : a.tx = x.tx ∧ a.key = x.key
    · simp only [hasR, if_pos e]
      exact List.pairwise_cons.2 ⟨fun b hb => hA.1 b hb, hA.2⟩
    · simp only [hasR, if_neg e]
      refine List.pairwise_cons.2 ⟨fun b hb => ?_, ih hA.2⟩
      have : ∀ (H : List Ak), b ∈ hasR H x → b ∈ H ∨ (b.tx = x.tx ∧ b.key = x.key) := fun H => by
        induction H with
        | nil => intro hb; simp [hasR] at hb; subst hb; exact .inr ⟨rfl, rfl⟩
        | cons c H ih =>
          intro hb
          simp only [hasR] at hb
          split at hb
          · rename_i e
            rcases List.mem_cons.1 hb with rfl | h
            · exact .inr e
            · exact .inl (List.mem_cons_of_mem _ h)
          · rcases List.mem_cons.1 hb with rfl | h
            · exact .inl List.mem_cons_self
            · rcases ih h with h | h
              · exact .inl (List.mem_cons_of_mem _ h)
              · exact .inr h
      rcases this H hb with h | h
      · exact hA.1 b h
      · exact fun h2 => e ⟨h2.1.trans h.1, h2.2.trans h.2⟩
/-- A holder more. -/
theorem LwR.has {H W : List Ak} (lw : LwR H W) (x : Ak) (hx : OkMode x.mode) : LwR (hasR H x) W := by
  refine ⟨hasR_apart lw.h1 x, lw.w1, fun a ha => ?_, lw.wm⟩
  rcases (hasR_mem lw.h1 x hx lw.hm a).1 ha with ⟨_, _, h⟩ | ⟨_, h⟩
  · rw [h]
    rcases howR_ok lw.hm x.tx x.key with h | h
    · rw [h]; unfold OkMode at *; omega
    · unfold OkMode at *; omega
  · exact lw.hm a h
theorem KeyR.has {H W : List Ak} {x : Ak} {h : Int → Option Int} {ws : List (Int × Int)} (r : KeyR H W x.key h ws) (lw : LwR H W) (hx : OkMode x.mode) : KeyR (hasR H x) W x.key (gainH h x.tx x.mode) ws := by
  refine ⟨fun tx m => ?_, r.sorted, r.wait⟩
  rw [hasR_mem lw.h1 x hx lw.hm, r.how lw]
  unfold gainH setH
  by_cases e : tx = x.tx
  · subst e
    simp only [if_true, Option.some.injEq, true_and, not_true, false_and, or_false]
    constructor <;> exact fun h => h.symm
  · simp only [if_neg e, e, false_and, not_false_eq_true, true_and, false_or]
    exact r.hold tx m
theorem KeyR.hasOther {H W : List Ak} {x : Ak} {y : Sx} {h : Int → Option Int} {ws : List (Int × Int)} (r : KeyR H W y h ws) (lw : LwR H W) (hx : OkMode x.mode) (hy : y ≠ x.key) : KeyR (hasR H x) W y h ws := by
  refine ⟨fun tx m => ?_, r.sorted, r.wait⟩
  rw [hasR_mem lw.h1 x hx lw.hm]
  simp only [hy, and_false, false_and, not_false_eq_true, true_and, false_or]
  exact r.hold tx m
/-! waiting -/
theorem wait_eq {H W : List Ak} {x : Sx} {h : Int → Option Int} {ws : List (Int × Int)} (r : KeyR H W x h ws) (lw : LwR H W) : waitR W x = ws.map (·.1) := by
  refine sorted_eqI (sortI_lt ?_) (by rw [List.pairwise_map]; exact r.sorted) (fun a => ?_)
  · have h2 : Apart (W.filter (fun a => decide (a.key = x))) := lw.w1.filter _
    unfold List.Nodup
    rw [List.pairwise_map]
    have h3 : ∀ a ∈ W.filter (fun a => decide (a.key = x)), a.key = x := fun a ha => by simpa using (List.mem_filter.1 ha).2
    exact h2.imp_of_mem (fun {a b} ha hb hab e => hab ⟨e, by rw [h3 a ha, h3 b hb]⟩)
  · unfold waitR
    rw [mem_sortI, List.mem_map, List.mem_map]
    constructor
    · rintro ⟨b, hb, rfl⟩
      obtain ⟨hb1, he⟩ := List.mem_filter.1 hb
      simp only [decide_eq_true_eq] at he
      clear hb
      obtain ⟨b1, b2, b3⟩ := b
      subst he
      exact ⟨(b1, b3), (r.wait _ _).2 hb1, rfl⟩
    · rintro ⟨⟨b1, b2⟩, hb, rfl⟩
      exact ⟨⟨b1, x, b2⟩, List.mem_filter.2 ⟨(r.wait _ _).1 hb, by simp⟩, rfl⟩
theorem behind_left {left rest : List (Int × Int)} {w : Int × Int} (hs : (left ++ w :: rest).Pairwise (·.1 < ·.1)) : behind (left ++ w :: rest) w.1 w.2 = behind left w.1 w.2 := by
  unfold behind
  rw [List.any_append]
  have : (w :: rest).any (fun v => decide (v.1 < w.1) && clash v.2 w.2) = false := by
    rw [List.any_eq_false]
    intro v hv
    have h2 := (List.pairwise_append.1 hs).2.1
    rw [List.pairwise_cons] at h2
    rcases List.mem_cons.1 hv with rfl | h
    · simp
    · have := h2.1 v h
      simp; omega
  rw [this, Bool.or_false]
theorem free_left {h : Int → Option Int} {left rest : List (Int × Int)} {w : Int × Int} (hs : (left ++ w :: rest).Pairwise (·.1 < ·.1)) : freeB h w.1 w.2 (left ++ w :: rest) = freeB h w.1 w.2 left := by
  rw [Bool.eq_iff_iff, freeB_true, freeB_true]
  unfold FreeK
  rw [behind_left hs]
/-- One that waits is looked at. -/
theorem grant1_eq {H W out : List Ak} {x : Sx} {h : Int → Option Int} {left rest : List (Int × Int)} {w : Int × Int} (lw : LwR H W) (r : KeyR H W x h (left ++ w :: rest)) :
    grant1 x (H, W, out) w.1 = if freeB h w.1 w.2 left then (hasR H ⟨w.1, x, w.2⟩, W.filter (fun b => !decide (b = ⟨w.1, x, w.2⟩)), out ++ [⟨w.1, x, w.2⟩]) else (H, W, out) := by
  have hw : (⟨w.1, x, w.2⟩ : Ak) ∈ W := (r.wait w.1 w.2).1 (by simp)
  have hm : mayR H W ⟨w.1, x, w.2⟩ = freeB h w.1 w.2 left := by
    have h1 := KeyR.may (x := ⟨w.1, x, w.2⟩) r lw
    rw [h1]
    exact free_left r.sorted
  unfold grant1
  simp only
  cases e : W.find? (fun a => decide (a.tx = w.1) && decide (a.key = x) && mayR H W a) with
  | none =>
    have h2 := List.find?_eq_none.1 e _ hw
    rw [hm] at h2
    simp only [decide_true, Bool.true_and, Bool.not_eq_true] at h2
    rw [h2]; rfl
  | some a =>
    have h1 := List.find?_some e
    have h2 := List.mem_of_find?_eq_some e
    simp only [Bool.and_eq_true, decide_eq_true_eq] at h1
    have ha := lw.w1.uniq h2 hw h1.1.1 h1.1.2
    subst ha
    rw [hm] at h1
    rw [h1.2]; rfl
theorem LwR.waits {H W W' : List Ak} (lw : LwR H W) (p : Ak → Bool) (e : W' = W.filter p) : LwR H W' := by
  subst e
  exact ⟨lw.h1, lw.w1.filter _, lw.hm, fun a ha => lw.wm a (List.mem_filter.1 ha).1⟩
/-- A key's waiting ones, looked at one behind the other. -/
theorem grants_eq {x : Sx} (Keep : Sx → (Int → Option Int) → List (Int × Int) → Prop) : ∀ (rest left : List (Int × Int)) (h : Int → Option Int) (H W out : List Ak), LwR H W → KeyR H W x h (left ++ rest) → (∀ y h ws, y ≠ x → Keep y h ws → KeyR H W y h ws) →
    ∃ H' W', (rest.map (·.1)).foldl (grant1 x) (H, W, out) = (H', W', out ++ (regrant h left rest).2.2.map (fun g => ⟨g.1, x, g.2⟩)) ∧ LwR H' W' ∧ KeyR H' W' x (regrant h left rest).1 (regrant h left rest).2.1 ∧ (∀ y h ws, y ≠ x → Keep y h ws → KeyR H' W' y h ws)
  | [], left, h, H, W, out, lw, r, hk => ⟨H, W, by simp [regrant], lw, by simpa [regrant] using r, hk⟩
  | w :: rest, left, h, H, W, out, lw, r, hk => by
    rw [List.map_cons, List.foldl_cons, grant1_eq lw r]
    unfold regrant
    have hw : (⟨w.1, x, w.2⟩ : Ak) ∈ W := (r.wait w.1 w.2).1 (by simp)
    by_cases e : freeB h w.1 w.2 left = true
    · rw [if_pos e, if_pos e]
      have hx : OkMode (⟨w.1, x, w.2⟩ : Ak).mode := lw.wm _ hw
      have lw2 := lw.has ⟨w.1, x, w.2⟩ hx
      have r2 := KeyR.has (x := ⟨w.1, x, w.2⟩) r lw hx
      have lw3 : LwR (hasR H ⟨w.1, x, w.2⟩) (W.filter (fun b => !decide (b = ⟨w.1, x, w.2⟩))) := lw2.waits _ rfl
      have r3 : KeyR (hasR H ⟨w.1, x, w.2⟩) (W.filter (fun b => !decide (b = ⟨w.1, x, w.2⟩))) x (gainH h w.1 w.2) (left ++ rest) := by
        have hs := r.sorted
        refine ⟨r2.hold, hs.sublist (by simp), fun tx m => ?_⟩
        rw [List.mem_filter, ← r.wait tx m]
        simp only [List.mem_append, List.mem_cons, Bool.not_eq_true', decide_eq_false_iff_not, Ak.mk.injEq, true_and]
        rw [List.pairwise_append, List.pairwise_cons] at hs
        constructor
        · rintro (h1 | h1)
          · have := hs.2.2 _ h1 w (by simp)
            refine ⟨.inl h1, fun h2 => ?_⟩
            have := h2.1
            simp at *
            omega
          · have := hs.2.1.1 _ h1
            refine ⟨.inr (.inr h1), fun h2 => ?_⟩
            have := h2.1
            simp at *
            omega
        · rintro ⟨h1 | h1 | h1, h2⟩
          · exact .inl h1
          · exact absurd ⟨by rw [← h1], by rw [← h1]⟩ h2
          · exact .inr h1
      have hk3 : ∀ y h ws, y ≠ x → Keep y h ws → KeyR (hasR H ⟨w.1, x, w.2⟩) (W.filter (fun b => !decide (b = ⟨w.1, x, w.2⟩))) y h ws := fun y h ws hy hp => by
        have r4 := KeyR.hasOther (x := ⟨w.1, x, w.2⟩) (hk y h ws hy hp) lw hx hy
        refine ⟨r4.hold, r4.sorted, fun tx m => ?_⟩
        rw [List.mem_filter, ← r4.wait tx m]
        simp [hy]
      obtain ⟨H', W', h1, h2, h3, h4⟩ := grants_eq Keep rest left (gainH h w.1 w.2) _ _ (out ++ [⟨w.1, x, w.2⟩]) lw3 r3 hk3
      exact ⟨H', W', by rw [h1]; simp, h2, h3, h4⟩
    · rw [if_neg e, if_neg e]
      exact grants_eq Keep rest (left ++ [w]) h H W out lw (by simpa using r) hk
/-! Release -/
theorem keysR_fold : ∀ (l : List Ak) (s : List Sx), s.Nodup → (l.foldl (fun l a => if a.key ∈ l then l else l ++ [a.key]) s).Nodup ∧ ∀ x, x ∈ l.foldl (fun l a => if a.key ∈ l then l else l ++ [a.key]) s ↔ x ∈ s ∨ ∃ a ∈ l, a.key = x
  | [], s, hs => ⟨hs, fun x => by simp⟩
  | a :: l, s, hs => by
    rw [List.foldl_cons]
    by_cases e : a.key ∈ s
    · rw [if_pos e]
      obtain ⟨h1, h2⟩ := keysR_fold l s hs
      refine ⟨h1, fun x => (h2 x).trans ⟨?_, ?_⟩⟩
      · rintro (h | ⟨b, hb, rfl⟩)
        · exact .inl h
        · exact .inr ⟨b, List.mem_cons_of_mem _ hb, rfl⟩
      · rintro (h | ⟨b, hb, rfl⟩)
        · exact .inl h
        · rcases List.mem_cons.1 hb with rfl | hb
          · exact .inl e
          · exact .inr ⟨b, hb, rfl⟩
    · rw [if_neg e]
      obtain ⟨h1, h2⟩ := keysR_fold l (s ++ [a.key]) (List.nodup_append.2 ⟨hs, List.nodup_cons.2 ⟨by simp, List.nodup_nil⟩, fun x hx y hy => by
        rw [List.mem_singleton] at hy; subst hy; rintro rfl; exact e hx⟩)
      refine ⟨h1, fun x => (h2 x).trans ⟨?_, ?_⟩⟩
      · rintro (h | ⟨b, hb, rfl⟩)
        · rcases List.mem_append.1 h with h | h
          · exact .inl h
          · rw [List.mem_singleton] at h; exact .inr ⟨a, List.mem_cons_self, h.symm⟩
        · exact .inr ⟨b, List.mem_cons_of_mem _ hb, rfl⟩
      · rintro (h | ⟨b, hb, rfl⟩)
        · exact .inl (List.mem_append.2 (.inl h))
        · rcases List.mem_cons.1 hb with rfl | hb
          · exact .inl (List.mem_append.2 (.inr (by simp)))
          · exact .inr ⟨b, hb, rfl⟩
theorem keysR_lt (H W : List Ak) : (keysR H W).Pairwise (· < ·) := sortS_lt (keysR_fold (H ++ W) [] List.nodup_nil).1
theorem mem_keysR {H W : List Ak} {x : Sx} : x ∈ keysR H W ↔ ∃ a ∈ H ++ W, a.key = x := by
  unfold keysR
  rw [mem_sortS, (keysR_fold (H ++ W) [] List.nodup_nil).2 x]
  simp
theorem TbR.keysP {H W : List Ak} {T : Tb} (r : TbR H W T) : KeysP T (keysR H W) := by
  refine ⟨keysR_lt H W, fun x => mem_keysR.trans ?_⟩
  have rk := r.keys x
  cases e : T x with
  | none =>
    have e2 : atT T x = k0 := by simp [atT, e]
    rw [e2] at rk
    refine iff_of_false ?_ (by simp)
    rintro ⟨⟨a1, a2, a3⟩, ha, rfl⟩
    rcases List.mem_append.1 ha with h | h
    · have := (rk.hold a1 a3).2 h; cases this
    · have := (rk.wait a1 a3).2 h; cases this
  | some k =>
    have e2 : atT T x = k := by simp [atT, e]
    rw [e2] at rk
    refine iff_of_true ?_ (by simp)
    have hf := r.full x k e
    unfold EmptyK at hf
    by_cases hw : k.ws = []
    · have : ¬ ∀ o, k.h o = none := fun h => hf ⟨h, hw⟩
      obtain ⟨o, ho⟩ := Classical.not_forall.1 this
      cases hm : k.h o with
      | none => exact absurd hm ho
      | some m => exact ⟨⟨o, x, m⟩, List.mem_append.2 (.inl ((rk.hold o m).1 hm)), rfl⟩
    · obtain ⟨⟨o, m⟩, l, hl⟩ := List.exists_cons_of_ne_nil hw
      exact ⟨⟨o, x, m⟩, List.mem_append.2 (.inr ((rk.wait o m).1 (by rw [hl]; simp))), rfl⟩
theorem KeysP.uniq {T : Tb} {ks ks' : List Sx} (h : KeysP T ks) (h' : KeysP T ks') : ks = ks' := sorted_eqS h.1 h'.1 (fun a => (h.2 a).trans (h'.2 a).symm)
theorem offW_sorted {ws : List (Int × Int)} (h : ws.Pairwise (·.1 < ·.1)) (tx : Int) : (offW ws tx).Pairwise (·.1 < ·.1) := List.Pairwise.filter _ h
theorem KeyR.off {H W : List Ak} {x : Sx} {h : Int → Option Int} {ws : List (Int × Int)} (r : KeyR H W x h ws) (tx : Int) : KeyR (offR H tx) (offR W tx) x (setH h tx none) (offW ws tx) := by
  refine ⟨fun o m => ?_, offW_sorted r.sorted tx, fun o m => ?_⟩
  · unfold offR setH
    rw [List.mem_filter, ← r.hold]
    by_cases e : o = tx <;> simp [e]
  · unfold offR offW
    rw [List.mem_filter, List.mem_filter, ← r.wait]
theorem LwR.off {H W : List Ak} (lw : LwR H W) (tx : Int) : LwR (offR H tx) (offR W tx) :=
  ⟨lw.h1.filter _, lw.w1.filter _, fun a ha => lw.hm a (List.mem_filter.1 ha).1, fun a ha => lw.wm a (List.mem_filter.1 ha).1⟩
theorem regrant_len : ∀ (ws left : List (Int × Int)) (h : Int → Option Int), (regrant h left ws).2.1.length ≤ left.length + ws.length
  | [], left, h => by simp [regrant]
  | w :: ws, left, h => by
    unfold regrant
    split
    · have := regrant_len ws left (gainH h w.1 w.2); simp; omega
    · have := regrant_len ws (left ++ [w]) h; simp at *; omega
theorem regrant_nil (h : Int → Option Int) (left : List (Int × Int)) : regrant h left [] = (h, left, []) := by simp [regrant]
/-- Keys behind one another. -/
theorem keys_fold (T : Tb) (tx : Int) : ∀ (ks : List Sx) (done : List Sx) (H W out : List Ak), (done ++ ks).Nodup → LwR H W →
    (∀ x, KeyR H W x (if x ∈ done then (relK (atT T x) tx).1.h else setH (atT T x).h tx none) (if x ∈ done then (relK (atT T x) tx).1.ws else offW (atT T x).ws tx)) →
    ∃ H' W', ks.foldl grantK (H, W, out) = (H', W', out ++ ks.flatMap (fun x => (relK (atT T x) tx).2.map fun g => ⟨g.1, x, g.2⟩)) ∧ LwR H' W' ∧
      (∀ x, KeyR H' W' x (if x ∈ done ++ ks then (relK (atT T x) tx).1.h else setH (atT T x).h tx none) (if x ∈ done ++ ks then (relK (atT T x) tx).1.ws else offW (atT T x).ws tx))
  | [], done, H, W, out, _, lw, r => ⟨H, W, by simp, lw, by simpa using r⟩
  | x :: ks, done, H, W, out, hn, lw, r => by
    rw [List.foldl_cons]
    have hxd : x ∉ done := fun h => (List.nodup_append.1 hn).2.2 x h x (by simp) rfl
    have rx := r x
    rw [if_neg hxd, if_neg hxd] at rx
    obtain ⟨H', W', h1, h2, h3, h4⟩ := grants_eq (x := x) (fun y h ws => h = (if y ∈ done then (relK (atT T y) tx).1.h else setH (atT T y).h tx none) ∧ ws = (if y ∈ done then (relK (atT T y) tx).1.ws else offW (atT T y).ws tx))
      (offW (atT T x).ws tx) [] (setH (atT T x).h tx none) H W out lw (by simpa using rx) (fun y h ws _ hp => by rw [hp.1, hp.2]; exact r y)
    have e : grantK (H, W, out) x = (H', W', out ++ (relK (atT T x) tx).2.map (fun g => ⟨g.1, x, g.2⟩)) := by
      unfold grantK
      simp only
      rw [wait_eq rx lw, h1]
      rfl
    rw [e]
    have hr : ∀ y, KeyR H' W' y (if y ∈ done ++ [x] then (relK (atT T y) tx).1.h else setH (atT T y).h tx none) (if y ∈ done ++ [x] then (relK (atT T y) tx).1.ws else offW (atT T y).ws tx) := fun y => by
      by_cases e : y = x
      · subst e
        rw [if_pos (by simp), if_pos (by simp)]
        exact h3
      · have := h4 y _ _ e ⟨rfl, rfl⟩
        simpa [e] using this
    obtain ⟨H2, W2, g1, g2, g3⟩ := keys_fold T tx ks (done ++ [x]) H' W' (out ++ (relK (atT T x) tx).2.map (fun g => ⟨g.1, x, g.2⟩)) (by simpa using hn) h2 hr
    exact ⟨H2, W2, by rw [g1]; simp, g2, by simpa using g3⟩
theorem relK0 (tx : Int) : (relK k0 tx).1.h = (fun _ => none) ∧ (relK k0 tx).1.ws = [] := by
  have e : setH (fun _ => none) tx none = fun _ => none := by funext o; unfold setH; split <;> rfl
  unfold relK k0
  simp [offW, regrant_nil, e]
/-- Release: what is told, and what is left, are the document's. -/
theorem TbR.release {H W : List Ak} {T : Tb} (r : TbR H W T) (tx : Int) :
    (releaseR H W tx).2.2 = (keysR H W).flatMap (grantsOf T tx) ∧ TbR (releaseR H W tx).1 (releaseR H W tx).2.1 (relT T tx) := by
  have hks := r.keysP
  obtain ⟨H', W', h1, h2, h3⟩ := keys_fold T tx (keysR H W) [] (offR H tx) (offR W tx) [] (by rw [List.nil_append]; exact (keysR_lt H W).imp (fun {a b} h e => by subst e; exact List.lt_irrefl _ h)) (r.lw.off tx) (fun x => by simpa using (r.keys x).off tx)
  have e : releaseR H W tx = (H', W', (keysR H W).flatMap (fun x => (relK (atT T x) tx).2.map fun g => ⟨g.1, x, g.2⟩)) := by
    unfold releaseR; rw [h1]; simp
  rw [e]
  refine ⟨?_, ⟨h2, fun x => ?_, fun x k hk => ?_, fun x k hk => ?_⟩⟩
  · simp only
    rw [List.flatMap_def, List.flatMap_def]
    refine congrArg _ (List.map_congr_left (fun x hx => ?_))
    obtain ⟨k, hk⟩ := Option.ne_none_iff_exists'.1 ((hks.2 x).1 hx)
    simp [grantsOf, atT, hk]
  · have h4 := h3 x
    simp only [List.nil_append] at h4
    by_cases hx : x ∈ keysR H W
    · rw [if_pos hx, if_pos hx] at h4
      obtain ⟨k, hk⟩ := Option.ne_none_iff_exists'.1 ((hks.2 x).1 hx)
      have ea : atT T x = k := by simp [atT, hk]
      rw [ea] at h4
      by_cases he : EmptyK (relK k tx).1
      · have ea2 : atT (relT T tx) x = k0 := by simp [atT, relT, relO, hk, he]
        rw [ea2]
        have e1 : (relK k tx).1.h = fun _ => none := funext he.1
        rw [e1, he.2] at h4
        exact h4
      · have ea2 : atT (relT T tx) x = (relK k tx).1 := by simp [atT, relT, relO, hk, he]
        rw [ea2]
        exact h4
    · rw [if_neg hx, if_neg hx] at h4
      have hk : T x = none := Classical.byContradiction fun h => hx ((hks.2 x).2 h)
      have ea : atT T x = k0 := by simp [atT, hk]
      have ea2 : atT (relT T tx) x = k0 := by simp [atT, relT, hk]
      rw [ea] at h4
      rw [ea2]
      have e1 : setH k0.h tx none = fun _ => none := by funext o; unfold setH; split <;> rfl
      rw [e1] at h4
      exact h4
  · unfold relT at hk
    cases hT : T x with
    | none => rw [hT] at hk; cases hk
    | some k1 =>
      rw [hT] at hk
      simp only [Option.bind_some, relO] at hk
      split at hk
      · cases hk
      · rename_i hne; injection hk with hk; rw [← hk]; exact hne
  · unfold relT at hk
    cases hT : T x with
    | none => rw [hT] at hk; cases hk
    | some k1 =>
      rw [hT] at hk
      simp only [Option.bind_some, relO] at hk
      split at hk
      · cases hk
      · injection hk with hk
        rw [← hk]
        have h5 := regrant_len (offW k1.ws tx) [] (setH k1.h tx none)
        have h6 := r.fifty x k1 hT
        have h7 : (offW k1.ws tx).length ≤ k1.ws.length := List.length_filter_le _ _
        simp only [relK]
        simp at h5
        omega
/-! Lock -/
inductive LockE where
  | bad (e : Int)
  | got
  | waits (l : List Int)
def outR (H : List Ak) (x : Ak) : List Int := (wayR H x).filter fun o => decide (x.tx < o)
def waitsB (ws : List (Int × Int)) (tx : Int) : Bool := ws.any fun w => decide (w.1 = tx)
/-- What Lock tells, and what becomes of the table. -/
inductive LockP (T : Tb) (x : Ak) : Bool → List Int → Int → Tb → Prop where
  | arg (h : ¬ OkMode x.mode) : LockP T x false [] 1 T
  | long (h : OkMode x.mode) (hl : 20 < x.key.length) : LockP T x false [] 4 T
  | twice (h : OkMode x.mode) (hl : x.key.length ≤ 20) (hw : waitsB (atT T x.key).ws x.tx = true) : LockP T x false [] 9 T
  | got (h : OkMode x.mode) (hl : x.key.length ≤ 20) (hw : waitsB (atT T x.key).ws x.tx = false) (hf : freeB (atT T x.key).h x.tx x.mode (atT T x.key).ws = true) :
      LockP T x true [] 0 (putT T x.key (some ⟨gainH (atT T x.key).h x.tx x.mode, (atT T x.key).ws⟩))
  | full (h : OkMode x.mode) (hl : x.key.length ≤ 20) (hw : waitsB (atT T x.key).ws x.tx = false) (hf : freeB (atT T x.key).h x.tx x.mode (atT T x.key).ws = false) (h50 : (atT T x.key).ws.length = 50) : LockP T x false [] 4 T
  | waits (h : OkMode x.mode) (hl : x.key.length ≤ 20) (hw : waitsB (atT T x.key).ws x.tx = false) (hf : freeB (atT T x.key).h x.tx x.mode (atT T x.key).ws = false) (h50 : (atT T x.key).ws.length ≠ 50)
      {l : List Int} (hl : WoundsP (atT T x.key).h x.tx x.mode l) : LockP T x false l 0 (putT T x.key (some ⟨(atT T x.key).h, insW (atT T x.key).ws (x.tx, x.mode)⟩))
def lockR (H W : List Ak) (x : Ak) : Bool × List Int × Int × List Ak × List Ak :=
  if ¬ (x.mode = 1 ∨ x.mode = 2) then (false, [], 1, H, W)
  else if 20 < x.key.length then (false, [], 4, H, W)
  else if W.any (fun a => decide (a.tx = x.tx) && decide (a.key = x.key)) then (false, [], 9, H, W)
  else if mayR H W x then (true, [], 0, hasR H x, W)
  else if 50 ≤ (waitR W x.key).length then (false, [], 4, H, W)
  else (false, outR H x, 0, H, W ++ [x])
theorem free_k0 (tx mode : Int) : freeB k0.h tx mode k0.ws = true := freeB_true.2 (.inr ⟨fun _ _ h => (by cases h), rfl⟩)
theorem atT_put (T : Tb) (x y : Sx) (k : Kx) : atT (putT T x (some k)) y = if y = x then k else atT T y := by
  unfold atT putT
  split <;> rfl
theorem insW_mem {ws : List (Int × Int)} {w v : Int × Int} : v ∈ insW ws w ↔ v = w ∨ v ∈ ws := by
  unfold insW
  have : v ∈ ws ↔ v ∈ ws.takeWhile (fun x => decide (x.1 < w.1)) ∨ v ∈ ws.dropWhile (fun x => decide (x.1 < w.1)) := by
    rw [← List.mem_append, List.takeWhile_append_dropWhile]
  rw [this, List.mem_append, List.mem_cons]
  constructor
  · rintro (h | h | h)
    · exact .inr (.inl h)
    · exact .inl h
    · exact .inr (.inr h)
  · rintro (h | h | h)
    · exact .inr (.inl h)
    · exact .inl h
    · exact .inr (.inr h)
theorem insW_sorted {w : Int × Int} : ∀ {ws : List (Int × Int)}, ws.Pairwise (·.1 < ·.1) → (∀ v ∈ ws, v.1 ≠ w.1) → (insW ws w).Pairwise (·.1 < ·.1)
  | [], _, _ => by simp [insW]
  | v :: ws, h, hn => by
    rw [List.pairwise_cons] at h
    have ih := insW_sorted h.2 (fun u hu => hn u (List.mem_cons_of_mem _ hu))
    have hv := hn v List.mem_cons_self
    by_cases e : v.1 < w.1
    · have e1 : insW (v :: ws) w = v :: insW ws w := by simp [insW, e]
      rw [e1, List.pairwise_cons]
      refine ⟨fun u hu => ?_, ih⟩
      rcases insW_mem.1 hu with rfl | hu
      · exact e
      · exact h.1 u hu
    · have e1 : insW (v :: ws) w = w :: v :: ws := by simp [insW, e]
      rw [e1, List.pairwise_cons, List.pairwise_cons]
      refine ⟨fun u hu => ?_, h⟩
      rcases List.mem_cons.1 hu with rfl | hu
      · omega
      · have := h.1 u hu; omega
theorem insW_len (ws : List (Int × Int)) (w : Int × Int) : (insW ws w).length = ws.length + 1 := by
  have : (ws.takeWhile (fun x => decide (x.1 < w.1))).length + (ws.dropWhile (fun x => decide (x.1 < w.1))).length = ws.length := by
    rw [← List.length_append, List.takeWhile_append_dropWhile]
  unfold insW
  simp
  omega
/-- Lock: what is told, and what is left, are the document's. -/
theorem TbR.lock {H W : List Ak} {T T' : Tb} (r : TbR H W T) (x : Ak) {ok : Bool} {l : List Int} {e : Int} (h : LockP T x ok l e T') :
    (lockR H W x).1 = ok ∧ (lockR H W x).2.1 = l ∧ (lockR H W x).2.2.1 = e ∧ TbR (lockR H W x).2.2.2.1 (lockR H W x).2.2.2.2 T' := by
  have rk := r.keys x.key
  have hany : W.any (fun a => decide (a.tx = x.tx) && decide (a.key = x.key)) = waitsB (atT T x.key).ws x.tx := by
    rw [Bool.eq_iff_iff]
    unfold waitsB
    rw [List.any_eq_true, List.any_eq_true]
    constructor
    · rintro ⟨⟨a1, a2, a3⟩, ha, hp⟩
      simp only [Bool.and_eq_true, decide_eq_true_eq] at hp
      obtain ⟨rfl, rfl⟩ := hp
      exact ⟨(x.tx, a3), (rk.wait _ _).2 ha, by simp⟩
    · rintro ⟨⟨o, m⟩, ho, hp⟩
      simp only [decide_eq_true_eq] at hp
      subst hp
      exact ⟨⟨x.tx, x.key, m⟩, (rk.wait _ _).1 ho, by simp⟩
  have hmay := rk.may r.lw
  have hwait := wait_eq rk r.lw
  have full_of : ∀ k, T x.key = some k → atT T x.key = k := fun k hk => by simp [atT, hk]
  unfold lockR
  rw [hany, hmay, hwait, List.length_map]
  cases h with
  | arg h => rw [if_pos (show ¬ (x.mode = 1 ∨ x.mode = 2) from h)]; exact ⟨rfl, rfl, rfl, r⟩
  | long h hl => rw [if_neg (fun hh => hh h), if_pos hl]; exact ⟨rfl, rfl, rfl, r⟩
  | twice h hl hw => rw [if_neg (fun hh => hh h), if_neg (by omega), if_pos hw]; exact ⟨rfl, rfl, rfl, r⟩
  | got h hl hw hf =>
    rw [if_neg (fun hh => hh h), if_neg (by omega), hw, if_neg (by simp), if_pos hf]
    refine ⟨rfl, rfl, rfl, ⟨r.lw.has x h, fun y => ?_, fun y k hk => ?_, fun y k hk => ?_⟩⟩
    · rw [atT_put]
      by_cases e : y = x.key
      · rw [if_pos e, e]; exact rk.has r.lw h
      · rw [if_neg e]; exact (r.keys y).hasOther r.lw h e
    · unfold putT at hk
      split at hk
      · injection hk with hk
        rw [← hk]
        rintro ⟨h1, _⟩
        have := h1 x.tx
        simp [gainH, setH] at this
      · exact r.full y k hk
    · unfold putT at hk
      split at hk
      · injection hk with hk
        rw [← hk]
        show (atT T x.key).ws.length ≤ 50
        cases hT : T x.key with
        | none => simp [atT, hT, k0]
        | some k1 => rw [full_of k1 hT]; exact r.fifty _ _ hT
      · exact r.fifty y k hk
  | full h hl hw hf h50 =>
    rw [if_neg (fun hh => hh h), if_neg (by omega), hw, if_neg (by simp), hf, if_neg (by simp), if_pos (by omega)]
    exact ⟨rfl, rfl, rfl, r⟩
  | waits h hl hw hf h50 hls =>
    have h51 : (atT T x.key).ws.length ≤ 50 := by
      cases hT : T x.key with
      | none => simp [atT, hT, k0]
      | some k1 => rw [full_of k1 hT]; exact r.fifty _ _ hT
    rw [if_neg (fun hh => hh h), if_neg (by omega), hw, if_neg (by simp), hf, if_neg (by simp), if_neg (by omega)]
    have hnw : ∀ v ∈ (atT T x.key).ws, v.1 ≠ x.tx := fun v hv e => by
      unfold waitsB at hw
      rw [List.any_eq_false] at hw
      exact hw v hv (by simpa using e)
    refine ⟨rfl, ?_, rfl, ⟨⟨r.lw.h1, ?_, r.lw.hm, fun a ha => ?_⟩, fun y => ?_, fun y k hk => ?_, fun y k hk => ?_⟩⟩
    · refine sorted_eqI (List.Pairwise.filter _ (way_sorted r.lw x)) hls.1 (fun o => ?_)
      unfold outR
      rw [List.mem_filter, way_mem rk, hls.2]
      simp only [decide_eq_true_eq]
      constructor
      · rintro ⟨⟨_, h⟩, h2⟩; exact ⟨h2, h⟩
      · rintro ⟨h2, h⟩; exact ⟨⟨by omega, h⟩, h2⟩
    · refine List.pairwise_append.2 ⟨r.lw.w1, List.pairwise_singleton _ _, fun a ha b hb => ?_⟩
      rw [List.mem_singleton] at hb
      subst hb
      rintro ⟨h1, h2⟩
      obtain ⟨a1, a2, a3⟩ := a
      simp only at h1 h2
      subst h1 h2
      exact hnw _ ((rk.wait _ _).2 ha) rfl
    · rcases List.mem_append.1 ha with h1 | h1
      · exact r.lw.wm a h1
      · rw [List.mem_singleton] at h1; rw [h1]; exact h
    · rw [atT_put]
      by_cases e : y = x.key
      · rw [if_pos e, e]
        refine ⟨rk.hold, insW_sorted rk.sorted hnw, fun o m => ?_⟩
        rw [insW_mem, rk.wait o m, List.mem_append, List.mem_singleton]
        constructor
        · rintro (h1 | h1)
          · right; injection h1 with h1 h2; subst h1 h2; rfl
          · exact .inl h1
        · rintro (h1 | h1)
          · exact .inr h1
          · left; rw [← h1]
      · rw [if_neg e]
        have ry := r.keys y
        refine ⟨ry.hold, ry.sorted, fun o m => ?_⟩
        rw [ry.wait o m, List.mem_append, List.mem_singleton]
        constructor
        · exact .inl
        · rintro (h1 | h1)
          · exact h1
          · exact absurd (by rw [← h1]) e
    · unfold putT at hk
      split at hk
      · injection hk with hk
        rw [← hk]
        rintro ⟨_, h2⟩
        have := congrArg List.length h2
        simp only at this
        rw [insW_len] at this
        simp at this
      · exact r.full y k hk
    · unfold putT at hk
      split at hk
      · injection hk with hk
        rw [← hk]
        show (insW _ _).length ≤ 50
        rw [insW_len]; omega
      · exact r.fifty y k hk
theorem TbR.empty : TbR [] [] (fun _ => none) where
  lw := ⟨List.Pairwise.nil, List.Pairwise.nil, fun a h => (List.not_mem_nil h).elim, fun a h => (List.not_mem_nil h).elim⟩
  keys := fun x => ⟨fun o m => by simp [atT, k0], List.Pairwise.nil, fun o m => by simp [atT, k0]⟩
  full := fun x k h => nomatch h
  fifty := fun x k h => nomatch h
end Go.Proofs.YtmgpdkecpobcaaaDoor
