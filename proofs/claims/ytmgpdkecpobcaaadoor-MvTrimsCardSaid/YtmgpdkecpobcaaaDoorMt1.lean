/- MvTrims: what its walk leans on: keys that are structs; the two Stores; timed. -/
import Derived.Test.YtmgpdkecpobcaaaDoorMv9
import Derived.Test.YtmgpdkecpobcaaaDoorMvT
import Derived.Test.YtmgpdkecpobcaaaDoorMp1
import Derived.Test.YtmgpdkecpobcaaaDoorPick
import Derived.DeepKeys4
import Derived.Test.YtmgpdkecpobcaaaDoorHeldW
namespace Go.Proofs.YtmgpdkecpobcaaaDoor
open Go.RowKit Go.Maps Go.WideMaps
theorem keyBack {P : Program} {kt : TypeId} (x : {v : Value // (keyOf P kt v).isSome}) : keyOf P kt x.1 = some ((keyOf P kt x.1).get x.2) := (Option.some_get x.2).symm
/-- Keys of whatever type, told by the values themselves. -/
noncomputable def keyD {P : Program} {kt : TypeId} (K : Keyed P kt) : KeyC P kt {v : Value // (keyOf P kt v).isSome} where
  law := K
  kl x := (keyOf P kt x.1).get x.2
  val x := x.1
  ok _ := True
  mkk x _ := keyBack x
  inv v l hv := ⟨⟨v, by rw [hv]; rfl⟩, trivial, rfl, by simp [hv]⟩
  inj x y e := Subtype.ext (K.inj (keyBack x) (by rw [e]; exact keyBack y))
theorem setLaw : Keyed Tryd.prog 31 := Keyed.of_law (deep_law_laid (by kernel_rfl) (m := 3) (by omega) (of_decide_eq_true (by kernel_rfl)) (by kernel_rfl) (by kernel_rfl))
def setV (t : Int) (s : ByteArray) : Value := .agg #[.int .i64 t, .string s, .string ⟨#[]⟩, .bool false]
set_option maxRecDepth 100000 in
theorem setV_ok (t : Int) (s : ByteArray) (ht : (Lit.int .i64 t).wf = true) (hs : s.size ≤ maxLen) : (keyOf Tryd.prog 31 (setV t s)).isSome = true := by
  have hk : Tryd.prog.keyType 31 = true := by kernel_rfl
  have hc : Tryd.prog.cellsOf 31 = 4 := by kernel_rfl
  have hi : Tryd.prog.cellsOf 3 = 1 := by kernel_rfl
  have hp : Tryd.prog.cellsOf 29 = 3 := by kernel_rfl
  have hS : Tryd.prog.cellsOf 9 = 1 := by kernel_rfl
  have hb : Tryd.prog.cellsOf 4 = 1 := by kernel_rfl
  have u0 := Tryd.underlying31
  have u1 := Tryd.underlying29
  have u2 := Tryd.underlying3
  have u3 := Tryd.underlying9
  have u4 := Tryd.underlying4
  obtain ⟨m, hm⟩ : ∃ m, Tryd.prog.types.size = m + 2 := ⟨171 - 2, by kernel_rfl⟩
  have hn : ∀ fs, Tryd.prog.underlying 31 = some (.struct fs) → fs.all (·.name != "_") = true := fun fs e => by
    rw [u0] at e
    injection e with e
    injection e with e
    subst e
    simp
  have hn1 : ∀ fs, Tryd.prog.underlying 29 = some (.struct fs) → fs.all (·.name != "_") = true := fun fs e => by
    rw [u1] at e
    injection e with e
    injection e with e
    subst e
    simp
  have k1 : ∀ d, Tryd.prog.keyLits (d + 2) 29 [.string s, .string ⟨#[]⟩, .bool false] = some [.string s.data.toList, .string [], .bool false] := fun d => by
    unfold Program.keyLits
    simp only [u1]
    rw [if_pos ⟨by rw [hp]; rfl, hn1 _ u1⟩]
    have h0 : (⟨#[]⟩ : ByteArray).size ≤ maxLen := by decide
    simp [Program.keyLits, u3, u4, hS, hb, hs]
    rw [if_pos h0]
    rfl
  unfold keyOf setV
  simp only [u0]
  rw [if_pos (by simp [hk, Value.formed, u0, hc]), hm]
  unfold Program.keyLits
  simp only [u0, Value.cells]
  rw [if_pos ⟨by rw [hc]; rfl, hn _ u0⟩]
  simp [hi, hp, k1]
  simp [Program.keyLits, u2, ht]
structure SeX where
  tt : Int
  key : ByteArray
  val : ByteArray
  gone : Bool
def sxCells (x : SeX) : List Value := [.int .i64 x.tt, .string x.key, .string x.val, .bool x.gone]
def SxOk (x : SeX) : Prop := x.key.size ≤ maxLen
def rxOf (x : SeX) : Rx := ⟨sx x.key, sx x.val, x.gone, (pickN x.tt 50 : Nat)⟩
def kvV (x : SeX) : Value := setV (pickN x.tt 50 : Nat) x.key
theorem kv_ne {a b : SeX} (h : kvV a ≠ kvV b) : ¬ ((rxOf a).key = (rxOf b).key ∧ (rxOf a).t = (rxOf b).t) := by
  rintro ⟨h1, h2⟩
  have h3 : (pickN a.tt 50 : Int) = (pickN b.tt 50 : Int) := h2
  exact h (by unfold kvV; rw [h3, sx_inj h1])
theorem kv_ok {x : SeX} (h : SxOk x) : (keyOf Tryd.prog 31 (kvV x)).isSome = true := setV_ok _ _ (by
  have := pickN_lt x.tt (n := 50) (by omega)
  have e1 : IntKind.i64.min = -9223372036854775808 := by decide
  have e2 : IntKind.i64.max = 9223372036854775807 := by decide
  simp only [Lit.wf, Bool.and_eq_true, decide_eq_true_eq, e1, e2]
  omega) h
noncomputable def setC : KeyC Tryd.prog 31 {v : Value // (keyOf Tryd.prog 31 v).isSome} := keyD setLaw
def SeenM (L : List SeX) (m : {v : Value // (keyOf Tryd.prog 31 v).isSome} → Option Value) : Prop :=
  (∀ y v, m y = some v → v = .bool true) ∧ (∀ x ∈ L, ∀ y, y.1 = kvV x → m y = some (.bool true)) ∧ L.Pairwise (fun a b => kvV a ≠ kvV b)
theorem SeenM.nil : SeenM [] (fun _ => none) := ⟨fun _ _ h => (nomatch h), fun _ h => (nomatch h), List.Pairwise.nil⟩
theorem SeenM.put {L : List SeX} {m} (h : SeenM L m) {x : SeX} (y : {v : Value // (keyOf Tryd.prog 31 v).isSome}) (hy : y.1 = kvV x) (hm : m y = none) : SeenM (L ++ [x]) (putM m y (some (.bool true))) := by
  obtain ⟨h1, h2, h3⟩ := h
  refine ⟨fun z v hz => ?_, fun q hq z hz => ?_, List.pairwise_append.2 ⟨h3, List.pairwise_singleton .., fun a ha b hb e => ?_⟩⟩
  · by_cases e : z = y
    · subst e
      rw [putM_same] at hz
      exact (Option.some.inj hz).symm
    · rw [putM_ne e] at hz
      exact h1 z v hz
  · by_cases e : z = y
    · subst e
      rw [putM_same]
    · rw [putM_ne e]
      rcases List.mem_append.1 hq with hq | hq
      · exact h2 q hq z hz
      · rw [List.mem_singleton] at hq
        subst hq
        exact absurd (Subtype.ext (hz.trans hy.symm)) e
  · rw [List.mem_singleton] at hb
    subst hb
    rw [h2 a ha y (hy.trans e.symm)] at hm
    cases hm
theorem flatSx : ∀ (l : List SeX) (j : Nat) (x : SeX), l[j]? = some x → ∀ i, i < 4 → (l.flatMap sxCells)[j * 4 + i]? = (sxCells x)[i]?
  | [], j, p, h, i, hi => by simp at h
  | q :: l, 0, p, h, i, hi => by
    simp at h
    subst h
    rw [List.flatMap_cons, List.getElem?_append_left (by show _ < 4; omega)]
    simp
  | q :: l, j + 1, p, h, i, hi => by
    have h' : l[j]? = some p := by simpa using h
    have e : (j + 1) * 4 + i = (j * 4 + i) + 4 := by omega
    have e3 : (sxCells q).length = 4 := rfl
    rw [e, List.flatMap_cons, List.getElem?_append_right (by rw [e3]; omega), e3, Nat.add_sub_cancel]
    exact flatSx l j p h' i hi
theorem Rd.cellsSx {w : World} {B n j : Nat} {A : Option Addr} {l : List SeX} (h : Rd w B 4 A n (l.flatMap sxCells)) (hl : l.length = n) (hj : j < n) : ∃ g off x, A = some ⟨g, off, none⟩ ∧ g < B ∧ l[j]? = some x ∧
    w.cell? ⟨g, off + j * 4, none⟩ = some (.int .i64 x.tt) ∧ w.cell? ⟨g, off + j * 4 + 1, none⟩ = some (.string x.key) ∧ w.cell? ⟨g, off + j * 4 + 2, none⟩ = some (.string x.val) ∧ w.cell? ⟨g, off + j * 4 + 3, none⟩ = some (.bool x.gone) := by
  obtain ⟨g, off, e, hb, hc⟩ := h.2 (by omega)
  have hx : l[j]? = some l[j] := List.getElem?_eq_getElem (by omega)
  have hf := flatSx l j _ hx
  exact ⟨g, off, l[j], e, hb, hx, hc (j * 4) _ (hf 0 (by omega)), hc (j * 4 + 1) _ (hf 1 (by omega)), hc (j * 4 + 2) _ (hf 2 (by omega)), hc (j * 4 + 3) _ (hf 3 (by omega))⟩
theorem flatPr : ∀ (l : List (Sx × Sx)) (j : Nat) (x : Sx × Sx), l[j]? = some x → ∀ i, i < 3 → (l.flatMap prC)[j * 3 + i]? = (prC x)[i]?
  | [], j, p, h, i, hi => by simp at h
  | q :: l, 0, p, h, i, hi => by
    simp at h
    subst h
    rw [List.flatMap_cons, List.getElem?_append_left (by show _ < 3; omega)]
    simp
  | q :: l, j + 1, p, h, i, hi => by
    have h' : l[j]? = some p := by simpa using h
    have e : (j + 1) * 3 + i = (j * 3 + i) + 3 := by omega
    have e3 : (prC q).length = 3 := rfl
    rw [e, List.flatMap_cons, List.getElem?_append_right (by rw [e3]; omega), e3, Nat.add_sub_cancel]
    exact flatPr l j p h' i hi
theorem Rd.cellsPr {w : World} {B n j : Nat} {A : Option Addr} {l : List (Sx × Sx)} (h : Rd w B 3 A n (l.flatMap prC)) (hl : l.length = n) (hj : j < n) : ∃ g off x, A = some ⟨g, off, none⟩ ∧ g < B ∧ l[j]? = some x ∧
    w.cell? ⟨g, off + j * 3, none⟩ = some (.string ⟨x.1.toArray⟩) ∧ w.cell? ⟨g, off + j * 3 + 1, none⟩ = some (.string ⟨x.2.toArray⟩) ∧ w.cell? ⟨g, off + j * 3 + 2, none⟩ = some (.bool false) := by
  obtain ⟨g, off, e, hb, hc⟩ := h.2 (by omega)
  have hx : l[j]? = some l[j] := List.getElem?_eq_getElem (by omega)
  have hf := flatPr l j _ hx
  exact ⟨g, off, l[j], e, hb, hx, hc (j * 3) _ (hf 0 (by omega)), hc (j * 3 + 1) _ (hf 1 (by omega)), hc (j * 3 + 2) _ (hf 2 (by omega))⟩
/-- What the two Stores tell of what was put. -/
theorem put_step {L : List Rx} {K : Kp} (p : PutR L K) {r : Rx} (hd : ∀ q ∈ L, ¬ (q.key = r.key ∧ q.t = r.t)) (h0 : 0 ≤ r.t) (h1 : r.t ≤ 1099511627776) : PutR (L ++ [r]) (putS K 0 r).2 := by
  unfold putS
  rw [if_neg (by omega)]
  by_cases h : 20 < r.key.length ∨ 40 < r.v.length
  · rw [if_pos h]
    exact p.skip (fun ho => by unfold okR at ho; omega)
  · rw [if_neg h, if_neg (by omega), if_neg (by rw [p.new hd]; simp)]
    exact p.put hd (by unfold okR; omega)
theorem PutR.keysK {L : List Rx} {K : Kp} (p : PutR L K) : ∃ ks, KeysK K ks ∧ ks.length ≤ L.length := by
  classical
  refine ⟨keysV (L.filter (fun r => decide (okR r))), ⟨sortS_lt (keysV_fold _ [] List.nodup_nil).1, fun x => ?_⟩, ?_⟩
  · unfold keysV
    rw [mem_sortS, (keysV_fold _ [] List.nodup_nil).2 x]
    constructor
    · rintro (h | ⟨r, hr, hk⟩)
      · cases h
      · obtain ⟨hr1, hr2⟩ := List.mem_filter.1 hr
        intro e
        have := (p.mem x (ofR r)).2 ⟨r, hr1, of_decide_eq_true hr2, hk, rfl⟩
        rw [e] at this; cases this
    · intro h
      obtain ⟨v, r, e⟩ := List.exists_cons_of_ne_nil h
      obtain ⟨q, hq, ho, hk, _⟩ := (p.mem x v).1 (by rw [e]; simp)
      exact .inr ⟨q, List.mem_filter.2 ⟨hq, decide_eq_true ho⟩, hk⟩
  · unfold keysV sortS
    rw [List.length_mergeSort]
    have h1 := vk_len (L.filter (fun r => decide (okR r))) []
    have h2 := List.length_filter_le (fun r => decide (okR r)) L
    simp at h1
    omega
theorem KeysK.trim {K : Kp} {ks : List Sx} (h : KeysK K ks) (tm : Int) : ∃ ks', KeysK (fun x => trimV tm (K x)) ks' ∧ ks'.length ≤ ks.length := by
  refine ⟨ks.filter (fun x => !(trimV tm (K x)).isEmpty), ⟨h.1.filter _, fun x => ?_⟩, List.length_filter_le _ _⟩
  rw [List.mem_filter, h.2 x]
  constructor
  · rintro ⟨_, h2⟩ e
    simp only at e
    rw [e] at h2
    cases h2
  · intro h2
    refine ⟨fun e => ?_, by rcases e : trimV tm (K x) with _ | ⟨a, l⟩; exact absurd e h2; rfl⟩
    have := trimV_len tm (K x)
    rw [e] at this
    simp at this
    exact h2 (show trimV tm (K x) = [] from e ▸ this)
theorem sumK_le {K : Kp} {n : Nat} (h : ∀ x, (K x).length ≤ n) (ks : List Sx) : sumK K ks ≤ ks.length * n := by
  unfold sumK
  induction ks with
  | nil => simp
  | cons x ks ih => rw [List.map_cons, List.sum_cons, List.length_cons, Nat.succ_mul]; have := h x; omega
/-- The two Stores, at blocks g and h. -/
structure MtI (w : World) (base n g h : Nat) (ma mb : Option Nat) (la lb : Sx → Value) (A B : Kp) (low : Int) : Prop where
  a : StI w base n g ma la A low
  b : StI w base n h mb lb B 0
  dis : ∀ q, SFr g ma la A q → ¬ SFr h mb lb B q
section
variable {w w' : World} {base n g h : Nat} {ma mb ma' mb' : Option Nat} {la lb la' lb' : Sx → Value} {A B A' B' : Kp} {low low' : Int}
theorem MtI.tall (m : MtI w base n g h ma mb la lb A B low) (hb : Below w.heap.size w w') : MtI w' base n g h ma mb la lb A B low := ⟨m.a.tall hb, m.b.tall hb, m.dis⟩
theorem MtI.stepA (m : MtI w base n g h ma mb la lb A B low) {n' : Nat} (hn : n ≤ n') (s : StI w' base n' g ma' la' A' low') (hf : Fr (SFr g ma la A) w w') (hft : ∀ q, SFr g ma' la' A' q → SFr g ma la A q ∨ w.heap.size ≤ q) : MtI w' base n' g h ma' mb la' lb A' B low' :=
  ⟨s, (m.b.fr hf (fun q h1 h2 => m.dis q h2 h1)).more hn, fun q h1 h2 => (hft q h1).elim (fun h3 => m.dis q h3 h2) (fun h3 => by have := (m.b.foot_lt h2).2; omega)⟩
theorem MtI.stepB (m : MtI w base n g h ma mb la lb A B low) {n' : Nat} (hn : n ≤ n') (s : StI w' base n' h mb' lb' B' 0) (hf : Fr (SFr h mb lb B) w w') (hft : ∀ q, SFr h mb' lb' B' q → SFr h mb lb B q ∨ w.heap.size ≤ q) : MtI w' base n' g h ma mb' la lb' A B' low :=
  ⟨(m.a.fr hf (fun q h1 h2 => m.dis q h1 h2)).more hn, s, fun q h1 h2 => (hft q h2).elim (fun h3 => m.dis q h1 h3) (fun h3 => by have := (m.a.foot_lt h1).2; omega)⟩
theorem MtI.belowA (m : MtI w base n g h ma mb la lb A B low) {W : World} (hW : W.heap.size ≤ base) (hB : Below W.heap.size W w) (hf : Fr (SFr g ma la A) w w') : Below W.heap.size W w' := hB.trans (hf.below (fun _ hb => Nat.le_trans hW (m.a.foot_lt hb).1) hB.size)
theorem MtI.belowB (m : MtI w base n g h ma mb la lb A B low) {W : World} (hW : W.heap.size ≤ base) (hB : Below W.heap.size W w) (hf : Fr (SFr h mb lb B) w w') : Below W.heap.size W w' := hB.trans (hf.below (fun _ hb => Nat.le_trans hW (m.b.foot_lt hb).1) hB.size)
end
theorem st_new {w : World} {base g : Nat} (hk : Blk w g 25 #[.map none, .int .i64 0]) (hb : base ≤ g) : StI w base 0 g none (fun _ => .slice none 0 0) (fun _ => []) 0 :=
  ⟨hk, fun x => rfl, fun x hx => absurd rfl hx, fun x y _ hx => absurd rfl hx, fun x hx => absurd rfl hx, fun x v hv => (nomatch hv), fun x => List.Pairwise.nil, fun x => Nat.le_refl _, Int.le_refl _, by decide, fun b hb => (nomatch hb), hb⟩
theorem sfr_new {g q : Nat} {loc : Sx → Value} (h : SFr g none loc (fun _ => []) q) : q = g := by
  rcases h with rfl | h | ⟨x, hx, _⟩
  · rfl
  · cases h
  · exact absurd rfl hx
section
variable {P : Program} {ops : Array Oper} {Q : Exit → Act → World → Prop} {md : Region.Mode} {N : Nat} {C : World → Prop}
/-- Two that are ready: whichever comes first. -/
theorem ntwo (i j : Nat) {oi oj : Oper} {fuel : Nat} {listed : Array Bool} {a : Act} {w : World} (hr : Region.ready md ops listed = [i, j]) (hi : ops[i]? = some oi) (hj : ops[j]? = some oj)
    (hwi : Region.wanted oi (yielded ops a.tmps) = true) (hwj : Region.wanted oj (yielded ops a.tmps) = true)
    (h1 : ∀ K' : Act → World → Prop, (∀ a w, (i < N → C w) → wpAnyN P md ops Q N C fuel (listed.setIfInBounds i true) a w → K' a w) → Oper.wp P oi a w K' Q)
    (h2 : ∀ K' : Act → World → Prop, (∀ a w, (j < N → C w) → wpAnyN P md ops Q N C fuel (listed.setIfInBounds j true) a w → K' a w) → Oper.wp P oj a w K' Q) : wpAnyN P md ops Q N C (fuel + 1) listed a w :=
  ⟨(fun h0 => by rw [hr] at h0; cases h0), fun k hk => by
    rw [hr] at hk
    rcases List.mem_cons.1 hk with rfl | hk
    · exact wpOp_step hi (fun K' hK => by rw [if_pos hwi]; exact h1 K' (fun a w hs ha => hK a w ⟨hs, ha⟩))
    · obtain rfl : k = j := by simpa using hk
      exact wpOp_step hj (fun K' hK => by rw [if_pos hwj]; exact h2 K' (fun a w hs ha => hK a w ⟨hs, ha⟩))⟩
end
def tmK : Kp := (putS (fun _ => []) 0 ⟨sx ⟨#[97]⟩, sx ⟨#[120]⟩, false, 3⟩).2
theorem tm0 : (putS (fun _ => []) 0 ⟨sx ⟨#[97]⟩, sx ⟨#[120]⟩, false, 3⟩).1 = 0 := by decide +kernel
theorem tm4 : tellV (getV (tmK (sx ⟨#[97]⟩)) 4) = ([120], true) := by decide +kernel
theorem tm2 : tellV (getV (tmK (sx ⟨#[97]⟩)) 2) = ([], false) := by decide +kernel
set_option maxRecDepth 100000 in
set_option maxHeartbeats 4000000 in
theorem timed_any (w : World) : Calls Tryd.prog 8 #[] w fun e w' => e = .returned (.bool true) ∧ Below w.heap.size w w' := by
  have hI := st_new (w := w.alloc (.cells #[.map none, .int .i64 0] 25)) (base := w.heap.size) (Blk.new w _ _) (Nat.le_refl _)
  have HB1 := Lib.hid (show Below w.heap.size w (w.alloc (.cells #[.map none, .int .i64 0] 25)) from (Below.refl _ _).alloc (Nat.le_refl _) _)
  have HP := Lib.hid (put_any w.heap.size 0 w.heap.size none (fun _ => .slice none 0 0) (fun _ => []) 0 ⟨#[97]⟩ ⟨#[120]⟩ false 3 _ hI (by omega))
  have HI := Lib.hid hI; clear hI
  go_enter Tryd.func8, Tryd.ntmps8
  go_wp2_with fail
  refine HP.out.mono ?_
  rintro e w2 ⟨rfl, mb2, loc2, hI2, hf2, _⟩
  rw [tm0]
  have hI2' : StI w2 w.heap.size 1 w.heap.size mb2 loc2 tmK 0 := hI2
  have HB2 := Lib.hid (HB1.out.trans (hf2.below (fun b hb => (HI.out.foot_lt hb).1) HB1.out.size))
  have HI2 := Lib.hid hI2'; clear hI2 hI2' hf2 HP
  have hg4 := get_any w.heap.size 1 w.heap.size mb2 loc2 tmK 0 ⟨#[97]⟩ 4 w2 HI2.out (by omega) (by omega) (by decide) (by omega)
  rw [tm4] at hg4
  have HG := Lib.hid hg4; clear hg4
  rw [show erV 0 = Value.nilIface from rfl]
  go_wp2_with fail
  refine HG.out.mono ?_
  rintro e w3 ⟨rfl, hb3⟩
  have HB3 := Lib.hid (HB2.out.trans (hb3.mono HB2.out.size))
  have hg2 := get_any w.heap.size 1 w.heap.size mb2 loc2 tmK 0 ⟨#[97]⟩ 2 w3 (HI2.out.tall hb3) (by omega) (by omega) (by decide) (by omega)
  rw [tm2] at hg2
  have HG2 := Lib.hid hg2; clear hg2 hb3 HG
  go_wp2_with fail
  refine HG2.out.mono ?_
  rintro e w4 ⟨rfl, hb4⟩
  have HB4 := Lib.hid (HB3.out.trans (hb4.mono HB3.out.size)); clear hb4 HG2
  go_wp2_with fail
  go_ret
  exact ⟨rfl, HB4.out⟩
end Go.Proofs.YtmgpdkecpobcaaaDoor
