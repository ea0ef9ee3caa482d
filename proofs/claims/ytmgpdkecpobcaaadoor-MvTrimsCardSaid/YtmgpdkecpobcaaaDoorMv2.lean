/- mv: the search among versions; a Store in memory; Get. -/
import Derived.Test.YtmgpdkecpobcaaaDoorBsfV
namespace Go.Proofs.YtmgpdkecpobcaaaDoor
open Go.RowKit
abbrev sx (s : ByteArray) : Sx := s.data.toList
theorem sx_inj {s t : ByteArray} (h : sx s = sx t) : s = t := by
  have : s.data = t.data := Array.ext' h
  cases s; cases t; simp_all
theorem sx_mk (x : Sx) : sx ⟨x.toArray⟩ = x := by simp [sx]
theorem size_sx (s : ByteArray) : s.size = (sx s).length := by unfold sx; rw [Array.length_toList]; rfl
theorem toList_sx (s : ByteArray) : s.toList = sx s := by
  obtain ⟨⟨l⟩⟩ := s
  show (ByteArray.mk (List.toArray l)).toList = l
  simp
theorem enters_v {P : Program} {f : FuncId} {fn : Func} {c : Code} (hf : P.funcs[f]? = some fn) (hname : (fn.name == "runtime.NumGoroutine") = false) (hb : fn.body = some c) : ∀ (args : Array Value) (w : World), (callFunc f args).run P w = .ok (.enter f args) w := by
  intro args w
  have h1 : fn.name ≠ "runtime.NumGoroutine" := by simpa using hname
  simp [callFunc, hf, h1, hb, mark]
def cfV (t : Int) (x : Vx) : Int := wrap64 (x.t - t)
theorem cmpPut_any (t : Int) (x : Vx) (w : World) : Calls Tryd.prog 20 #[vxV x, .int .i64 t] w fun e w' => e = .returned (.int .i64 (cfV t x)) ∧ Below w.heap.size w w' := by
  have hb : Below w.heap.size w (w.alloc (.cells #[.int .i64 x.t, .string ⟨x.v.toArray⟩, .bool x.g] 67)) := (Below.refl _ _).alloc (Nat.le_refl _) _
  have HB := Lib.hid hb; clear hb
  unfold vxV cfV
  go_enter Tryd.func20, Tryd.ntmps20
  go_wp2_with fail
  go_ret
  exact ⟨rfl, HB.out⟩
theorem cmpGet_any (t : Int) (x : Vx) (w : World) : Calls Tryd.prog 25 #[vxV x, .int .i64 t] w fun e w' => e = .returned (.int .i64 (cfV t x)) ∧ Below w.heap.size w w' := by
  have hb : Below w.heap.size w (w.alloc (.cells #[.int .i64 x.t, .string ⟨x.v.toArray⟩, .bool x.g] 67)) := (Below.refl _ _).alloc (Nat.le_refl _) _
  have HB := Lib.hid hb; clear hb
  unfold vxV cfV
  go_enter Tryd.func25, Tryd.ntmps25
  go_wp2_with fail
  go_ret
  exact ⟨rfl, HB.out⟩
theorem less_len : ∀ {L : List Vx} {t : Int} {i : Nat}, i ≤ L.length → (∀ k (h : k < L.length), k < i → L[k].t < t) → (∀ k (h : k < L.length), i ≤ k → t ≤ L[k].t) → (lessV L t).length = i
  | [], t, i, hi, _, _ => by simp at hi; subst hi; rfl
  | x :: L, t, 0, hi, h1, h2 => by
    have := h2 0 (by simp) (Nat.le_refl _)
    unfold lessV
    rw [List.takeWhile_cons_of_neg (by simpa using this)]
    rfl
  | x :: L, t, i + 1, hi, h1, h2 => by
    have := h1 0 (by simp) (by omega)
    have ih := less_len (L := L) (t := t) (i := i) (by simpa using hi) (fun k h hk => by have := h1 (k + 1) (by simpa using h) (by omega); simpa using this) (fun k h hk => by have := h2 (k + 1) (by simpa using h) (by omega); simpa using this)
    unfold lessV at *
    rw [List.takeWhile_cons_of_pos (by simpa using this), List.length_cons, ih]
theorem has_at {L : List Vx} {t : Int} {i : Nat} (hs : SortedV L) (h1 : ∀ k (h : k < L.length), k < i → L[k].t < t) (h2 : ∀ k (h : k < L.length), i ≤ k → t ≤ L[k].t) : hasV L t = true ↔ ∃ h : i < L.length, L[i].t = t := by
  unfold hasV
  rw [List.any_eq_true]
  constructor
  · rintro ⟨x, hx, hp⟩
    have hp : x.t = t := of_decide_eq_true hp
    obtain ⟨k, hk, rfl⟩ := List.getElem_of_mem hx
    have hik : i ≤ k := Nat.le_of_not_lt (fun h => by have := h1 k hk h; omega)
    refine ⟨by omega, ?_⟩
    have h3 := h2 i (by omega) (Nat.le_refl _)
    rcases Nat.lt_or_eq_of_le hik with h | rfl
    · have := List.pairwise_iff_getElem.1 hs i k (by omega) hk h
      omega
    · exact hp
  · rintro ⟨h, e⟩
    exact ⟨L[i], List.getElem_mem h, by simpa using e⟩
/-- Times that fit. -/
def TmOk (l : List Vx) : Prop := ∀ v ∈ l, 0 ≤ v.t ∧ v.t ≤ 1099511627776
theorem cfV_eq {t : Int} {x : Vx} (h0 : 0 ≤ x.t) (h1 : x.t ≤ 1099511627776) (ht : 0 ≤ t) (htm : t < 9223372036854775808) : cfV t x = x.t - t := IntWalk.wrap64_in _ ⟨by omega, by omega⟩
theorem search_any (F : Nat) (base : Nat) (V : Value) (l : List Vx) (t : Int) (w : World) (eg : ∀ args w, (callFunc F args).run Tryd.prog w = .ok (.enter F args) w) (hF : ∀ W x, Calls Tryd.prog F #[vxV x, .int .i64 t] W fun e w' => e = .returned (.int .i64 (cfV t x)) ∧ Below W.heap.size W w')
    (hV : VRow w base V l) (hs : SortedV l) (hl : l.length ≤ 100000) (hok : TmOk l) (ht : 0 ≤ t) (htm : t < 9223372036854775808) :
    Calls Tryd.prog 19 #[V, .int .i64 t, .func (.func F) #[] #[]] w fun e w' => e = .returned (.tuple #[.int .i64 ((lessV l t).length : Nat), .bool (hasV l t)]) ∧ Below w.heap.size w w' := by
  obtain ⟨A, c, rfl, hc⟩ := hV.form
  have he : ∀ k (h : k < l.length), cfV t l[k] = l[k].t - t := fun k h => by
    have := hok _ (List.getElem_mem h)
    exact cfV_eq this.1 this.2 ht htm
  refine (vsearch_any F (cfV t) A l.length c l t w eg (fun W x _ _ => hF W x) hV.rd rfl hl (fun _ _ => trivial) (fun i j hi hj hij => ?_)).mono ?_
  · rw [he i hi, he j hj]
    rcases Nat.lt_or_eq_of_le hij with h | rfl
    · have := List.pairwise_iff_getElem.1 hs i j hi hj h; omega
    · omega
  · rintro e w' ⟨i, f, rfl, hi, h1, h2, hf, hb⟩
    have h1' : ∀ k (h : k < l.length), k < i → l[k].t < t := fun k h hk => by have := h1 k h hk; rw [he k h] at this; omega
    have h2' : ∀ k (h : k < l.length), i ≤ k → t ≤ l[k].t := fun k h hk => by have := h2 k h hk; rw [he k h] at this; omega
    refine ⟨?_, hb⟩
    rw [less_len hi h1' h2']
    have : f = hasV l t := by
      rw [Bool.eq_iff_iff, hf, has_at hs h1' h2']
      exact ⟨fun ⟨h, e⟩ => ⟨h, by rw [he i h] at e; omega⟩, fun ⟨h, e⟩ => ⟨h, by rw [he i h]; omega⟩⟩
    rw [this]
/-! a Store -/
noncomputable abbrev kV : KeyC Tryd.prog 9 ByteArray := keyS Tryd.underlying9
def vmap (loc : Sx → Value) (K : Kp) : ByteArray → Option Value := fun s => if (K (sx s)).isEmpty then none else some (loc (sx s))
def StM (w : World) (n : Nat) (mb : Option Nat) (loc : Sx → Value) (K : Kp) : Prop := match mb with
  | none => ∀ x, K x = []
  | some b => MapG kV w b n (vmap loc K)
structure StI (w : World) (base n g : Nat) (mb : Option Nat) (loc : Sx → Value) (K : Kp) (low : Int) : Prop where
  blk : Blk w g 25 #[.map mb, .int .i64 low]
  map : StM w n mb loc K
  rows : ∀ x, K x ≠ [] → VRow w base (loc x) (K x)
  apart : ∀ x y, x ≠ y → K x ≠ [] → K y ≠ [] → ∀ b, (loc x).ownBlock = some b → (loc y).ownBlock ≠ some b
  small : ∀ x, K x ≠ [] → x.length ≤ 20
  times : ∀ x, TmOk (K x)
  sorted : ∀ x, SortedV (K x)
  len : ∀ x, (K x).length ≤ n
  low0 : 0 ≤ low
  lowm : low ≤ 1099511627776
  mlo : ∀ b, mb = some b → base ≤ b
  lo : base ≤ g
/-- What of the memory is the Store's, beside its own block. -/
def SFoot (mb : Option Nat) (loc : Sx → Value) (K : Kp) (b : Nat) : Prop := mb = some b ∨ ∃ x, K x ≠ [] ∧ (loc x).ownBlock = some b
def SFr (g : Nat) (mb : Option Nat) (loc : Sx → Value) (K : Kp) (b : Nat) : Prop := b = g ∨ SFoot mb loc K b
section
variable {w w' : World} {base n g : Nat} {mb : Option Nat} {loc : Sx → Value} {K : Kp} {low : Int}
theorem StM.fr {S : Nat → Prop} (h : StM w n mb loc K) (hf : Fr S w w') (hn : ∀ b, mb = some b → ¬ S b) : StM w' n mb loc K := by
  unfold StM at h ⊢
  rcases mb with _ | b
  · exact h
  · exact MapG.fr h hf (hn b rfl)
theorem StI.fr {S : Nat → Prop} (h : StI w base n g mb loc K low) (hf : Fr S w w') (hn : ∀ b, SFr g mb loc K b → ¬ S b) : StI w' base n g mb loc K low :=
  ⟨hf.blk h.blk (hn g (.inl rfl)), h.map.fr hf (fun b hb => hn b (.inr (.inl hb))), fun x hx => (h.rows x hx).fr hf (fun b hb => hn b (.inr (.inr ⟨x, hx, hb⟩))), h.apart, h.small, h.times, h.sorted, h.len, h.low0, h.lowm, h.mlo, h.lo⟩
theorem StI.foot_lt (h : StI w base n g mb loc K low) {b : Nat} (hb : SFr g mb loc K b) : base ≤ b ∧ b < w.heap.size := by
  rcases hb with rfl | hb | ⟨x, hx, hb⟩
  · exact ⟨h.lo, h.blk.lt⟩
  · refine ⟨h.mlo b hb, ?_⟩
    have := h.map
    rw [hb] at this
    exact MapG.lt (C := kV) this
  · exact ⟨((h.rows x hx).block hb).1, ((h.rows x hx).block hb).2.1⟩
theorem StI.tall (h : StI w base n g mb loc K low) (hb : Below w.heap.size w w') : StI w' base n g mb loc K low :=
  h.fr (S := fun b => w.heap.size ≤ b) ⟨hb.os, hb.tape, hb.output, hb.size, fun i _ hn => hb.block i (by omega)⟩ (fun b hb2 h2 => by have := (h.foot_lt hb2).2; omega)
theorem StI.mono (h : StI w base n g mb loc K low) {n' : Nat} (hn : n ≤ n') : StI w' base n' g mb loc K low ∨ StI w base n' g mb loc K low := by
  refine .inr ⟨h.blk, ?_, h.rows, h.apart, h.small, h.times, h.sorted, fun x => Nat.le_trans (h.len x) hn, h.low0, h.lowm, h.mlo, h.lo⟩
  have := h.map
  unfold StM at this ⊢
  rcases mb with _ | b
  · exact this
  · exact MapG.mono this hn
def stV (loc : Sx → Value) (K : Kp) (x : Sx) : Value := if (K x).isEmpty then .slice none 0 0 else loc x
theorem StI.row (h : StI w base n g mb loc K low) (x : Sx) : VRow w base (stV loc K x) (K x) := by
  unfold stV
  rcases e : K x with _ | ⟨a, l⟩
  · exact .inl (World.ownsRow_nil _ _ _ _)
  · rw [if_neg (by simp), ← e]
    exact h.rows x (by rw [e]; simp)
theorem look_nilV (w : World) (s : ByteArray) : (Instr.lookup 23 (.map none) (.string s) false).run Tryd.prog w = .ok (.slice none 0 0) w := by kernel_rfl
theorem StI.look (h : StI w base n g mb loc K low) {s : ByteArray} (hs : s.size ≤ maxLen) : (Instr.lookup 23 (.map mb) (.string s) false).run Tryd.prog w = .ok (stV loc K (sx s)) w := by
  have hm := h.map
  unfold StM at hm
  rcases mb with _ | b
  · rw [look_nilV]
    unfold stV
    rw [hm (sx s)]
    rfl
  · have hz : (zeroValue 63).run Tryd.prog w = .ok (.slice none 0 0) w := by kernel_rfl
    have := (MapG.look (C := kV) hm Tryd.underlying23 hz (x := s) hs).2
    rw [show kV.val s = Value.string s from rfl] at this
    rw [this]
    unfold vmap stV
    cases (K (sx s)).isEmpty <;> rfl
end
def erV (k : Int) : Value := if k = 0 then .nilIface else .iface 43 (.int .i64 k)
def GtPost (r : Sx × Bool) (w : World) (e : Ending) (w' : World) : Prop := e = .returned (.tuple #[.string ⟨r.1.toArray⟩, .bool r.2, .nilIface]) ∧ Below w.heap.size w w'
set_option maxRecDepth 100000 in
set_option maxHeartbeats 4000000 in
theorem get_low (base n g : Nat) (mb : Option Nat) (loc : Sx → Value) (K : Kp) (low : Int) (s : ByteArray) (t : Int) (w : World) (hI : StI w base n g mb loc K low) (ht : t < low) :
    Calls Tryd.prog 11 #[.pointer (some ⟨g, 0, none⟩), .string s, .int .i64 t] w fun e w' => e = .returned (.tuple #[.string ⟨#[]⟩, .bool false, .iface 43 (.int .i64 8)]) ∧ w' = w := by
  have c1 := hI.blk.cell 1
  have hgl := hI.blk.lt
  simp only [List.getElem?_toArray, List.getElem?_cons_zero, List.getElem?_cons_succ] at c1
  clear hI
  have d1 : decide (t < low) = true := decide_eq_true ht
  go_enter Tryd.func11, Tryd.ntmps11
  go_wp2_with fail
  go_ret3
  exact ⟨rfl, rfl⟩
set_option maxRecDepth 100000 in
set_option maxHeartbeats 8000000 in
theorem get_any (base n g : Nat) (mb : Option Nat) (loc : Sx → Value) (K : Kp) (low : Int) (s : ByteArray) (t : Int) (w : World) (hI : StI w base n g mb loc K low) (ht : ¬ t < low) (htm : t < 9223372036854775808) (hs : s.size ≤ maxLen) (hn : n ≤ 100000) :
    Calls Tryd.prog 11 #[.pointer (some ⟨g, 0, none⟩), .string s, .int .i64 t] w (GtPost (tellV (getV (K (sx s)) t)) w) := by
  have c0 := hI.blk.cell 0
  have c1 := hI.blk.cell 1
  have hgl := hI.blk.lt
  simp only [List.getElem?_toArray, List.getElem?_cons_zero, List.getElem?_cons_succ] at c0 c1
  have hlk := hI.look hs
  have hrow := hI.row (sx s)
  have hsr := hI.sorted (sx s)
  have hlen := Nat.le_trans (hI.len (sx s)) hn
  have hse := search_any 25 base _ (K (sx s)) t w (enters_v Tryd.func25 (by kernel_rfl) rfl) (fun W x => cmpGet_any t x W) hrow hsr hlen (hI.times _) (by have := hI.low0; omega) htm
  have d1 : decide (t < low) = false := decide_eq_false ht
  obtain ⟨A, c, hV, hc⟩ := hrow.form
  rw [hV] at hlk hse hrow
  generalize K (sx s) = l at *
  have hll : (lessV l t).length ≤ l.length := (List.takeWhile_prefix _).length_le
  have HSE := Lib.hid hse; clear hse
  have HRD := Lib.hid hrow.rd; clear hrow hI hV
  have HSR := Lib.hid hsr; clear hsr
  clear ht
  go_enter Tryd.func11, Tryd.ntmps11
  go_wp2_with fail
  refine HSE.out.mono ?_
  rintro e w2 ⟨rfl, hb2⟩
  have HB2 := Lib.hid hb2; clear hb2 HSE hlk c0 c1 hgl
  rcases hh : hasV l t with _ | _
  · obtain ⟨q0, q1⟩ := getV_other hh
    rcases hm : (lessV l t).length with _ | m
    · have HV := Lib.hid (show GtPost (tellV (getV l t)) w (.returned (.tuple #[.string ⟨#[]⟩, .bool false, .nilIface])) w2 by rw [q0 hm]; exact ⟨rfl, HB2.out⟩)
      clear q0 q1 hm hll
      go_wp2_with fail
      go_ret3
      exact HV.out
    · obtain ⟨q2, q3⟩ := q1 (by omega)
      rw [hm] at q2 q3 hll
      simp only [Nat.add_sub_cancel] at q2 q3
      obtain ⟨g', o', a, rfl, hga, hx, h0, h1, h2⟩ := (HRD.out.below HB2.out).cellsV rfl (j := m) (by omega)
      have hgw : g' < w2.heap.size := Nat.lt_of_lt_of_le hga HB2.out.size
      rw [hx] at q2
      have dk : decide (((m : Nat) : Int) < 0) = false := decide_eq_false (by omega)
      rcases hg : a.g with _ | _
      · have HV := Lib.hid (show GtPost (tellV (getV l t)) w (.returned (.tuple #[.string ⟨a.v.toArray⟩, .bool true, .nilIface])) w2 by rw [q2]; unfold tellV; simp only [hg]; exact ⟨rfl, HB2.out⟩)
        rw [hg] at h2
        clear q0 q1 q2 hm hx hg
        go_wp2_with fail
        go_ret3
        exact HV.out
      · have HV := Lib.hid (show GtPost (tellV (getV l t)) w (.returned (.tuple #[.string ⟨#[]⟩, .bool false, .nilIface])) w2 by rw [q2]; unfold tellV; simp only [hg]; exact ⟨rfl, HB2.out⟩)
        rw [hg] at h2
        clear q0 q1 q2 hm hx hg
        go_wp2_with fail
        go_ret3
        exact HV.out
  · obtain ⟨q2, q3⟩ := getV_found HSR.out hh
    generalize (lessV l t).length = m at *
    obtain ⟨g', o', a, rfl, hga, hx, h0, h1, h2⟩ := (HRD.out.below HB2.out).cellsV rfl (j := m) (by omega)
    have hgw : g' < w2.heap.size := Nat.lt_of_lt_of_le hga HB2.out.size
    rw [hx] at q2
    have dk : decide (((m : Nat) : Int) < 0) = false := decide_eq_false (by omega)
    rcases hg : a.g with _ | _
    · have HV := Lib.hid (show GtPost (tellV (getV l t)) w (.returned (.tuple #[.string ⟨a.v.toArray⟩, .bool true, .nilIface])) w2 by rw [q2]; unfold tellV; simp only [hg]; exact ⟨rfl, HB2.out⟩)
      rw [hg] at h2
      clear q2 hx hg
      go_wp2_with fail
      go_ret3
      exact HV.out
    · have HV := Lib.hid (show GtPost (tellV (getV l t)) w (.returned (.tuple #[.string ⟨#[]⟩, .bool false, .nilIface])) w2 by rw [q2]; unfold tellV; simp only [hg]; exact ⟨rfl, HB2.out⟩)
      rw [hg] at h2
      clear q2 hx hg
      go_wp2_with fail
      go_ret3
      exact HV.out
end Go.Proofs.YtmgpdkecpobcaaaDoor
