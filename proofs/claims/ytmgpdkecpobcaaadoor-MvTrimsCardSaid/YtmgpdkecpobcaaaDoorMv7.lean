/- mv: Many. -/
import Derived.Test.YtmgpdkecpobcaaaDoorMv6
import Derived.Laws.IdiomRangeMap
namespace Go.Proofs.YtmgpdkecpobcaaaDoor
open Go.RowKit
def bx (x : Sx) : ByteArray := ⟨x.toArray⟩
theorem sx_bx (x : Sx) : sx (bx x) = x := sx_mk x
theorem bx_sx (s : ByteArray) : bx (sx s) = s := mk_sx s
theorem bx_inj {x y : Sx} (h : bx x = bx y) : x = y := by rw [← sx_bx x, ← sx_bx y, h]
def leftS (f : Sx → Nat) (ks : List Sx) (left : ByteArray → Bool) : Nat := (ks.map fun x => if left (bx x) then f x else 0).sum
theorem leftS_none (f : Sx → Nat) : ∀ (ks : List Sx) (left : ByteArray → Bool), (∀ x ∈ ks, left (bx x) = false) → leftS f ks left = 0
  | [], _, _ => rfl
  | x :: ks, left, h => by
    have := leftS_none f ks left (fun y hy => h y (by simp [hy]))
    unfold leftS at *
    rw [List.map_cons, List.sum_cons, this, h x (by simp)]
    rfl
theorem leftS_all (f : Sx → Nat) : ∀ (ks : List Sx) (left : ByteArray → Bool), (∀ x ∈ ks, left (bx x) = true) → leftS f ks left = (ks.map f).sum
  | [], _, _ => rfl
  | x :: ks, left, h => by
    have := leftS_all f ks left (fun y hy => h y (by simp [hy]))
    unfold leftS at *
    rw [List.map_cons, List.sum_cons, this, h x (by simp), List.map_cons, List.sum_cons]
    rfl
theorem leftS_congr (f : Sx → Nat) : ∀ (ks : List Sx) (l1 l2 : ByteArray → Bool), (∀ x ∈ ks, l1 (bx x) = l2 (bx x)) → leftS f ks l1 = leftS f ks l2
  | [], _, _, _ => rfl
  | x :: ks, l1, l2, h => by
    have := leftS_congr f ks l1 l2 (fun y hy => h y (by simp [hy]))
    unfold leftS at *
    rw [List.map_cons, List.sum_cons, List.map_cons, List.sum_cons, this, h x (by simp)]
theorem leftS_struck (f : Sx → Nat) : ∀ (ks : List Sx) (left : ByteArray → Bool) (s : ByteArray) (inst : ∀ y, Decidable (y = s)), ks.Nodup → sx s ∈ ks → left s = true → leftS f ks left = leftS f ks (fun y => left y && !@decide (y = s) (inst y)) + f (sx s)
  | [], _, _, _, _, h, _ => by cases h
  | x :: ks, left, s, inst, hn, hx, hl => by
    obtain ⟨h1, h2⟩ := List.nodup_cons.1 hn
    unfold leftS
    rw [List.map_cons, List.sum_cons, List.map_cons, List.sum_cons]
    by_cases e : sx s = x
    · subst e
      have hc := leftS_congr f ks left (fun y => left y && !decide (y = s)) (fun y hy => by
        have : bx y ≠ s := fun e => h1 (by rw [← e, sx_bx]; exact hy)
        simp [this])
      unfold leftS at hc
      rw [hc, bx_sx, hl]
      simp
      omega
    · have ih := leftS_struck f ks left s inst h2 ((List.mem_cons.1 hx).resolve_left e) hl
      unfold leftS at ih
      have : bx x ≠ s := fun e2 => e (by rw [← e2, sx_bx])
      rw [ih]
      simp only [this, decide_false, Bool.not_false, Bool.and_true]
      omega
def MnRel (K : Kp) (ks : List Sx) (b n : Nat) (loc : Sx → Value) (w : World) (v3 : Value) (wr : World) : Prop :=
  ∃ (left : ByteArray → Bool) (cnt s : Nat), RangeG kV wr b w.heap.size n (vmap loc K) left cnt ∧ v3 = .int .i64 s ∧ s + leftS (fun x => (K x).length) ks left = sumK K ks ∧ Below w.heap.size w wr
theorem vmap_some {loc : Sx → Value} {K : Kp} {s : ByteArray} {v : Value} (h : vmap loc K s = some v) : K (sx s) ≠ [] ∧ v = loc (sx s) := by
  unfold vmap at h
  rcases e : K (sx s) with _ | ⟨a, l⟩
  · rw [e] at h; cases h
  · rw [e] at h
    injection h with h
    exact ⟨by simp, h.symm⟩
set_option maxRecDepth 100000 in
set_option maxHeartbeats 4000000 in
theorem many_nil (base n g : Nat) (loc : Sx → Value) (K : Kp) (low : Int) (w : World) (hI : StI w base n g none loc K low) :
    Calls Tryd.prog 10 #[.pointer (some ⟨g, 0, none⟩)] w fun e w' => e = .returned (.int .i64 0) ∧ Below w.heap.size w w' := by
  have c0 := hI.blk.cell 0
  have hgl := hI.blk.lt
  simp only [List.getElem?_toArray, List.getElem?_cons_zero] at c0
  clear hI
  have hr := run_range_nilMap (P := Tryd.prog) w 23 _ _ Tryd.underlying23
  have hn := fun ty => run_next_nilMap (P := Tryd.prog) w ty 0 0 #[]
  have HB := Lib.hid (show Below w.heap.size w (w.alloc (.mapIter none 0 #[] 0)) from (Below.refl _ _).alloc (Nat.le_refl _) _)
  go_enter Tryd.func10, Tryd.ntmps10
  go_wp2_with fail
  refine wp_loop_rounds 1 ?_
  rw [rounds_succ]
  go_wp2_with fail
  go_ret
  exact ⟨rfl, HB.out⟩
set_option maxRecDepth 100000 in
set_option maxHeartbeats 4000000 in
theorem many_some (base n g b : Nat) (loc : Sx → Value) (K : Kp) (low : Int) (ks : List Sx) (w : World) (hI : StI w base n g (some b) loc K low) (hks : KeysK K ks) (hs : sumK K ks ≤ 1000000) :
    Calls Tryd.prog 10 #[.pointer (some ⟨g, 0, none⟩)] w fun e w' => e = .returned (.int .i64 (sumK K ks : Nat)) ∧ Below w.heap.size w w' := by
  have c0 := hI.blk.cell 0
  have hgl := hI.blk.lt
  simp only [List.getElem?_toArray, List.getElem?_cons_zero] at c0
  have hM : MapG kV w b n (vmap loc K) := hI.map
  have hnd : ks.Nodup := hks.1.imp (fun {a b} h e => by subst e; exact List.lt_irrefl _ h)
  have hall : leftS (fun x => (K x).length) ks (fun s => (vmap loc K s).isSome) = sumK K ks := leftS_all _ ks _ (fun x hx => by
    have := (hks.2 x).1 hx
    unfold vmap
    rw [sx_bx]
    rcases e : K x with _ | ⟨a, l⟩
    · exact absurd e this
    · rfl)
  have HALL := Lib.hid hall; clear hall
  have HND := Lib.hid hnd; clear hnd
  have HKS := Lib.hid hks; clear hks
  have HM := Lib.hid hM; clear hM
  have HI := Lib.hid hI; clear hI
  go_enter Tryd.func10, Tryd.ntmps10
  go_wp2_with (at_range; refine wpList_rangeG rfl _ 23 63 rfl Tryd.underlying23 rfl HM.out ?_; intro w0 cnt0 hrg0 hf0 hs0)
  have hst : MnRel K ks b n loc w (.int .i64 (0 : Nat)) w0 := ⟨_, cnt0, 0, hrg0, rfl, by rw [Nat.zero_add]; exact HALL.out, hf0.none_below⟩
  have HST := Lib.hid hst; clear hst hrg0 hf0 hs0
  go_frame
  go_loopw [3] (MnRel K ks b n loc w) (fun _ wr => wr.rangeLeft b w.heap.size)
  case atStart => exact HST.out
  case round =>
    clear HST
    obtain ⟨left, cnt, s, hrg, rfl, hsum, hbw⟩ := hrel
    have HRG := Lib.hid hrg
    have HBW := Lib.hid hbw; clear hbw
    have HSUM := Lib.hid hsum; clear hsum
    clear hrg
    go_wp2_with (at_next; refine wpList_nextG rfl _ rfl rfl HRG.out ?_ ?_)
    · intro hl0
      have he : s = sumK K ks := by
        have h1 := HSUM.out
        rw [leftS_none _ ks left (fun x hx => hl0 (bx x) (by
          have := HI.out.small x ((HKS.out.2 x).1 hx)
          show (bx x).size ≤ maxLen
          rw [size_sx, sx_bx]; unfold maxLen; omega))] at h1
        exact h1
      have HE := Lib.hid he; clear he
      go_wp2_with fail
      go_ret
      rw [HE.out]
      exact ⟨rfl, HBW.out⟩
    · intro o v w1 cnt1 hox hlx hmx hrg1 hlt hf1 hs1 hen
      obtain ⟨hKo, rfl⟩ := vmap_some hmx
      obtain ⟨A, c, hV, _⟩ := (HI.out.rows _ hKo).form
      rw [hV] at hen ⊢
      have hb1 : Below w.heap.size w w1 := HBW.out.trans (hf1.below (fun i (hi : i = _) => by omega) HBW.out.size)
      have HB1 := Lib.hid hb1; clear hb1
      have HRG1 := Lib.hid hrg1; clear hrg1 hmx
      have hstr := leftS_struck (fun x => (K x).length) ks left o (fun _ => Classical.propDecidable _) HND.out ((HKS.out.2 _).2 hKo) hlx
      have hle : s + (K (sx o)).length ≤ 1000000 := by have := HSUM.out; omega
      have hfin : MnRel K ks b n loc w (.int .i64 ((s + (K (sx o)).length : Nat) : Int)) w1 := ⟨_, cnt1, _, HRG1.out, rfl, by have := HSUM.out; omega, HB1.out⟩
      have HF := Lib.hid hfin; clear hfin hstr
      have hms : w1.rangeLeft b w.heap.size < wr.rangeLeft b w.heap.size := by
        rw [HRG1.out.left_eq, HRG.out.left_eq]; exact hlt
      have HMS := Lib.hid hms; clear hms hlt hs1 hKo hlx hox hV
      rw [show kV.val o = Value.string o from rfl] at hen ⊢
      go_wp2_with fail
      go_roundw
      case rel => exact HF.out
      case measure => exact HMS.out
theorem many_any (base n g : Nat) (mb : Option Nat) (loc : Sx → Value) (K : Kp) (low : Int) (ks : List Sx) (w : World) (hI : StI w base n g mb loc K low) (hks : KeysK K ks) (hs : sumK K ks ≤ 1000000) :
    Calls Tryd.prog 10 #[.pointer (some ⟨g, 0, none⟩)] w fun e w' => e = .returned (.int .i64 (sumK K ks : Nat)) ∧ Below w.heap.size w w' := by
  rcases mb with _ | b
  · have e : ks = [] := List.eq_nil_iff_forall_not_mem.2 (fun x hx => (hks.2 x).1 hx (hI.map x))
    subst e
    exact many_nil base n g loc K low w hI
  · exact many_some base n g b loc K low ks w hI hks hs
end Go.Proofs.YtmgpdkecpobcaaaDoor
