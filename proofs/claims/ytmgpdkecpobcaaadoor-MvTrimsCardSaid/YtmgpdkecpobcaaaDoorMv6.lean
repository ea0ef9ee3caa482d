/- mv: At; Many; Low. -/
import Derived.Test.YtmgpdkecpobcaaaDoorKsV
namespace Go.Proofs.YtmgpdkecpobcaaaDoor
open Go.RowKit
theorem pr_info : (Tryd.prog.info? 29).map (fun i => (i.zero, i.size, i.bytes)) = some (some (.agg #[.string ⟨#[]⟩, .string ⟨#[]⟩, .bool false]), 3, 40) := by kernel_rfl
def prC (p : Sx × Sx) : List Value := [.string ⟨p.1.toArray⟩, .string ⟨p.2.toArray⟩, .bool false]
theorem at_step {K : Kp} {ks : List Sx} {t : Int} {i : Nat} {x : Sx} (hx : ks[i]? = some x) : atK K (ks.take (i + 1)) t = if (tellV (getV (K x) t)).2 then atK K (ks.take i) t ++ [(x, (tellV (getV (K x) t)).1)] else atK K (ks.take i) t := by
  unfold atK
  rw [List.take_add_one, hx, List.filterMap_append]
  cases h : (tellV (getV (K x) t)).2 <;> simp [h]
theorem at_size {K : Kp} {ks : List Sx} {t : Int} {i : Nat} (hi : i ≤ ks.length) : (atK K (ks.take i) t).length ≤ i := by
  unfold atK
  exact Nat.le_trans (List.length_filterMap_le _ _) (by simp; omega)
def AtRel (K : Kp) (ks : List Sx) (t : Int) (w : World) (v6 v26 : Value) (wr : World) : Prop :=
  ∃ i : Nat, v26 = .int .i64 i ∧ i ≤ ks.length ∧ wr.ownsRow w.heap.size 29 3 v6 (atK K (ks.take i) t).length ((atK K (ks.take i) t).flatMap prC) ∧ Below w.heap.size w wr
def AtPost (r : List (Sx × Sx)) (w : World) (e : Ending) (w' : World) : Prop := ∃ A c, e = .returned (.tuple #[.slice A r.length c, .nilIface]) ∧ w'.ownsRow w.heap.size 29 3 (.slice A r.length c) r.length (r.flatMap prC) ∧ Below w.heap.size w w'
theorem strs_at {w : World} {B n k : Nat} {A : Option Addr} {l : List Sx} (h : Rd w B 1 A n (l.map encStr)) (hk : k < n) : ∃ g off x, A = some ⟨g, off, none⟩ ∧ g < B ∧ l[k]? = some x ∧ w.cell? ⟨g, off + k, none⟩ = some (.string ⟨x.toArray⟩) := by
  obtain ⟨g, off, u, hA, hg, hx, hc⟩ := h.at1 hk
  rw [List.getElem?_map] at hx
  rcases hh : l[k]? with _ | x
  · rw [hh] at hx; simp at hx
  · rw [hh] at hx; simp at hx; subst hx; exact ⟨g, off, x, hA, hg, rfl, hc⟩
theorem own_belowV {w w' : World} {base e size n : Nat} {v : Value} {xs : List Value} (h : w.ownsRow base e size v n xs) (hb : Below w.heap.size w w') : w'.ownsRow base e size v n xs :=
  (show Fr (fun b => w.heap.size ≤ b) w w' from ⟨hb.os, hb.tape, hb.output, hb.size, fun k _ hk => hb.block k (by omega)⟩).own h (fun b hb2 h2 => by have := (h.lt b hb2).2; omega)
set_option maxRecDepth 100000 in
set_option maxHeartbeats 4000000 in
theorem at_low (base n g : Nat) (mb : Option Nat) (loc : Sx → Value) (K : Kp) (low : Int) (t : Int) (w : World) (hI : StI w base n g mb loc K low) (ht : t < low) :
    Calls Tryd.prog 7 #[.pointer (some ⟨g, 0, none⟩), .int .i64 t] w fun e w' => e = .returned (.tuple #[.slice none 0 0, .iface 43 (.int .i64 8)]) ∧ w' = w := by
  have c1 := hI.blk.cell 1
  have hgl := hI.blk.lt
  simp only [List.getElem?_toArray, List.getElem?_cons_zero, List.getElem?_cons_succ] at c1
  clear hI
  have d1 : decide (t < low) = true := decide_eq_true ht
  go_enter Tryd.func7, Tryd.ntmps7
  go_wp2_with fail
  go_ret2
  exact ⟨rfl, rfl⟩
set_option maxRecDepth 100000 in
set_option maxHeartbeats 8000000 in
theorem at_any (base n g : Nat) (mb : Option Nat) (loc : Sx → Value) (K : Kp) (low : Int) (ks : List Sx) (t : Int) (w : World) (hI : StI w base n g mb loc K low) (hks : KeysK K ks) (ht : ¬ t < low) (htm : t < 9223372036854775808) (hn : n ≤ 100000) :
    Calls Tryd.prog 7 #[.pointer (some ⟨g, 0, none⟩), .int .i64 t] w (AtPost (atK K ks t) w) := by
  have c0 := hI.blk.cell 0
  have c1 := hI.blk.cell 1
  have hgl := hI.blk.lt
  simp only [List.getElem?_toArray, List.getElem?_cons_zero, List.getElem?_cons_succ] at c0 c1
  have d1 : decide (t < low) = false := decide_eq_false ht
  have HKO := Lib.hid (keysOf_any mb w)
  have HSO := Lib.hid (sorted_any w hI.map hI.small (by omega))
  have HKS := Lib.hid hks; clear hks
  have HI := Lib.hid hI; clear hI
  have HT := Lib.hid ht; clear ht
  go_enter Tryd.func7, Tryd.ntmps7
  go_wp2_with fail
  refine HKO.out.mono ?_
  rintro e w1 ⟨rfl, rfl⟩
  go_wp2_with fail
  refine HSO.out.mono ?_
  rintro e w2 ⟨V, ks2, rfl, hk2, hl2, hrow, hb2⟩
  obtain rfl : ks2 = ks := hk2.uniq HKS.out
  obtain ⟨A, c, rfl, _, _⟩ := own_slice hrow
  have HRD := Lib.hid (Rd.of_own hrow)
  have HI2 := Lib.hid (HI.out.tall hb2)
  have HB2 := Lib.hid hb2; clear hb2 hrow hk2 HKO HSO c0 c1 hgl d1
  go_wp2_with fail
  go_loopw [6, 26] (AtRel K ks2 t w2) (fun _ v _ => ks2.length - (intOf v).toNat)
  case atStart => exact ⟨0, rfl, Nat.zero_le _, World.ownsRow_nil _ _ _ _, Below.refl _ _⟩
  case round =>
    obtain ⟨i, rfl, hi, hown, hb⟩ := hrel
    by_cases hlt : (i : Int) < ks2.length
    · obtain ⟨g', o', x, rfl, hga, hx, h0⟩ := strs_at (HRD.out.below hb) (k := i) (by omega)
      have hgw : g' < wr.heap.size := Nat.lt_of_lt_of_le hga hb.size
      have hIr := HI2.out.tall hb
      have hxl : x.length ≤ 20 := hIr.small x ((HKS.out.2 x).1 (List.mem_of_getElem? hx))
      have hge := get_any base n g mb loc K low ⟨x.toArray⟩ t wr hIr (by have := HT.out; omega) htm (by unfold maxLen; show x.toArray.size ≤ _; simp; omega) hn
      rw [sx_mk] at hge
      have HGE := Lib.hid hge; clear hge hIr
      have HX := Lib.hid hx; clear hx
      have HOW := Lib.hid hown; clear hown
      have HSZ := Lib.hid (at_size (K := K) (t := t) hi)
      have HBB := Lib.hid hb; clear hb
      rcases htl : tellV (getV (K x) t) with ⟨v, f⟩
      rw [htl] at HGE
      have hst := at_step (K := K) (t := t) HX.out
      rw [htl] at hst
      simp only at hst
      have HST := Lib.hid hst; clear hst htl
      go_wp2_with fail
      refine HGE.out.mono ?_
      rintro e w3 ⟨rfl, hb3⟩
      have HO3 := Lib.hid (own_belowV HOW.out hb3)
      have HB3 := Lib.hid (HBB.out.trans (hb3.mono HBB.out.size)); clear hb3 HGE HOW
      rcases f with _ | _
      · have hrel9 : AtRel K ks2 t w2 u6 (.int .i64 ((i + 1 : Nat) : Int)) w3 := by
          refine ⟨i + 1, rfl, by omega, ?_, HB3.out⟩
          rw [HST.out, if_neg (by decide)]
          exact HO3.out
        have HR := Lib.hid hrel9; clear hrel9
        go_wp2_with fail
        go_roundw
        case rel => exact HR.out
        case measure => simp [intOf]; omega
      · go_wp2_with (at_builtin; refine stop ?_)
        refine back ?_
        refine wpList_append1 _ _ rfl (.tmp 39) (.tmp 43) 35 rfl w2.heap.size 29 (.agg #[.string ⟨#[]⟩, .string ⟨#[]⟩, .bool false]) 3 40 Tryd.underlying35 pr_info rfl (by decide) _ _ _ #[.string ⟨x.toArray⟩, .string ⟨v.toArray⟩, .bool false] rfl HO3.out 1 rfl _ rfl rfl (by simp [Value.oneCell']) ?_ ?_ ?_ ?_
        · have := HSZ.out; unfold maxLen; omega
        · have := HSZ.out; omega
        · exact HB3.out.size
        intro v' w9 hown9 hmv
        have hrel9 : AtRel K ks2 t w2 v' (.int .i64 ((i + 1 : Nat) : Int)) w9 := by
          refine ⟨i + 1, rfl, by omega, ?_, HB3.out.trans (hmv.below (fun b hb => (HO3.out.lt b hb).1) HB3.out.size)⟩
          rw [HST.out, if_pos trivial, List.length_append, List.flatMap_append, List.flatMap_singleton]
          exact hown9
        have HR := Lib.hid hrel9; clear hrel9 hown9 hmv
        go_wp2_with fail
        go_roundw
        case rel => exact HR.out
        case measure => simp [intOf]; omega
    · obtain rfl : i = ks2.length := by omega
      rw [List.take_length] at hown
      obtain ⟨A9, c9, rfl, _, _⟩ := own_slice hown
      have hfin : AtPost (atK K ks2 t) w (.returned (.tuple #[.slice A9 (atK K ks2 t).length c9, .nilIface])) wr := ⟨A9, c9, rfl, own_base hown HB2.out.size, HB2.out.trans (hb.mono HB2.out.size)⟩
      have HF := Lib.hid hfin; clear hfin hown hb
      go_wp2_with fail
      go_ret2
      exact HF.out
theorem low_any (base n g : Nat) (mb : Option Nat) (loc : Sx → Value) (K : Kp) (low : Int) (w : World) (hI : StI w base n g mb loc K low) : Calls Tryd.prog 18 #[.pointer (some ⟨g, 0, none⟩)] w fun e w' => e = .returned (.int .i64 low) ∧ w' = w := by
  have c1 := hI.blk.cell 1
  have hgl := hI.blk.lt
  simp only [List.getElem?_toArray, List.getElem?_cons_zero, List.getElem?_cons_succ] at c1
  clear hI
  go_enter Tryd.func18, Tryd.ntmps18
  go_wp2_with fail
  go_ret
  exact ⟨rfl, rfl⟩
end Go.Proofs.YtmgpdkecpobcaaaDoor
