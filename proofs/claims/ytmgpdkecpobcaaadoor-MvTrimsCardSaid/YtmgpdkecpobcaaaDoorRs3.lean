/- chainmailref.Store: At. -/
import Derived.Test.YtmgpdkecpobcaaaDoorRs2
import Derived.Test.YtmgpdkecpobcaaaDoorSrtS
namespace Go.Proofs.YtmgpdkecpobcaaaDoor
open Go.RowKit
theorem str_infoV : (Tryd.prog.info? 9).map (fun i => (i.zero, i.size, i.bytes)) = some (some (.string ⟨#[]⟩), 1, 16) := by kernel_rfl
def vkeys (l : List Rx) : List Sx := l.foldl (fun s r => if r.key ∈ s then s else s ++ [r.key]) []
theorem vk_step {L : List Rx} {i : Nat} {a : Rx} (ha : L[i]? = some a) : vkeys (L.take (i + 1)) = if a.key ∈ vkeys (L.take i) then vkeys (L.take i) else vkeys (L.take i) ++ [a.key] := by
  unfold vkeys
  rw [List.take_add_one, ha, List.foldl_append]
  rfl
theorem vk_len : ∀ (l : List Rx) (s : List Sx), (l.foldl (fun s r => if r.key ∈ s then s else s ++ [r.key]) s).length ≤ s.length + l.length
  | [], s => by simp
  | a :: l, s => by
    rw [List.foldl_cons]
    have h1 := vk_len l (if a.key ∈ s then s else s ++ [a.key])
    have h2 : (if a.key ∈ s then s else s ++ [a.key]).length ≤ s.length + 1 := by split <;> simp
    simp only [List.length_cons]
    omega
theorem vk_size {L : List Rx} {i : Nat} (hi : i ≤ L.length) : (vkeys (L.take i)).length ≤ i := by
  have := vk_len (L.take i) []
  rw [List.length_take] at this
  simp at this
  unfold vkeys
  omega
def seenM (ks : List Sx) : ByteArray → Option Value := fun s => if sx s ∈ ks then some (.bool true) else none
theorem seenM_put (ks : List Sx) (s : ByteArray) : putM (seenM ks) s (some (.bool true)) = seenM (ks ++ [sx s]) := by
  funext t
  unfold putM seenM
  by_cases e : t = s
  · subst e; simp
  · have : ¬ sx t = sx s := fun h => e (sx_inj h)
    simp [e, this]
theorem seen_look {w : World} {b n : Nat} {ks : List Sx} (h : MapG kV w b n (seenM ks)) {s : ByteArray} (hs : s.size ≤ maxLen) :
    (Instr.lookup 82 (.map (some b)) (.string s) false).run Tryd.prog w = .ok (.bool (decide (sx s ∈ ks))) w := by
  have hz : (zeroValue 4).run Tryd.prog w = .ok (.bool false) w := by kernel_rfl
  have := (h.look Tryd.underlying82 hz (x := s) hs).2
  rw [show kV.val s = Value.string s from rfl] at this
  rw [this]
  unfold seenM
  by_cases e : sx s ∈ ks <;> simp [e]
def VkRel (L : List Rx) (b : Nat) (w3 : World) (v7 v28 : Value) (wr : World) : Prop :=
  ∃ i : Nat, v28 = .int .i64 i ∧ i ≤ L.length ∧ wr.ownsRow w3.heap.size 9 1 v7 (vkeys (L.take i)).length ((vkeys (L.take i)).map encStr) ∧ MapG kV wr b i (seenM (vkeys (L.take i))) ∧ Fr (fun k => k = b) w3 wr
def atF (f : Sx → Sx × Bool) (ks : List Sx) : List (Sx × Sx) := ks.filterMap fun x => if (f x).2 then some (x, (f x).1) else none
theorem atF_step {f : Sx → Sx × Bool} {ks : List Sx} {i : Nat} {x : Sx} (hx : ks[i]? = some x) : atF f (ks.take (i + 1)) = if (f x).2 then atF f (ks.take i) ++ [(x, (f x).1)] else atF f (ks.take i) := by
  unfold atF
  rw [List.take_add_one, hx, List.filterMap_append]
  cases h : (f x).2 <;> simp [h]
theorem atF_size {f : Sx → Sx × Bool} {ks : List Sx} {i : Nat} (hi : i ≤ ks.length) : (atF f (ks.take i)).length ≤ i := by
  unfold atF
  exact Nat.le_trans (List.length_filterMap_le _ _) (by simp; omega)
def RaRel (f : Sx → Sx × Bool) (ks : List Sx) (w : World) (v10 v50 : Value) (wr : World) : Prop :=
  ∃ i : Nat, v50 = .int .i64 i ∧ i ≤ ks.length ∧ wr.ownsRow w.heap.size 29 3 v10 (atF f (ks.take i)).length ((atF f (ks.take i)).flatMap prC) ∧ Below w.heap.size w wr
def RaPost (r : List (Sx × Sx)) (w : World) (e : Ending) (w' : World) : Prop := ∃ A c, e = .returned (.tuple #[.slice A r.length c, .int .i64 0]) ∧ w'.ownsRow w.heap.size 29 3 (.slice A r.length c) r.length (r.flatMap prC) ∧ Below w.heap.size w w'
theorem own_own_V {w : World} {base base' size size' m m' : Nat} {e e' : TypeId} {v v' : Value} {xs xs' : List Value} (h : w.ownsRow base e size v m xs) (h' : w.ownsRow base' e' size' v' m' xs') (hne : e ≠ e') {b : Nat} (hb : v.ownBlock = some b) : v'.ownBlock ≠ some b := by
  rcases h.2 with ⟨rfl, _⟩ | ⟨g1, cap, cur, rfl, _, hh, _⟩
  · cases hb
  · have hb' : g1 = b := by injection hb
    subst hb'
    exact own_blk_ne h' (show Blk w g1 e cur from hh) (fun e => hne e.symm)
section
variable (base g : Nat) (V : Value) (l : List Rx) (low : Int) (t : Int) (w : World) (hI : RsI w base g V l low)
include hI
set_option maxRecDepth 100000 in
set_option maxHeartbeats 4000000 in
theorem rat_low (ht : t < low) : Calls Tryd.prog 17 #[.pointer (some ⟨g, 0, none⟩), .int .i64 t] w fun e w' => e = .returned (.tuple #[.slice none 0 0, .int .i64 8]) ∧ w' = w := by
  have c1 := hI.blk.cell 1
  have hgl := hI.blk.lt
  simp only [List.getElem?_toArray, List.getElem?_cons_zero, List.getElem?_cons_succ] at c1
  clear hI
  have d1 : decide (t < low) = true := decide_eq_true ht
  go_enter Tryd.func17, Tryd.ntmps17
  go_wp2_with fail
  go_ret2
  exact ⟨rfl, rfl⟩
set_option maxRecDepth 100000 in
set_option maxHeartbeats 16000000 in
theorem rat_any (ht : ¬ t < low) (hn : l.length ≤ 1000000) (hsm : ∀ a ∈ l, a.key.length ≤ 20) : Calls Tryd.prog 17 #[.pointer (some ⟨g, 0, none⟩), .int .i64 t] w (RaPost (atR l t) w) := by
  have hb1 : Below w.heap.size w (w.alloc (.map #[] 0)) := (Below.refl _ _).alloc (Nat.le_refl _) _
  have hI1 := hI.tall hb1
  have hm1 := MapG.made kV w
  have hgl0 := hI.blk.lt
  have c1 := hI.blk.cell 1
  obtain ⟨A, c, hV, _, _⟩ := own_slice hI1.row
  have c0 := hI1.blk.cell 0
  have hgl := hI1.blk.lt
  simp only [List.getElem?_toArray, List.getElem?_cons_zero, List.getElem?_cons_succ] at c0 c1
  rw [hV] at c0
  have HRD := Lib.hid (Rd.of_own (hV ▸ hI1.row))
  have hvb : ∀ gg oo, A = some ⟨gg, oo, none⟩ → ¬ gg = w.heap.size := fun gg oo e h => by
    have := (hI.row.lt gg (by rw [hV, e]; rfl)).2
    omega
  have HVB := Lib.hid hvb; clear hvb hV
  have hmm := @run_makeMap Tryd.prog
  have d1 : decide (t < low) = false := decide_eq_false ht
  have HI1 := Lib.hid hI1; clear hI1 hI
  have HM1 := Lib.hid hm1; clear hm1
  have HB1 := Lib.hid hb1; clear hb1
  have HSM := Lib.hid hsm; clear hsm
  have HT := Lib.hid ht; clear ht
  go_enter Tryd.func17, Tryd.ntmps17
  go_upto_region 5 with (fail)
  clear hmm c1 d1 hgl0
  generalize hw1 : w.alloc (.map #[] 0) = w1 at *
  have hz1 : w1.heap.size = w.heap.size + 1 := by rw [← hw1]; simp
  have HZ1 := Lib.hid hz1; clear hz1 hw1
  have hst : VkRel l w.heap.size w1 (.slice none 0 0) (.int .i64 (0 : Nat)) w1 := ⟨0, rfl, Nat.zero_le _, World.ownsRow_nil _ _ _ _, HM1.out, Fr.refl _ _⟩
  have HST := Lib.hid hst; clear hst
  go_wp2_with fail
  clear c0 hgl
  go_loopw [7, 28] (VkRel l w.heap.size w1) (fun _ v _ => l.length - (intOf v).toNat)
  case atStart => exact HST.out
  case round =>
    clear HST
    obtain ⟨i, rfl, hi, hown, hmap, hfr⟩ := hrel
    have hW4 : w.heap.size < w1.heap.size := by have := HZ1.out; omega
    by_cases hlt : (i : Int) < l.length
    · --{one
      obtain ⟨g', o', a, hAe, hga, hx, h0, h1, h2, h3⟩ := (HRD.out.fr hfr (Nat.le_refl _) (fun gg oo e _ => HVB.out gg oo e)).cellsX rfl (j := i) (by omega)
      subst hAe
      have hgw : g' < wr.heap.size := Nat.lt_of_lt_of_le hga hfr.size
      have hbl : Below wr.heap.size wr (wr.alloc (.cells #[.string ⟨a.key.toArray⟩, .string ⟨a.v.toArray⟩, .bool a.g, .int .i64 a.t] 81)) := (Below.refl _ _).alloc (Nat.le_refl _) _
      have hown1 := own_belowV hown hbl
      have hmap1 := hmap.alloc (.cells #[.string ⟨a.key.toArray⟩, .string ⟨a.v.toArray⟩, .bool a.g, .int .i64 a.t] 81)
      have hfr1 : Fr (fun k => k = w.heap.size) w1 (wr.alloc (.cells #[.string ⟨a.key.toArray⟩, .string ⟨a.v.toArray⟩, .bool a.g, .int .i64 a.t] 81)) := hfr.alloc _
      have ha1 : Blk (wr.alloc (.cells #[.string ⟨a.key.toArray⟩, .string ⟨a.v.toArray⟩, .bool a.g, .int .i64 a.t] 81)) wr.heap.size 81 #[.string ⟨a.key.toArray⟩, .string ⟨a.v.toArray⟩, .bool a.g, .int .i64 a.t] := Blk.new _ _ _
      have hss : (⟨a.key.toArray⟩ : ByteArray).size ≤ maxLen := by
        have := HSM.out a (List.mem_of_getElem? hx)
        show a.key.toArray.size ≤ maxLen
        unfold maxLen; simp; omega
      have hlk := seen_look hmap1 hss
      have HSL := Lib.hid (vk_size hi)
      have HZR := Lib.hid hfr.size
      have HX := Lib.hid hx; clear hx
      have HO1 := Lib.hid hown1; clear hown1 hown
      have HMP1 := Lib.hid hmap1; clear hmap1 hmap
      have HFR1 := Lib.hid hfr1; clear hfr1 hfr hbl
      have HA1 := Lib.hid ha1; clear ha1
      have HSS := Lib.hid hss; clear hss
      go_upto_region 8 with (fail)
      clear h0 h1 h2 h3
      generalize hw5 : wr.alloc (.cells #[.string ⟨a.key.toArray⟩, .string ⟨a.v.toArray⟩, .bool a.g, .int .i64 a.t] 81) = w5 at *
      have hz5 : w5.heap.size = wr.heap.size + 1 := by rw [← hw5]; simp
      have HZ5 := Lib.hid hz5; clear hz5 hw5
      have a0 := HA1.out.cell 0
      have al := HA1.out.lt
      simp only [List.getElem?_toArray, List.getElem?_cons_zero, List.getElem?_cons_succ] at a0
      rcases hm : decide (sx ⟨a.key.toArray⟩ ∈ vkeys (l.take i)) with _ | _
      · rw [hm] at hlk
        have hnin : a.key ∉ vkeys (l.take i) := by simpa using hm
        have HNI := Lib.hid hnin; clear hnin hm
        go_wp2_with (at_mapUpdate; refine stop ?_)
        refine back ?_
        refine wpList_setG (C := kV) rfl 82 4 Tryd.underlying82 (.tmp 37) (.tmp 39) _ rfl rfl HMP1.out (by unfold maxLen; omega) ⟨a.key.toArray⟩ (.bool true) rfl rfl HSS.out ?_
        intro w6 hm6 hf6
        rw [seenM_put] at hm6
        have ha6 := hf6.blk HA1.out (fun e : wr.heap.size = w.heap.size => by have := HZR.out; omega)
        have hown6 := hf6.own HO1.out (fun b hb (e : b = w.heap.size) => by have := (HO1.out.lt b hb).1; omega)
        have hfr6 := HFR1.out.trans hf6
        have HM6 := Lib.hid hm6; clear hm6
        have HO6 := Lib.hid hown6; clear hown6
        have HFR6 := Lib.hid hfr6; clear hfr6
        have HZ6 := Lib.hid hf6.size; clear hf6 hlk
        have a0' := ha6.cell 0
        have al' := ha6.lt
        simp only [List.getElem?_toArray, List.getElem?_cons_zero, List.getElem?_cons_succ] at a0'
        clear a0 al ha6
        go_wp2_with (at_builtin; refine stop ?_)
        refine back ?_
        refine wpList_append1 _ _ rfl (.tmp 40) (.tmp 43) 70 rfl w1.heap.size 9 (.string ⟨#[]⟩) 1 16 Tryd.underlying70 str_infoV rfl (by decide) _ _ _ #[.string ⟨a.key.toArray⟩] rfl HO6.out 1 rfl _ rfl rfl (by simp [Value.oneCell']) ?_ ?_ ?_ ?_
        · have := HSL.out; unfold maxLen; omega
        · have := HSL.out; omega
        · have := HZR.out; have := HZ5.out; have := HZ6.out; omega
        intro v' w9 hown9 hmv
        have hrel9 : VkRel l w.heap.size w1 v' (.int .i64 ((i + 1 : Nat) : Int)) w9 := by
          have hst := (vk_step HX.out).trans (if_neg HNI.out)
          refine ⟨i + 1, rfl, by omega, ?_, ?_, HFR6.out.trans' hmv.1 (fun k hk e => by have := (HO6.out.lt k e.symm).1; omega)⟩
          · rw [hst, List.length_append, List.map_append]
            exact hown9
          · rw [hst]
            exact (HM6.out.mono (by omega)).fr hmv.1 (fun e => by have := (HO6.out.lt _ e.symm).1; omega)
        have HR := Lib.hid hrel9; clear hrel9 hown9 hmv
        go_wp2_with fail
        go_roundw
        case rel => exact HR.out
        case measure => simp [intOf]; omega
      · rw [hm] at hlk
        have hnin : a.key ∈ vkeys (l.take i) := by simpa using hm
        clear hm
        have hrel9 : VkRel l w.heap.size w1 u7 (.int .i64 ((i + 1 : Nat) : Int)) w5 := by
          have hst := (vk_step HX.out).trans (if_pos hnin)
          refine ⟨i + 1, rfl, by omega, ?_, ?_, HFR1.out⟩
          · rw [hst]; exact HO1.out
          · rw [hst]; exact HMP1.out.mono (by omega)
        have HR := Lib.hid hrel9; clear hrel9 hnin
        go_wp2_with fail
        go_roundw
        case rel => exact HR.out
        case measure => simp [intOf]; omega
      --}one
    · --{end
      obtain rfl : i = l.length := by omega
      rw [List.take_length] at hown
      have hksz : (vkeys l).length ≤ l.length := by have := vk_size (L := l) hi; rw [List.take_length] at this; exact this
      have hs := sortStrs_any w1.heap.size _ u7 (vkeys l) wr hown rfl (by omega)
      have HS := Lib.hid hs; clear hs
      have HOW := Lib.hid hown; clear hown hmap
      have hle : w.heap.size ≤ w1.heap.size := by omega
      have hIr := HI1.out.fr hfr (fun b hb e => by
        have h1 : b = w.heap.size := e
        rcases hb with hb | hb
        · subst hb
          have := HM1.out.notBlk HI1.out.blk
          exact this h1.symm
        · have := HM1.out.notOwn HI1.out.row
          exact this (by rw [hb, h1]))
      have HIR := Lib.hid hIr; clear hIr
      have HFRR := Lib.hid hfr; clear hfr
      generalize hU : u7 = V7 at *
      clear hU
      go_wp2_with fail
      refine HS.out.mono ?_
      rintro e w9 ⟨rfl, hown9, hf9⟩
      have hI9 := HIR.out.fr hf9 (fun b hb hb2 => by
        have := (HIR.out.foot_lt hb).2
        rcases hb with rfl | hb
        · exact own_blk_ne HOW.out HIR.out.blk (by decide) hb2
        · exact own_own_V HOW.out HIR.out.row (by decide) hb2 hb)
      have hb9 : Below w.heap.size w w9 := by
        have h1 : Below w.heap.size w w1 := HB1.out
        have h2 : Below w.heap.size w1 wr := HFRR.out.below (fun k (e : k = w.heap.size) => by omega) hle
        have h3 : Below w.heap.size wr w9 := hf9.below (fun k e => by have := (HOW.out.lt k e).1; omega) (by have := HFRR.out.size; omega)
        exact (h1.trans h2).trans h3
      have hksl : (sortS (vkeys l)).length = (vkeys l).length := List.length_mergeSort _
      rw [← hksl] at hown9
      have hke : keysV l = sortS (vkeys l) := rfl
      have HKE := Lib.hid hke; clear hke
      have hksz2 : (sortS (vkeys l)).length ≤ 1000000 := by omega
      generalize sortS (vkeys l) = ks at *
      obtain ⟨A7, c7, rfl, _, _⟩ := own_slice hown9
      have HRK := Lib.hid (Rd.of_own hown9)
      have HI9 := Lib.hid hI9; clear hI9
      have HB9 := Lib.hid hb9; clear hb9 hown9 hf9 HOW HS
      clear hksl hksz
      have HAT := Lib.hid (show atR l t = atF (fun x => tellR (bestR x t l)) ks by rw [← HKE.out]; rfl)
      rename World => w9
      go_wp2_with fail
      go_loopw [10, 50] (RaRel (fun x => tellR (bestR x t l)) ks w9) (fun _ v _ => ks.length - (intOf v).toNat)
      case atStart => exact ⟨0, rfl, Nat.zero_le _, World.ownsRow_nil _ _ _ _, Below.refl _ _⟩
      case round =>
        obtain ⟨i, rfl, hi, hown, hb⟩ := hrel
        by_cases hlt : (i : Int) < ks.length
        · obtain ⟨g', o', x, hAx, hga, hx, h0⟩ := strs_at (HRK.out.below hb) (k := i) (by omega)
          subst hAx
          rename World => wy
          have hgw : g' < wy.heap.size := Nat.lt_of_lt_of_le hga hb.size
          have hge := rget_any base g V l low ⟨x.toArray⟩ t wy (HI9.out.tall hb) (by have := HT.out; omega) hn
          rw [sx_mk] at hge
          have HGE := Lib.hid hge; clear hge
          have HX := Lib.hid hx; clear hx
          have HOW := Lib.hid hown; clear hown
          have HSZ := Lib.hid (atF_size (f := fun x => tellR (bestR x t l)) hi)
          have HBB := Lib.hid hb; clear hb
          have hst := atF_step (f := fun x => tellR (bestR x t l)) HX.out
          rcases htl : tellR (bestR x t l) with ⟨v, f⟩
          rw [htl] at HGE hst
          simp only at hst
          have HST := Lib.hid hst; clear hst htl
          go_wp2_with fail
          refine HGE.out.mono ?_
          rintro e w3 ⟨rfl, hb3⟩
          have HO3 := Lib.hid (own_belowV HOW.out hb3)
          have HB3 := Lib.hid (HBB.out.trans (hb3.mono HBB.out.size)); clear hb3 HGE HOW
          rcases f with _ | _
          · have hrel9 : RaRel (fun x => tellR (bestR x t l)) ks w9 u10 (.int .i64 ((i + 1 : Nat) : Int)) w3 := by
              refine ⟨i + 1, rfl, by omega, ?_, HB3.out⟩
              rw [HST.out, if_neg (by decide)]
              exact HO3.out
            have HR := Lib.hid hrel9; clear hrel9
            go_wp2_with fail
            go_roundw
            case rel => exact HR.out
            case measure => simp [intOf]; omega
          · go_wp2_with (at_builtin; refine stop ?_)
            refine back ?_
            refine wpList_append1 _ _ rfl (.tmp 63) (.tmp 67) 35 rfl w9.heap.size 29 (.agg #[.string ⟨#[]⟩, .string ⟨#[]⟩, .bool false]) 3 40 Tryd.underlying35 pr_info rfl (by decide) _ _ _ #[.string ⟨x.toArray⟩, .string ⟨v.toArray⟩, .bool false] rfl HO3.out 1 rfl _ rfl rfl (by simp [Value.oneCell']) ?_ ?_ ?_ ?_
            · have := HSZ.out; unfold maxLen; omega
            · have := HSZ.out; omega
            · exact HB3.out.size
            intro v' w8 hown8 hmv
            have hrel9 : RaRel (fun x => tellR (bestR x t l)) ks w9 v' (.int .i64 ((i + 1 : Nat) : Int)) w8 := by
              refine ⟨i + 1, rfl, by omega, ?_, HB3.out.trans (hmv.below (fun b hb => (HO3.out.lt b hb).1) HB3.out.size)⟩
              rw [HST.out, if_pos trivial, List.length_append, List.flatMap_append, List.flatMap_singleton]
              exact hown8
            have HR := Lib.hid hrel9; clear hrel9 hown8 hmv
            go_wp2_with fail
            go_roundw
            case rel => exact HR.out
            case measure => simp [intOf]; omega
        · obtain rfl : i = ks.length := by omega
          rw [List.take_length] at hown
          obtain ⟨A8, c8, rfl, _, _⟩ := own_slice hown
          rename World => wy
          have hfin : RaPost (atR l t) w (.returned (.tuple #[.slice A8 (atF (fun x => tellR (bestR x t l)) ks).length c8, .int .i64 0])) wy := by
            rw [HAT.out]
            exact ⟨A8, c8, rfl, own_base hown HB9.out.size, HB9.out.trans (hb.mono HB9.out.size)⟩
          have HF := Lib.hid hfin; clear hfin hown hb
          go_wp2_with fail
          go_ret2
          exact HF.out
      --}end
end
end Go.Proofs.YtmgpdkecpobcaaaDoor
