/- chainmailref.Table: Keys. -/
import Derived.Test.YtopmehbncidpnaaGreatDoorRt6
import Derived.Test.YtopmehbncidpnaaGreatDoorSKeys
import Derived.Test.YtopmehbncidpnaaGreatDoorSrtS
namespace Go.Proofs.YtopmehbncidpnaaGreatDoor
open Go.RowKit
theorem str_infoL : (Tryz.prog.info? 9).map (fun i => (i.zero, i.size, i.bytes)) = some (some (.string ⟨#[]⟩), 1, 16) := by kernel_rfl
theorem own_emptyK (w : World) (base : Nat) (e : TypeId) (size : Nat) (hb : base ≤ w.heap.size) : (w.alloc (.cells #[] e)).ownsRow base e size (.slice (some ⟨w.heap.size, 0, none⟩) 0 0) 0 [] :=
  ⟨by simp, .inr ⟨w.heap.size, 0, #[], rfl, hb, by simpa [Blk] using Blk.new w e #[], Nat.le_refl _, Nat.zero_le _, by simp, by simp⟩⟩
theorem aks_one (l : List Ak) : ∀ u ∈ l.flatMap akCells, u.oneCell' = true := fun u hu => by
  obtain ⟨p, _, hp⟩ := List.mem_flatMap.1 hu
  unfold akCells at hp
  rcases List.mem_cons.1 hp with rfl | hp
  · rfl
  · rcases List.mem_cons.1 hp with rfl | hp
    · rfl
    · rw [List.mem_singleton.1 hp]; rfl
def fkeys (l : List Ak) : List Sx := l.foldl (fun l a => if a.key ∈ l then l else l ++ [a.key]) []
theorem fk_step {L : List Ak} {i : Nat} {a : Ak} (ha : L[i]? = some a) : fkeys (L.take (i + 1)) = if a.key ∈ fkeys (L.take i) then fkeys (L.take i) else fkeys (L.take i) ++ [a.key] := by
  unfold fkeys
  rw [List.take_add_one, ha, List.foldl_append]
  rfl
theorem fk_len : ∀ (l : List Ak) (s : List Sx), (l.foldl (fun l a => if a.key ∈ l then l else l ++ [a.key]) s).length ≤ s.length + l.length
  | [], s => by simp
  | a :: l, s => by
    rw [List.foldl_cons]
    have h1 := fk_len l (if a.key ∈ s then s else s ++ [a.key])
    have h2 : (if a.key ∈ s then s else s ++ [a.key]).length ≤ s.length + 1 := by split <;> simp
    simp only [List.length_cons]
    omega
theorem fk_size {L : List Ak} {i : Nat} (hi : i ≤ L.length) : (fkeys (L.take i)).length ≤ i := by
  have := fk_len (L.take i) []
  rw [List.length_take] at this
  simp at this
  unfold fkeys
  omega
def seenM (ks : List Sx) : ByteArray → Option Value := fun s => if sx s ∈ ks then some (.bool true) else none
theorem seenM_put (ks : List Sx) (s : ByteArray) : putM (seenM ks) s (some (.bool true)) = seenM (ks ++ [sx s]) := by
  funext t
  unfold putM seenM
  by_cases e : t = s
  · subst e; simp
  · have : ¬ sx t = sx s := fun h => e (sx_inj h)
    simp [e, this]
theorem seen_look {w : World} {b n : Nat} {ks : List Sx} (h : MapG kS w b n (seenM ks)) {s : ByteArray} (hs : s.size ≤ maxLen) :
    (Instr.lookup 81 (.map (some b)) (.string s) false).run Tryz.prog w = .ok (.bool (decide (sx s ∈ ks))) w := by
  have hz : (zeroValue 4).run Tryz.prog w = .ok (.bool false) w := by kernel_rfl
  have := (h.look Tryz.underlying81 hz (x := s) hs).2
  rw [show kS.val s = Value.string s from rfl] at this
  rw [this]
  unfold seenM
  by_cases e : sx s ∈ ks <;> simp [e]
def KyRel (L : List Ak) (b : Nat) (w3 : World) (v4 v20 : Value) (wr : World) : Prop :=
  ∃ i : Nat, v20 = .int .i64 i ∧ i ≤ L.length ∧ wr.ownsRow w3.heap.size 9 1 v4 (fkeys (L.take i)).length ((fkeys (L.take i)).map encStr) ∧ MapG kS wr b i (seenM (fkeys (L.take i))) ∧ Fr (fun k => k = b) w3 wr
def RkPost (ks : List Sx) (w : World) (e : Ending) (w' : World) : Prop := ∃ V, e = .returned V ∧ w'.ownsRow w.heap.size 9 1 V ks.length (ks.map encStr) ∧ Below w.heap.size w w'
set_option maxRecDepth 100000 in
set_option maxHeartbeats 8000000 in
theorem rkeys_any (base g : Nat) (VH VW : Value) (H Wt : List Ak) (w : World) (hI : RtI w base g VH VW H Wt) (hsm : ∀ a ∈ H ++ Wt, a.key.length ≤ 20) (hn : H.length ≤ 1000000) (hnw : Wt.length ≤ 1000000) :
    Calls Tryz.prog 10 #[.pointer (some ⟨g, 0, none⟩)] w (RkPost (keysR H Wt) w) := by
  have hb1 : Below w.heap.size w (w.alloc (.map #[] 0)) := (Below.refl _ _).alloc (Nat.le_refl _) _
  have hI1 := hI.tall hb1
  have hm1 := MapG.made kS w
  obtain ⟨A, c, hVH, _, _⟩ := own_slice hI1.rowH
  obtain ⟨A', c', hVW, _, _⟩ := own_slice hI1.rowW
  have hmm := @run_makeMap Tryz.prog
  have HI1 := Lib.hid hI1; clear hI1 hI
  have HM1 := Lib.hid hm1; clear hm1
  have HB1 := Lib.hid hb1; clear hb1
  have HSM := Lib.hid hsm; clear hsm
  go_enter Tryz.func10, Tryz.ntmps10
  go_upto_region 3 with (fail)
  clear hmm
  generalize hw1 : w.alloc (.map #[] 0) = w1 at *
  have hz1 : w1.heap.size = w.heap.size + 1 := by rw [← hw1]; simp
  have HZ1 := Lib.hid hz1; clear hz1 hw1
  have hcar : ∀ W, Below w1.heap.size w1 W → W.cell? ⟨g, 0, none⟩ = some (.slice A H.length c) ∧ W.cell? ⟨g, 1, none⟩ = some (.slice A' Wt.length c') := fun W hW => by
    have hb := HI1.out.blk.below hW HI1.out.blk.lt
    have k0 := hb.cell 0
    have k1 := hb.cell 1
    simp only [List.getElem?_toArray, List.getElem?_cons_zero, List.getElem?_cons_succ] at k0 k1
    exact ⟨hVH ▸ k0, hVW ▸ k1⟩
  have HCAR := Lib.hid hcar; clear hcar
  have HVH := Lib.hid hVH; clear hVH
  have HVW := Lib.hid hVW; clear hVW
  refine wp_region_any (by kernel_rfl) ?_
  change wpAny _ _ _ _ _ _ _ (World.drew _)
  refine nplainQ (fun w' => w'.cell? ⟨g, 0, none⟩ = some (.slice A H.length c) ∧ w'.cell? ⟨g, 1, none⟩ = some (.slice A' Wt.length c')) 13 (fun _ _ _ _ _ h => h) (fun HQP => ?_)
  have HCC := HCAR.out w1.drew (Below.refl _ _).drew
  refine ntakeW 1 rfl rfl (by kernel_rfl) (by kernel_rfl) (by kernel_rfl) (by kernel_rfl) (fun _ _ _ h => HQP _ _ _ _ _ h) (by kernel_rfl) HCC (fun w' hw' => by go_simp; rfl) ?_
  refine ntakeW 2 rfl rfl (by kernel_rfl) (by kernel_rfl) (by kernel_rfl) (by kernel_rfl) (fun _ _ _ h => HQP _ _ _ _ _ h) (by kernel_rfl) HCC (fun w' hw' => by go_simp; rfl) ?_
  refine ntakeW 3 rfl rfl (by kernel_rfl) (by kernel_rfl) (by kernel_rfl) (by kernel_rfl) (fun _ _ _ h => HQP _ _ _ _ _ h) (by kernel_rfl) HCC (fun w' hw' => by go_simp; rfl) ?_
  refine ntakeW 4 rfl rfl (by kernel_rfl) (by kernel_rfl) (by kernel_rfl) (by kernel_rfl) (fun _ _ _ h => HQP _ _ _ _ _ h) (by kernel_rfl) HCC (fun w' hw' => by obtain ⟨q0, q1⟩ := hw'; go_simp; rfl) ?_
  refine ntakeW 6 rfl rfl (by kernel_rfl) (by kernel_rfl) (by kernel_rfl) (by kernel_rfl) (fun _ _ _ h => HQP _ _ _ _ _ h) (by kernel_rfl) HCC (fun w' hw' => by go_simp; rfl) ?_
  refine ntakeW 7 rfl rfl (by kernel_rfl) (by kernel_rfl) (by kernel_rfl) (by kernel_rfl) (fun _ _ _ h => HQP _ _ _ _ _ h) (by kernel_rfl) HCC (fun w' hw' => by go_simp; rfl) ?_
  refine ntakeW 8 rfl rfl (by kernel_rfl) (by kernel_rfl) (by kernel_rfl) (by kernel_rfl) (fun _ _ _ h => HQP _ _ _ _ _ h) (by kernel_rfl) HCC (fun w' hw' => by go_simp; rfl) ?_
  refine ntakeW 9 rfl rfl (by kernel_rfl) (by kernel_rfl) (by kernel_rfl) (by kernel_rfl) (fun _ _ _ h => HQP _ _ _ _ _ h) (by kernel_rfl) HCC (fun w' hw' => by obtain ⟨q0, q1⟩ := hw'; go_simp; rfl) ?_
  refine ntakeW 12 rfl rfl (by kernel_rfl) (by kernel_rfl) (by kernel_rfl) (by kernel_rfl) (fun _ _ _ h => HQP _ _ _ _ _ h) (by kernel_rfl) HCC (fun w' hw' => by go_simp; rfl) ?_
  refine nonly 0 (by kernel_rfl) rfl (by kernel_rfl) (fun K hK => ?_)
  go_simp
  refine hK _ _ (fun _ => HCAR.out _ ((Below.refl _ _).alloc (Nat.le_refl _) _).drew) ?_
  clear hK K HCC
  have hI2 : RtI (w1.alloc (.cells #[] 37)) base g VH VW H Wt := HI1.out.tall ((Below.refl _ _).alloc (Nat.le_refl _) _)
  have HI2 := Lib.hid hI2; clear hI2
  have hrow2 : (w1.alloc (.cells #[] 37)).ownsRow base 37 3 (.slice A H.length c) H.length (H.flatMap akCells) := by rw [← HVH.out]; exact HI2.out.rowH
  have HR2 := Lib.hid hrow2; clear hrow2
  refine nonly 5 (by kernel_rfl) rfl (by kernel_rfl) (fun K hK => ?_)
  refine wp_appendR (w1.alloc (.cells #[] 37)).drew (.tmp 8) (.tmp 12) 27 rfl w1.heap.size 37 _ 3 32 Tryz.underlying27 a_info rfl (by decide) (.slice (some ⟨w1.heap.size, 0, none⟩) 0 0) 0 [] rfl (own_emptyK w1 w1.heap.size _ _ (Nat.le_refl _)) (w1.alloc (.cells #[] 37)).heap.size A H.length c (H.flatMap akCells) rfl (Rd.of_own HR2.out).reads (aks_one H) (by unfold maxLen; omega) (by omega) (by show w1.heap.size ≤ (w1.alloc _).heap.size; simp) ?_
  intro v1 w3 hrow3 hm3
  rw [Nat.zero_add, List.nil_append] at hrow3
  obtain ⟨A1, c1, rfl, _, _⟩ := own_slice hrow3
  have hb3 : Below w1.heap.size w1 w3 := ((Below.refl _ _).alloc (Nat.le_refl _) _).trans ((show Below w1.heap.size (w1.alloc (.cells #[] 37)) w3 from ⟨hm3.1.os, hm3.1.tape, hm3.1.output, hm3.1.size, fun k hk => hm3.1.block k (by show k < (w1.alloc _).heap.size; simp; omega) (fun e => by simp [Value.ownBlock] at e; omega)⟩))
  have HB3 := Lib.hid hb3; clear hb3 hm3
  have HR3 := Lib.hid hrow3; clear hrow3
  go_simp
  refine hK _ _ (fun _ => HCAR.out _ HB3.out) ?_
  clear hK K
  have hI3 := HI1.out.tall HB3.out
  have hroww : w3.ownsRow base 37 3 (.slice A' Wt.length c') Wt.length (Wt.flatMap akCells) := by rw [← HVW.out]; exact hI3.rowW
  have HRW := Lib.hid hroww; clear hroww hI3
  refine nonly 10 (by kernel_rfl) rfl (by kernel_rfl) (fun K hK => ?_)
  refine wp_appendR w3 (.tmp 13) (.tmp 17) 27 rfl w1.heap.size 37 _ 3 32 Tryz.underlying27 a_info rfl (by decide) (.slice A1 H.length c1) H.length _ rfl HR3.out w3.heap.size A' Wt.length c' (Wt.flatMap akCells) rfl (Rd.of_own HRW.out).reads (aks_one Wt) (by unfold maxLen; omega) (by omega) HB3.out.size ?_
  intro v2 w4 hrow4 hm4
  rw [← List.flatMap_append, ← List.length_append] at hrow4
  obtain ⟨A2, c2, rfl, _, _⟩ := own_slice hrow4
  have hb4 : Below w1.heap.size w1 w4 := HB3.out.trans (hm4.below (fun b hb => (HR3.out.lt b hb).1) HB3.out.size)
  have HB4 := Lib.hid hb4; clear hb4 hm4
  have HR4 := Lib.hid hrow4; clear hrow4
  go_simp
  refine hK _ _ (fun _ => HCAR.out _ HB4.out) ?_
  clear hK K
  refine nonly 11 (by kernel_rfl) rfl (by kernel_rfl) (fun K hK => ?_)
  go_simp
  refine hK _ _ (fun _ => HCAR.out _ HB4.out) ?_
  clear hK K
  refine ndone (by kernel_rfl) ?_ _
  clear HQP
  have hm4 : MapG kS w4 w.heap.size 0 (seenM []) := (show MapG kS w1 w.heap.size 0 (seenM []) from HM1.out).below HB4.out (by have := HZ1.out; omega)
  have hst : KyRel (H ++ Wt) w.heap.size w4 (.slice none 0 0) (.int .i64 (0 : Nat)) w4 := ⟨0, rfl, Nat.zero_le _, World.ownsRow_nil _ _ _ _, hm4, Fr.refl _ _⟩
  have HST := Lib.hid hst; clear hst
  have hnb : ∀ gg oo, A2 = some ⟨gg, oo, none⟩ → ¬ gg = w.heap.size := fun gg oo e h => by
    subst e
    have := (HR4.out.lt gg rfl).1
    have := HZ1.out
    omega
  have HNB := Lib.hid hnb; clear hnb
  have HRD := Lib.hid (Rd.of_own HR4.out); clear HR4 hm4
  have HK20 := HSM.out
  generalize hL : H ++ Wt = L at *
  have hLn : L.length = H.length + Wt.length := by rw [← hL, List.length_append]
  go_wp2_with fail
  go_loopw [4, 20] (KyRel L w.heap.size w4) (fun _ v _ => L.length - (intOf v).toNat)
  case atStart => exact HST.out
  case round =>
    obtain ⟨i, rfl, hi, hown, hmap, hfr⟩ := hrel
    have hW4 : w.heap.size < w4.heap.size := by have := HB4.out.size; have := HZ1.out; omega
    by_cases hlt : (i : Int) < (H.length : Int) + (Wt.length : Int)
    · obtain ⟨g', o', a, hAe, hga, hx, h0, h1, h2⟩ := (HRD.out.fr hfr (Nat.le_refl _) (fun gg oo e _ => HNB.out gg oo e)).cellsA rfl (j := i) (by omega)
      subst hAe
      have hgw : g' < wr.heap.size := Nat.lt_of_lt_of_le hga hfr.size
      have hbl : Below wr.heap.size wr (wr.alloc (.cells #[.int .i64 a.tx, .string ⟨a.key.toArray⟩, .int .i64 a.mode] 37)) := (Below.refl _ _).alloc (Nat.le_refl _) _
      have hown1 := own_belowK hown hbl
      have hmap1 := hmap.alloc (.cells #[.int .i64 a.tx, .string ⟨a.key.toArray⟩, .int .i64 a.mode] 37)
      have hfr1 : Fr (fun k => k = w.heap.size) w4 (wr.alloc (.cells #[.int .i64 a.tx, .string ⟨a.key.toArray⟩, .int .i64 a.mode] 37)) := hfr.alloc _
      have ha1 : Blk (wr.alloc (.cells #[.int .i64 a.tx, .string ⟨a.key.toArray⟩, .int .i64 a.mode] 37)) wr.heap.size 37 #[.int .i64 a.tx, .string ⟨a.key.toArray⟩, .int .i64 a.mode] := Blk.new _ _ _
      have hss : (⟨a.key.toArray⟩ : ByteArray).size ≤ maxLen := by
        have := HK20 a (List.mem_of_getElem? hx)
        show a.key.toArray.size ≤ maxLen
        unfold maxLen; simp; omega
      have hlk := seen_look hmap1 hss
      have HSL := Lib.hid (fk_size hi)
      have HZR := Lib.hid hfr.size
      have HX := Lib.hid hx; clear hx
      have HO1 := Lib.hid hown1; clear hown1 hown
      have HMP1 := Lib.hid hmap1; clear hmap1 hmap
      have HFR1 := Lib.hid hfr1; clear hfr1 hfr hbl
      have HA1 := Lib.hid ha1; clear ha1
      have HSS := Lib.hid hss; clear hss
      go_upto_region 6 with (fail)
      clear h0 h1 h2
      generalize hw5 : wr.alloc (.cells #[.int .i64 a.tx, .string ⟨a.key.toArray⟩, .int .i64 a.mode] 37) = w5 at *
      have hz5 : w5.heap.size = wr.heap.size + 1 := by rw [← hw5]; simp
      have HZ5 := Lib.hid hz5; clear hz5 hw5
      have a1 := HA1.out.cell 1
      have al := HA1.out.lt
      simp only [List.getElem?_toArray, List.getElem?_cons_zero, List.getElem?_cons_succ] at a1
      rcases hm : decide (sx ⟨a.key.toArray⟩ ∈ fkeys (L.take i)) with _ | _
      · rw [hm] at hlk
        have hnin : a.key ∉ fkeys (L.take i) := by simpa using hm
        have HNI := Lib.hid hnin; clear hnin hm
        go_wp2_with (at_mapUpdate; refine stop ?_)
        refine back ?_
        refine wpList_setG (C := kS) rfl 81 4 Tryz.underlying81 (.tmp 29) (.tmp 31) _ rfl rfl HMP1.out (by unfold maxLen; omega) ⟨a.key.toArray⟩ (.bool true) rfl rfl HSS.out ?_
        intro w6 hm6 hf6
        rw [seenM_put] at hm6
        have ha6 := hf6.blk HA1.out (fun e : wr.heap.size = w.heap.size => by have := HZR.out; omega)
        have hown6 := hf6.own HO1.out (fun b hb (e : b = w.heap.size) => by have := (HO1.out.lt b hb).1; omega)
        have hfr6 := HFR1.out.trans hf6
        have HM6 := Lib.hid hm6; clear hm6
        have HO6 := Lib.hid hown6; clear hown6
        have HFR6 := Lib.hid hfr6; clear hfr6
        have HZ6 := Lib.hid hf6.size; clear hf6 hlk
        have a1' := ha6.cell 1
        have al' := ha6.lt
        simp only [List.getElem?_toArray, List.getElem?_cons_zero, List.getElem?_cons_succ] at a1'
        clear a1 al ha6
        go_wp2_with (at_builtin; refine stop ?_)
        refine back ?_
        refine wpList_append1 _ _ rfl (.tmp 32) (.tmp 35) 48 rfl w4.heap.size 9 (.string ⟨#[]⟩) 1 16 Tryz.underlying48 str_infoL rfl (by decide) _ _ _ #[.string ⟨a.key.toArray⟩] rfl HO6.out 1 rfl _ rfl rfl (by simp [Value.oneCell']) ?_ ?_ ?_ ?_
        · have := HSL.out; unfold maxLen; omega
        · have := HSL.out; omega
        · have := HZR.out; have := HZ5.out; have := HZ6.out; omega
        intro v' w9 hown9 hmv
        have hrel9 : KyRel L w.heap.size w4 v' (.int .i64 ((i + 1 : Nat) : Int)) w9 := by
          have hst := (fk_step HX.out).trans (if_neg HNI.out)
          refine ⟨i + 1, rfl, by omega, ?_, ?_, HFR6.out.trans' hmv.1 (fun k hk e => by have := (HO6.out.lt k e.symm).1; omega)⟩
          · rw [hst, List.length_append, List.map_append]
            exact hown9
          · rw [hst]
            exact (HM6.out.mono (by omega)).fr hmv.1 (fun e => by have := (HO6.out.lt _ e.symm).1; omega)
        have HR := Lib.hid hrel9; clear hrel9 hown9 hmv
        go_wp2_with fail
        go_roundw
        case rel => exact HR.out
        case measure => simp [intOf]; omega
      · rw [hm] at hlk
        have hnin : a.key ∈ fkeys (L.take i) := by simpa using hm
        clear hm
        have hrel9 : KyRel L w.heap.size w4 u4 (.int .i64 ((i + 1 : Nat) : Int)) w5 := by
          have hst := (fk_step HX.out).trans (if_pos hnin)
          refine ⟨i + 1, rfl, by omega, ?_, ?_, HFR1.out⟩
          · rw [hst]; exact HO1.out
          · rw [hst]; exact HMP1.out.mono (by omega)
        have HR := Lib.hid hrel9; clear hrel9 hnin
        go_wp2_with fail
        go_roundw
        case rel => exact HR.out
        case measure => simp [intOf]; omega
    · obtain rfl : i = L.length := by omega
      rw [List.take_length] at hown
      have hs := sortStrs_any w4.heap.size _ u4 (fkeys L) wr hown rfl (by have := fk_size (L := L) hi; rw [List.take_length] at this; omega)
      have HS := Lib.hid hs; clear hs
      have HOW := Lib.hid hown; clear hown hmap
      have HFRR := Lib.hid hfr; clear hfr
      have hle : w.heap.size ≤ w4.heap.size := by omega
      have HKR := Lib.hid (show keysR H Wt = sortS (fkeys L) by unfold keysR fkeys; rw [hL])
      go_wp2_with fail
      refine HS.out.mono ?_
      rintro e w9 ⟨rfl, hown9, hf9⟩
      have hfin : RkPost (keysR H Wt) w (.returned u4) w9 := by
        refine ⟨u4, rfl, ?_, ?_⟩
        · rw [HKR.out, show (sortS (fkeys L)).length = (fkeys L).length from List.length_mergeSort _]
          exact own_base hown9 hle
        · have h1 : Below w.heap.size w w4 := HB1.out.trans (HB4.out.mono (by have := HZ1.out; omega))
          have h2 : Below w.heap.size w4 wr := HFRR.out.below (fun k (e : k = w.heap.size) => by omega) hle
          have h3 : Below w.heap.size wr w9 := hf9.below (fun k e => by have := (HOW.out.lt k e).1; omega) (by have := HFRR.out.size; omega)
          exact (h1.trans h2).trans h3
      have HF := Lib.hid hfin; clear hfin hown9 hf9
      go_wp2_with fail
      go_ret
      exact HF.out
end Go.Proofs.YtopmehbncidpnaaGreatDoor
