/- chainmailkeep.wired, WireBack: the walks. -/
import Derived.Test.YtnahkpfamocnfabDoorBackLen
import Derived.Test.YtnahkpfamocnfabDoorReadMW
import Derived.Test.YtnahkpfamocnfabDoorReadLW
import Derived.Test.YtnahkpfamocnfabDoorLogW
import Derived.Test.YtnahkpfamocnfabDoorTell
import Derived.Test.YtnahkpfamocnfabDoorPick
namespace Go.Proofs.YtnahkpfamocnfabDoor
open Go.RowKit
def m0 : Ms := ⟨3, 1, 2, 3, 300, ⟨3, 4, 5, []⟩⟩
theorem m0_ok : (msgOut m0).2 = 0 := by kernel_rfl
theorem norm_small {c : Cm} (h : smallC c) : smallC (normC c) := by
  obtain ⟨h1, h2, M, h3, h4⟩ := h
  have hn : ∀ p : Pr, (normP p).key.size = p.key.size ∧ (normP p).val.size ≤ p.val.size := fun p => by
    unfold normP
    split
    · exact ⟨rfl, Nat.zero_le _⟩
    · exact ⟨rfl, Nat.le_refl _⟩
  refine ⟨by simpa [normC] using h1, fun p hp => ?_, M, by simpa [normC] using h3, fun p hp => ?_⟩
  all_goals
    simp only [normC, List.mem_map] at hp
    obtain ⟨q, hq, rfl⟩ := hp
    have h5 := hn q
  · have h6 := h2 q hq
    unfold small at h6 ⊢
    omega
  · have h6 := h4 q hq
    omega
theorem normM_small {m : Ms} (h : smallC m.cmd) : smallC (normM m).cmd := by
  unfold normM
  split
  · exact norm_small h
  · exact smallC.of (by simp) (fun p hp => by cases hp)
theorem two_eq {a : St} (h : a.2 = 0) : a = (a.1, 0) := by rw [← h]
def TrueB (w : World) (e : Ending) (w' : World) : Prop := e = .returned (.bool true) ∧ Below w.heap.size w w'
set_option maxRecDepth 100000 in
set_option maxHeartbeats 1000000 in
theorem wired_any (w : World) : Calls Tryd.prog 8 #[] w (TrueB w) := by
  have h1 := wmsg_any m0 0 none 0 0 w (smallC.of (by simp [m0]) (fun p hp => by cases hp)) ⟨rfl, Rd.none_ _ _ _ _⟩ (Nat.zero_le _)
  unfold m0 msgV at h1
  have H1 := Lib.hid h1; clear h1
  go_enter Tryd.func8, Tryd.ntmps8
  go_wp2_with fail
  refine H1.out.mono ?_
  rintro e w1 ⟨A1, c1, rfl, hr1, ⟨_, hc1⟩, hb1⟩
  have hz : (msgOut m0).2 = 0 := m0_ok
  have hbk := readM_back (msgOut_bytes m0) (two_eq hz)
  change Rd w1 w1.heap.size 1 A1 (msgOut m0).1.length ((msgOut m0).1.map bv) at hr1
  change (msgOut m0).1.length ≤ c1 at hc1
  have hrd := wreadM_any (msgOut m0).1 w1.heap.size (msgOut m0).1.length c1 A1 w1 hr1 (Nat.le_refl _) hc1 (msgOut_bytes m0) (by have := msgOut_short (two_eq hz); omega)
  rw [hbk.1] at hrd
  have hn : normM m0 = m0 := rfl
  rw [hn] at hrd
  have HRD := Lib.hid hrd; clear hrd hbk hr1 hn
  have e0 : errV (msgOut ⟨3, 1, 2, 3, 300, ⟨3, 4, 5, []⟩⟩).2 = .nilIface := by
    have : (msgOut ⟨3, 1, 2, 3, 300, ⟨3, 4, 5, []⟩⟩).2 = 0 := hz
    rw [this]; rfl
  rw [e0]
  clear e0 hz H1
  have HB1 := Lib.hid hb1; clear hb1
  go_wp2_with fail
  refine HRD.out.mono ?_
  rintro e w2 ⟨A2, n2, k2, rfl, hr2, hb2⟩
  have hbb := HB1.out.trans (hb2.mono HB1.out.size)
  have hfin : ∀ o, Below w.heap.size w (w2.alloc o) := fun o => hbb.alloc hbb.size o
  have HF := Lib.hid hfin; clear hfin hbb hb2 hr2 HB1 HRD
  have e2 : errV (if (some m0).isSome then 0 else 3) = .nilIface := rfl
  rw [e2]
  have e3 : msgV ((some m0).getD zmsg) A2 n2 k2 = msgV m0 A2 n2 k2 := rfl
  rw [e3]
  clear e2 e3
  unfold msgV m0
  go_wp2_with fail
  go_ret
  exact ⟨rfl, HF.out _⟩
def FewRel (L : List CmR) (n : Nat) (w : World) (v : Value) (wr : World) : Prop := ∃ j : Nat, v = .int .i64 j ∧ j ≤ n ∧ (∀ x ∈ L.take j, x.n ≤ 30) ∧ wr = w
set_option maxRecDepth 100000 in
set_option maxHeartbeats 4000000 in
theorem back_walk (m : Ms) (B n k : Nat) (A : Option Addr) (L : List CmR) (nL kL : Nat) (AL : Option Addr) (cut : Int) (w : World) (hm : ReadsP w B A n m.cmd.writes) (hs : ∀ p ∈ m.cmd.writes, small p)
    (hL : ReadsC w B AL nL L) (hsl : ∀ x ∈ L, ∀ p ∈ x.c.writes, small p) (hB : B ≤ w.heap.size) (hl : Laid w) :
    Calls Tryd.prog 3 #[msgV m A n k, .slice AL nL kL, .int .i64 cut] w (TrueB w) := by
  have HM := Lib.hid hm; clear hm
  have HS := Lib.hid hs; clear hs
  have HL := Lib.hid hL; clear hL
  have HSL := Lib.hid hsl; clear hsl
  have HLD := Lib.hid hl; clear hl
  have hb0 : ∀ o, Below w.heap.size w (w.alloc o) := fun o => (Below.refl _ _).alloc (Nat.le_refl _) _
  have HB0 := Lib.hid hb0; clear hb0
  unfold msgV
  by_cases h1 : (n : Int) > 30
  · go_enter Tryd.func3, Tryd.ntmps3
    go_wp2_with fail
    go_ret
    exact ⟨rfl, HB0.out _⟩
  by_cases h2 : (nL : Int) > 30
  · go_enter Tryd.func3, Tryd.ntmps3
    go_wp2_with fail
    go_ret
    exact ⟨rfl, HB0.out _⟩
  obtain ⟨w0, hw0⟩ : ∃ w0 : World, w0 = w.alloc (.cells #[.int .i64 m.kind, .int .i64 m.from_, .int .i64 m.to_, .int .i64 m.epoch, .int .i64 m.n, .int .i64 m.cmd.kind, .int .i64 m.cmd.tx, .int .i64 m.cmd.time, .slice A n k] 26) := ⟨_, rfl⟩
  have hbw0 := HB0.out (.cells #[.int .i64 m.kind, .int .i64 m.from_, .int .i64 m.to_, .int .i64 m.epoch, .int .i64 m.n, .int .i64 m.cmd.kind, .int .i64 m.cmd.tx, .int .i64 m.cmd.time, .slice A n k] 26)
  have hblk := Blk.new w 26 #[.int .i64 m.kind, .int .i64 m.from_, .int .i64 m.to_, .int .i64 m.epoch, .int .i64 m.n, .int .i64 m.cmd.kind, .int .i64 m.cmd.tx, .int .i64 m.cmd.time, .slice A n k]
  rw [← hw0] at hbw0 hblk
  have HBW := Lib.hid hbw0; clear hbw0
  have HBK := Lib.hid hblk; clear hblk
  go_enter Tryd.func3, Tryd.ntmps3
  go_wp2_with fail
  rw [← hw0]
  clear hw0
  go_loopw [7] (FewRel L nL w0) (fun v _ => nL - (intOf v).toNat)
  case atStart => exact ⟨0, rfl, Nat.zero_le _, (fun x hx => by simp at hx), rfl⟩
  case round =>
    obtain ⟨j, rfl, hj, hfew, rfl⟩ := hrel
    by_cases hlt : (j : Int) < nL
    · obtain ⟨g, off, x, hA, hg, hx, k0, k1, k2, k3, hp⟩ := (HL.out.below (HBW.out.mono hB)).at_ (k := j) (by omega)
      have hgl : g < wr.heap.size := by have := HBW.out.size; omega
      rw [hA]
      have HFEW := Lib.hid hfew; clear hfew hp
      have HX := Lib.hid hx; clear hx hA
      by_cases h3 : (x.n : Int) > 30
      · go_wp2_with fail
        go_ret
        exact ⟨rfl, HBW.out⟩
      · go_wp2_with fail
        go_roundw
        case rel => exact ⟨j + 1, rfl, by omega, fun y hy => (by
          rw [List.take_add_one, HX.out] at hy
          rcases List.mem_append.1 hy with hy | hy
          · exact HFEW.out y hy
          · simp at hy; rw [hy]; omega), rfl⟩
        case measure => simp [intOf]; omega
    · obtain rfl : j = nL := by omega
      have hall : ∀ x ∈ L, x.n ≤ 30 := fun x hx => hfew x (by rw [List.take_of_length_le (by have := HL.out.1; omega)]; exact hx)
      have HALL := Lib.hid hall; clear hall hfew
      have h30 : n ≤ 30 := by omega
      have hL30 : j ≤ 30 := by omega
      have hwz := HBW.out.size
      have hsm : smallC m.cmd := smallC.of (by rw [HM.out.1]; omega) HS.out
      have HSM := Lib.hid hsm; clear hsm
      go_wp2_with fail
      refine (wired_any wr).mono ?_
      rintro e w1 ⟨rfl, hb1⟩
      have hbw1 := HBW.out.trans (hb1.mono hwz)
      have HB1 := Lib.hid hbw1; clear hbw1
      have hk1 := (HBK.out.below hb1 (by have := HBK.out.lt; exact this))
      have HK1 := Lib.hid hk1; clear hk1 hb1
      have hz1 := HB1.out.size
      have c0 := HK1.out.cell 0
      have c1 := HK1.out.cell 1
      have c2 := HK1.out.cell 2
      have c3 := HK1.out.cell 3
      have c4 := HK1.out.cell 4
      have c5 := HK1.out.cell 5
      have c6 := HK1.out.cell 6
      have c7 := HK1.out.cell 7
      have c8 := HK1.out.cell 8
      simp only [List.getElem?_toArray, List.getElem?_cons_succ, List.getElem?_cons_zero] at c0 c1 c2 c3 c4 c5 c6 c7 c8
      have hlt1 := HK1.out.lt
      have hmsg := wmsg_any m w.heap.size A n k w1 HSM.out ⟨HM.out.1, HM.out.2.below (HB1.out.mono hB) |>.more hB⟩ hz1
      unfold msgV at hmsg
      have HMSG := Lib.hid hmsg; clear hmsg
      go_wp2_with fail
      refine HMSG.out.mono ?_
      rintro e w2 ⟨A2, k2, rfl, hr2, ⟨_, hc2⟩, hb2⟩
      have hbw2 := HB1.out.trans (hb2.mono hz1)
      clear c0 c1 c2 c3 c4 c5 c6 c7 c8
      by_cases hz : (msgOut m).2 = 0
      case' neg =>
        rw [errV_ne hz]
        have HBX := Lib.hid hbw2; clear hbw2 hr2 hb2 hc2 hz
        go_upto_region 17 with (fail)
      case' pos =>
        have hzz : msgOut m = ((msgOut m).1, 0) := two_eq hz
        have e0 : errV (msgOut m).2 = .nilIface := by rw [hz]; rfl
        rw [e0]
        clear e0 hz
        have hlen := msgOut_short hzz
        have hpos := msgOut_pos hzz
        have hbk := readM_back (msgOut_bytes m) hzz
        have hsh := fun q (hq : q < (msgOut m).1.length) => readM_short_none (msgOut_bytes m) hzz hq
        have hby := msgOut_bytes m
        generalize (msgOut m).1 = b at *
        have hz2 := hbw2.size
        have hrd := wreadM_any b w2.heap.size b.length k2 A2 w2 hr2 (Nat.le_refl _) hc2 hby (by omega)
        rw [hbk.1] at hrd
        have HRD := Lib.hid hrd; clear hrd
        have HBW2 := Lib.hid hbw2; clear hbw2 hb2
        have HR2 := Lib.hid hr2; clear hr2
        have HBKK := Lib.hid hbk; clear hbk
        have HSH := Lib.hid hsh; clear hsh
        have HBY := Lib.hid hby; clear hby hzz
        go_wp2_with fail
        refine HRD.out.mono ?_
        rintro e w3 ⟨A3, n3, k3, rfl, hr3, hb3⟩
        have e2 : errV (if (some (normM m)).isSome then 0 else 3) = .nilIface := rfl
        rw [e2]
        have e3 : msgV ((some (normM m)).getD zmsg) A3 n3 k3 = msgV (normM m) A3 n3 k3 := rfl
        rw [e3]
        clear e2 e3
        have hbw3 := HBW2.out.trans (hb3.mono hz2)
        have hz3 := hbw3.size
        have hw3 : ∀ o, Below w3.heap.size w3 (w3.alloc o) := fun o => (Below.refl _ _).alloc (Nat.le_refl _) _
        have hmsg := fun o => wmsg_any (normM m) w3.heap.size A3 n3 k3 (w3.alloc o) (normM_small HSM.out) ⟨hr3.1, hr3.2.below (hw3 o)⟩ (by simp)
        rw [HBKK.out.2] at hmsg
        unfold msgV at hmsg ⊢
        have HMSG2 := Lib.hid hmsg; clear hmsg
        have hr2' := fun o => HR2.out.below (hb3.trans ((hw3 o).mono hb3.size))
        have HR2' := Lib.hid hr2'; clear hr2' hr3
        have hbw3' := fun o => hbw3.trans ((hw3 o).mono hz3)
        have HBW3 := Lib.hid hbw3'; clear hbw3' hbw3 hw3
        have hb3s := hb3.size
        clear hb3
        go_wp2_with fail
        refine (HMSG2.out _).mono ?_
        rintro e w4 ⟨A4, k4, rfl, hr4, ⟨_, hc4⟩, hb4⟩
        have e0 : errV ((b, 0) : St).2 = .nilIface := rfl
        rw [e0]
        clear e0
        dsimp only at hr4 hc4 ⊢
        have hbw4 := (HBW3.out _).trans (hb4.mono (HBW3.out _).size)
        have hr24 := (HR2'.out _).below (hb4.mono (by simp; omega))
        have hz4 := hbw4.size
        have hz24 : w2.heap.size ≤ w4.heap.size := by have := hb4.size; simp at this; omega
        have HBW4 := Lib.hid hbw4; clear hbw4 hb4
        have HR24 := Lib.hid hr24; clear hr24
        have HR4 := Lib.hid hr4; clear hr4
        go_wp2_with fail
        refine (pick_any cut b.length hpos (by omega) _).mono ?_
        rintro e w5 ⟨rfl, rfl⟩
        have hq := pickN_lt cut hpos
        have hsh := HSH.out _ hq
        generalize pickN cut b.length = q at *
        have hsl := fun W => slice_to W A2 b.length k2 q (by omega)
        have hrd3 := wreadM_any (b.take q) w2.heap.size q k2 A2 w4 (HR24.out.taken (by omega)) hz24 (by omega) (fun x hx => HBY.out x (List.mem_of_mem_take hx)) (by omega)
        rw [hsh] at hrd3
        have HRD3 := Lib.hid hrd3; clear hrd3 hsh
        go_wp2_with fail
        refine HRD3.out.mono ?_
        rintro e w5 ⟨A5, n5, k5, rfl, hr5, hb5⟩
        have e2 : errV (if (none : Option Ms).isSome then 0 else 3) = errV 3 := rfl
        rw [e2]
        have e3 : msgV ((none : Option Ms).getD zmsg) A5 n5 k5 = msgV zmsg A5 n5 k5 := rfl
        rw [e3]
        clear e2 e3 hr5
        have hw5 : ∀ o, Below w5.heap.size w5 (w5.alloc o) := fun o => (Below.refl _ _).alloc (Nat.le_refl _) _
        have hcv1 := fun o => str_of (c := k2) (((HR24.out.below (hb5.mono hz24)).more (Nat.le_trans hz24 hb5.size)).below (hw5 o))
        have hcv2 := fun o => str_of (c := k4) (((HR4.out.below hb5).more hb5.size).below (hw5 o))
        have hbw5 := fun o => (HBW4.out.trans (hb5.mono hz4)).trans ((hw5 o).mono (Nat.le_trans hz4 hb5.size))
        have HBW5 := Lib.hid hbw5; clear hbw5
        clear hb5 hw5
        unfold msgV zmsg
        have hcv1' := hcv1 (.cells #[.int .i64 0, .int .i64 0, .int .i64 0, .int .i64 0, .int .i64 0, .int .i64 0, .int .i64 0, .int .i64 0, .slice A5 n5 k5] 26)
        have hcv2' := hcv2 (.cells #[.int .i64 0, .int .i64 0, .int .i64 0, .int .i64 0, .int .i64 0, .int .i64 0, .int .i64 0, .int .i64 0, .slice A5 n5 k5] 26)
        clear hcv1 hcv2
        go_wp2_with fail
        refine (tell_any 3 _ (HLD.out.below (HBW5.out _) HLD.out.pos)).mono ?_
        rintro e w6 ⟨rfl, hb6⟩
        have HBX := Lib.hid ((HBW5.out _).trans (hb6.mono (HBW5.out _).size)); clear hb6
        go_upto_region 17 with (fail)
      all_goals
        have hxz := HBX.out.size
        have hls : ∀ x ∈ L, smallC x.c := fun x hx => smallC.of (by have h1 := HALL.out x hx; have h2 := (HL.out.2.2 x hx).1; omega) (HSL.out x hx)
        have hlog := wlog_any L w.heap.size AL j kL _ hls (⟨HL.out.1, (HL.out.2.1.below (HBX.out.mono hB)).more hB, fun x hx => ⟨(HL.out.2.2 x hx).1, ((HL.out.2.2 x hx).2.below (HBX.out.mono hB)).more hB⟩⟩) hxz (by omega)
        have hlc : (csOf L).length = j := by unfold csOf; rw [List.length_map]; exact HL.out.1
        have HLOG := Lib.hid hlog; clear hlog
        have HLS := Lib.hid hls; clear hls
        have HLC := Lib.hid hlc; clear hlc
        change Hid (Calls _ _ _ _ (OutPost errV (logOut (csOf L)) _)) at HLOG
        go_wp2_with fail
        refine HLOG.out.mono ?_
        rintro e v2 ⟨A2', k2', rfl, hr2, ⟨_, hc2⟩, hb2⟩
        have hbw2 := HBX.out.trans (hb2.mono hxz)
        clear HLOG
        by_cases hz : (logOut (csOf L)).2 = 0
        · have hzz : logOut (csOf L) = ((logOut (csOf L)).1, 0) := two_eq hz
          have e0 : errV (logOut (csOf L)).2 = .nilIface := by rw [hz]; rfl
          rw [e0]
          clear e0 hz
          have hlen := logOut_short (by rw [HLC.out]; omega) hzz
          have hpos := logOut_pos hzz
          have hbk := readL_back (logOut_bytes _) hzz
          have hsh := fun q (hq : q < (logOut (csOf L)).1.length) => readL_short_none (logOut_bytes _) hzz hq
          have hby := logOut_bytes (csOf L)
          generalize (logOut (csOf L)).1 = bb at *
          have hz2 := hbw2.size
          have hrd := wreadL_any bb v2.heap.size bb.length k2' A2' v2 hr2 (Nat.le_refl _) hc2 hby hlen
          rw [hbk.1] at hrd
          have HRD := Lib.hid hrd; clear hrd
          have HBW2 := Lib.hid hbw2; clear hbw2 hb2
          have HR2 := Lib.hid hr2; clear hr2
          have HBKK := Lib.hid hbk; clear hbk
          have HSH := Lib.hid hsh; clear hsh
          have HBY := Lib.hid hby; clear hby hzz
          go_wp2_with fail
          refine HRD.out.mono ?_
          rintro e v3 ⟨L3, A3, n3, k3, rfl, hc3, hr3, hb3, hn3, hx3⟩
          have e2 : errV (if (some ((csOf L).map normC)).isSome then 0 else 3) = .nilIface := rfl
          rw [e2]
          clear e2
          have hc3 : csOf L3 = (csOf L).map normC := hc3
          have hbw3 := HBW2.out.trans (hb3.mono hz2)
          have hz3 := hbw3.size
          have hl3 : L3.length = j := by have := congrArg List.length hc3; unfold csOf at this; simp at this; rw [this]; exact HL.out.1
          have hs3 : ∀ x ∈ L3, smallC x.c := fun x hx => by
            have h1 : x.c ∈ csOf L3 := List.mem_map.2 ⟨x, hx, rfl⟩
            rw [hc3] at h1
            obtain ⟨c, hc, e⟩ := List.mem_map.1 h1
            obtain ⟨y, hy, rfl⟩ := List.mem_map.1 hc
            rw [← e]
            exact norm_small (HLS.out y hy)
          have hlog := wlog_any L3 v3.heap.size A3 n3 k3 v3 hs3 hr3 (Nat.le_refl _) (by rw [← hr3.1]; omega)
          change Calls _ _ _ _ (OutPost errV (logOut (csOf L3)) _) at hlog
          rw [hc3, HBKK.out.2] at hlog
          have HLOG2 := Lib.hid hlog; clear hlog
          have hr2' := HR2.out.below hb3
          have HR2' := Lib.hid hr2'; clear hr2' hr3 hs3 hl3 hc3 hn3 hx3
          have HBW3 := Lib.hid hbw3; clear hbw3
          have hb3s := hb3.size
          clear hb3
          go_wp2_with fail
          refine HLOG2.out.mono ?_
          rintro e v4 ⟨A4', k4', rfl, hr4, ⟨_, hc4⟩, hb4⟩
          have e0 : errV ((bb, 0) : St).2 = .nilIface := rfl
          rw [e0]
          clear e0
          dsimp only at hr4 hc4 ⊢
          have hbw4 := HBW3.out.trans (hb4.mono HBW3.out.size)
          have hr24 := HR2'.out.below (hb4.mono hb3s)
          have hz4 := hbw4.size
          have hz24 : v2.heap.size ≤ v4.heap.size := Nat.le_trans hb3s hb4.size
          have HBW4 := Lib.hid hbw4; clear hbw4 hb4
          have HR24 := Lib.hid hr24; clear hr24
          have HR4 := Lib.hid hr4; clear hr4
          go_wp2_with fail
          refine (pick_any cut bb.length hpos (by omega) _).mono ?_
          rintro e v5 ⟨rfl, rfl⟩
          have hq := pickN_lt cut hpos
          have hsh := HSH.out _ hq
          generalize pickN cut bb.length = q at *
          have hsl := fun W => slice_to W A2' bb.length k2' q (by omega)
          have hrd3 := wreadL_any (bb.take q) v2.heap.size q k2' A2' v4 (HR24.out.taken (by omega)) hz24 (by omega) (fun x hx => HBY.out x (List.mem_of_mem_take hx)) (by omega)
          rw [hsh] at hrd3
          have HRD3 := Lib.hid hrd3; clear hrd3 hsh
          go_wp2_with fail
          refine HRD3.out.mono ?_
          rintro e v5 ⟨L5, A5, n5, k5, rfl, _, hr5, hb5, _, _⟩
          have e2 : errV (if (none : Option (List Cm)).isSome then 0 else 3) = errV 3 := rfl
          rw [e2]
          clear e2 hr5
          have hcv1 := str_of (c := k2') ((HR24.out.below (hb5.mono hz24)).more (Nat.le_trans hz24 hb5.size))
          have hcv2 := str_of (c := k4') ((HR4.out.below hb5).more hb5.size)
          have hbw5 := HBW4.out.trans (hb5.mono hz4)
          have HBW5 := Lib.hid hbw5; clear hbw5
          clear hb5
          go_wp2_with fail
          refine (tell_any 3 _ (HLD.out.below HBW5.out HLD.out.pos)).mono ?_
          rintro e v6 ⟨rfl, hb6⟩
          have HBY2 := Lib.hid (HBW5.out.trans (hb6.mono HBW5.out.size)); clear hb6
          go_wp2_with fail
          go_ret
          exact ⟨rfl, HBY2.out⟩
        · rw [errV_ne hz]
          have HB2 := Lib.hid hbw2; clear hbw2 hr2 hb2 hc2 hz
          go_wp2_with fail
          go_ret
          exact ⟨rfl, HB2.out⟩
end Go.Proofs.YtnahkpfamocnfabDoor
