/- locks: (*Table).Release. -/
import Derived.Test.YtopmehbncidpnaaGreatDoorRel3
namespace Go.Proofs.YtopmehbncidpnaaGreatDoor
open Go.RowKit Go.Maps Go.Sort Go.Shelf
theorem key_gainM {w w' : World} {base n : Nat} {L : KLoc} {k : Kx} {tx mode : Int} (h : KeyI w base n L k) (hm : MapG kI w' L.hb (n + 1) (putM (hM k.h) tx (some (.int .i64 (max (holdK k.h tx) mode))))) (hf : Fr (fun b => b = L.hb) w w') (htx : okN tx) (hmode : okN mode) :
    KeyI w' base (n + 1) L ⟨gainH k.h tx mode, k.ws⟩ := key_gain h (by
  rw [show (if mode > holdK k.h tx then mode else holdK k.h tx) = max (holdK k.h tx) mode by split <;> omega]; exact hm) hf htx hmode
theorem emp_iff {w : World} {base n : Nat} {L : KLoc} {h : Int → Option Int} {lf : List (Int × Int)} (hK : KeyI w base n L ⟨h, lf⟩) {kk : Nat} (hkk : kk = 0 ↔ ∀ x, kI.ok x → hM h x = none) : EmptyK ⟨h, lf⟩ ↔ kk = 0 ∧ lf.length = 0 := by
  have e1 : EmptyK ⟨h, lf⟩ ↔ (∀ o, h o = none) ∧ lf = [] := Iff.rfl
  rw [hkk, e1]
  constructor
  · rintro ⟨h1, h2⟩
    exact ⟨fun o _ => by unfold hM; rw [h1 o]; rfl, by rw [h2]; rfl⟩
  · rintro ⟨h1, h2⟩
    refine ⟨fun o => ?_, List.eq_nil_of_length_eq_zero h2⟩
    cases e : h o with
    | none => rfl
    | some m =>
      have := h1 o (hK.okh o m e).1
      unfold hM at this
      rw [e] at this
      cases this
theorem KeyI.notRow {w : World} {base n : Nat} {L : KLoc} {k : Kx} (h : KeyI w base n L k) {base' size m : Nat} {e : TypeId} {v : Value} {xs : List Value} (hr : w.ownsRow base' e size v m xs) (h2 : e ≠ 65) (h3 : e ≠ 62) {b : Nat} (hb : v.ownBlock = some b) : ¬ KFoot L b := by
  rintro (rfl | rfl | hk)
  · exact own_blk_ne hr h.blk h2 hb
  · exact h.holds.notOwn hr hb
  · exact own_own_ne hr h.row h3 hb hk
set_option maxRecDepth 100000 in
set_option maxHeartbeats 20000000 in
theorem release_any (base n g off : Nat) (ty : TypeId) (cs : Array Value) (mb : Option Nat) (loc : Sx → KLoc) (T : Tb) (tx : Int) (w : World) (hI : TabI w base n g off ty cs mb loc T) (htx : okN tx) (hn : n < 1000000) (hty : ty ≠ 9 ∧ ty ≠ 47 ∧ ty ≠ 3) :
    Calls Tryz.prog 9 #[.pointer (some ⟨g, off, none⟩), .int .i64 tx] w (RelPost base n g off ty cs mb loc T tx w) := by
  have hb0 : Below w.heap.size w (w.alloc (.cells #[.int .i64 tx] 3)) := (Below.refl _ _).alloc (Nat.le_refl _) _
  have hI0 := hI.tall hb0
  have hB0 : Blk (w.alloc (.cells #[.int .i64 tx] 3)) w.heap.size 3 #[.int .i64 tx] := Blk.new w _ _
  have c0 := (hI0.blk.cell off).trans hI0.c0
  have hgl := hI0.blk.lt
  have hko := keysOf_any mb (w.alloc (.cells #[.int .i64 tx] 3))
  have hso := sorted_any (w.alloc (.cells #[.int .i64 tx] 3)) hI0.map hI0.small (by omega)
  rw [show (w.alloc (.cells #[.int .i64 tx] 3)).heap.size = w.heap.size + 1 by simp] at hso
  have HKO := Lib.hid hko; clear hko
  have HSO := Lib.hid hso; clear hso
  have HI := Lib.hid hI; clear hI
  have HI0 := Lib.hid hI0; clear hI0
  have HB0 := Lib.hid hB0; clear hB0
  have HBW := Lib.hid hb0; clear hb0
  have HTX := Lib.hid htx; clear htx
  go_enter Tryz.func9, Tryz.ntmps9
  go_wp2_with fail
  refine HKO.out.mono ?_
  rintro e w2 ⟨rfl, rfl⟩
  go_wp2_with fail
  refine HSO.out.mono ?_
  rintro e w3 ⟨Vk, ks, rfl, hks, hkl, hrow, hb3⟩
  have hb4 : Below w.heap.size w w3 := HBW.out.trans (hb3.mono (by simp))
  have hst : RlRel base n g off ty cs mb loc T tx w ks Vk (.slice none 0 0) (.int .i64 (0 : Nat)) w3 := by
    have hIm := HI.out.tall hb4
    exact ⟨0, loc, [], rfl, Nat.zero_le _, rfl, by rw [tkT_0]; exact hIm.mono (by omega), fun x k hx _ => hIm.keys x k hx, fun b hb => by rw [tkT_0] at hb; exact .inl hb, (show Fr _ w w3 from ⟨hb4.os, hb4.tape, hb4.output, hb4.size, fun k hk _ => hb4.block k hk⟩), World.ownsRow_nil _ _ _ _, by simp, own_base hrow (by simp), HB0.out.below hb3 (by simp)⟩
  have HST := Lib.hid hst; clear hst
  have HKS := Lib.hid hks; clear hks
  have HKL := Lib.hid hkl; clear hkl
  obtain ⟨Ak, ck, rfl, _, _⟩ := own_slice hrow
  have HSZ3 := Lib.hid hb4.size
  clear hb3 hb4 hrow c0 hgl HKO HSO HI0 HB0 HBW
  go_wp2_with fail
  go_loopw [5, 19] (RlRel base n g off ty cs mb loc T tx w ks (.slice Ak ks.length ck)) (fun _ v _ => ks.length - (intOf v).toNat)
  case atStart => exact HST.out
  case round =>
    obtain ⟨j, loc', gs, rfl, hj, hgs, hI, hun, hft, hfr, hout, hgl, hrow, hbx⟩ := hrel
    by_cases hlt : (j : Int) < ks.length
    · have hx : ks[j]? = some ks[j] := List.getElem?_eq_getElem (by omega)
      generalize hxe : ks[j] = x at hx
      clear hxe
      have hnd := sortedS_nodup HKS.out.1
      have hfresh := take_fresh hnd hx
      obtain ⟨k, hT⟩ := Option.ne_none_iff_exists'.1 ((HKS.out.2 x).1 (List.mem_of_getElem? hx))
      have hTj := (tkT_at (T := T) (tx := tx) hfresh).trans hT
      obtain ⟨b, rfl⟩ : ∃ b, mb = some b := by
        rcases mb with _ | b
        · have := hI.map x; rw [hTj] at this; cases this
        · exact ⟨b, rfl⟩
      obtain ⟨gk, ok, hAk, hgk, hck⟩ := (Rd.of_own hrow).2 (by omega)
      subst hAk
      have cn := hck j (encStr x) (by rw [List.getElem?_map, hx]; rfl)
      have cg := (hI.blk.cell off).trans hI.c0
      have hglt := hI.blk.lt
      have hxl := HI.out.small x (by rw [hT]; simp)
      have hsx : sx ⟨x.toArray⟩ = x := by show x.toArray.toList = x; simp
      have hlk := tab_look (s := ⟨x.toArray⟩) hI.map (by rw [size_sx, hsx]; unfold maxLen; omega)
      rw [hsx, hTj] at hlk
      have hK := hun x k hT hfresh
      have ck0 := hK.blk.cell 0
      have ck1 := hK.blk.cell 1
      have hLg := hK.blk.lt
      have cb := hbx.cell 0
      have hbl := hbx.lt
      obtain ⟨A, c, hV, _, _⟩ := own_slice hK.row
      simp only [List.getElem?_toArray, List.getElem?_cons_zero, List.getElem?_cons_succ] at ck0 ck1 cb
      have HUN := Lib.hid hun; clear hun
      have HFT := Lib.hid hft; clear hft
      have HFR := Lib.hid hfr; clear hfr
      have HOUT := Lib.hid hout; clear hout
      have HGS := Lib.hid hgs; clear hgs
      have HGL := Lib.hid hgl; clear hgl
      have HROW := Lib.hid hrow; clear hrow
      have HBX := Lib.hid hbx; clear hbx
      have HIJ := Lib.hid hI; clear hI
      have HX := Lib.hid hx; clear hx
      have HFRE := Lib.hid hfresh; clear hfresh hnd
      have HTT := Lib.hid hT; clear hT
      have HTJ := Lib.hid hTj; clear hTj
      have HK := Lib.hid hK; clear hK
      have HV := Lib.hid hV; clear hV
      clear hck
      go_upto_region 6 with (fail)
      clear cn cg hlk
      refine wp_region_still_tail 5 (by kernel_rfl) (by kernel_rfl) ?_
      change wpStill _ _ (World.drew _) _ _ _
      simp only [List.take_succ_cons, List.take_zero, List.drop_succ_cons, List.drop_zero]
      repeat still_step
      refine wpStill_nil ?_
      refine wpList_delG (C := kI) rfl 63 3 Tryz.underlying63 (.tmp 32) (.tmp 33) (by kernel_rfl) (by simp [Act.eval]) (show MapG kI _ _ n _ from HK.out.holds) tx (by simp [Act.eval]; rfl) HTX.out ?_
      intro w4 hm4 hf4
      have hf4 : Fr (fun k => k = (loc' x).hb) wr w4 := (Fr.refl _ wr).drew.trans hf4
      have hK4 := key_del HK.out hm4 hf4
      have hb4 := (hf4.blk HBX.out (fun e => HK.out.holds.notBlk HBX.out e.symm))
      have ck1' := hK4.blk.cell 1
      have cb4 := hb4.cell 0
      simp only [List.getElem?_toArray, List.getElem?_cons_zero, List.getElem?_cons_succ] at ck1' cb4
      have hbl4 := hb4.lt
      have hLg4 := hK4.blk.lt
      have hdel := wdel_all base k.ws.length w.heap.size tx (loc' x).V k.ws w4 hK4.row rfl (by have : k.ws.length ≤ 50 := hK4.len; omega) cb4 (fun e => own_blk_ne hK4.row hb4 (by decide) e)
      rw [HV.out] at hdel ck1'
      have HDEL := Lib.hid hdel; clear hdel
      have HK4 := Lib.hid hK4; clear hK4
      have HF4 := Lib.hid hf4; clear hf4 hm4
      have HB4 := Lib.hid hb4; clear hb4
      clear ck0 ck1 cb hglt hLg hbl
      go_wp2_with fail
      refine HDEL.out.mono ?_
      rintro e w5 ⟨A5, c5, rfl, hrow5, hf5, hob5⟩
      rw [← HV.out] at hf5 hob5
      have hne5 : ∀ b', (loc' x).V.ownBlock = some b' → b' ≠ (loc' x).g := fun b' hb' e => own_blk_ne HK4.out.row HK4.out.blk (by decide) (e ▸ hb')
      have hb5 := hf5.blk HK4.out.blk (fun e => hne5 _ e rfl)
      have hm5 := HK4.out.holds.fr hf5 (fun e => HK4.out.holds.notOwn HK4.out.row e)
      have cs1 := hb5.cell 1
      have cf1 := hb5.frozen 1
      have hg5 := hb5.lt
      have hok1 : ∀ y ∈ offW k.ws tx, okN y.1 ∧ okN y.2 := fun y hy => HK4.out.okw y (List.mem_filter.1 hy).1
      have hl1 : (offW k.ws tx).length ≤ 50 := Nat.le_trans (offW_le _ _) HK4.out.len
      have hK6 := key_row HK4.out hb5 hm5 hrow5 hok1 hl1
      simp only [List.getElem?_toArray, List.getElem?_cons_zero, List.getElem?_cons_succ] at cs1
      rw [HV.out] at cs1
      have hf6 : Fr (KFoot (loc' x)) wr (w5.setCell ⟨(loc' x).g, 1, none⟩ (.slice A5 (offW k.ws tx).length c5)) :=
        ((HF4.out.mono (fun i _ (e : i = _) => .inr (.inl e))).trans' hf5 (fun i _ e => .inr (.inr e))).setCell (p := ⟨(loc' x).g, 1, none⟩) (.inl (.inl rfl)) _
      have hV5 : ∀ b', (Value.slice A5 (offW k.ws tx).length c5).ownBlock = some b' → (loc' x).V.ownBlock = some b' := fun b' hb' => by rw [← hob5]; exact hb'
      have HK6 := Lib.hid hK6; clear hK6
      have HF6 := Lib.hid hf6; clear hf6 hf5 hm5 hb5 hrow5 hne5 hob5
      have HOK1 := Lib.hid hok1; clear hok1
      have HL1 := Lib.hid hl1; clear hl1
      have HV5 := Lib.hid hV5; clear hV5
      go_upto_region 8 with (fail)
      clear cs1 cf1 hg5 cb4 ck1' hbl4 hLg4
      generalize w5.setCell ⟨(loc' x).g, 1, none⟩ (.slice A5 (offW k.ws tx).length c5) = w6 at *
      clear HK4 HF4 HB4 HDEL
      have hw6 : w.heap.size + 1 ≤ w6.heap.size := by have := HF6.out.size; have := HBX.out.lt; omega
      have HW6 := Lib.hid hw6; clear hw6
      have ck1 := HK6.out.blk.cell 1
      simp only [List.getElem?_toArray, List.getElem?_cons_zero, List.getElem?_cons_succ] at ck1
      have hg6 := HK6.out.blk.lt
      have hfx : ∀ b', KFoot (loc' x) b' → TFoot (some b) loc' (tkT T tx ks j) b' := fun b' hb' => .inr ⟨x, by rw [HTJ.out]; simp, hb'⟩
      have hout6 := HF6.out.own HOUT.out (fun b' hb' e => (HIJ.out.notRow HOUT.out (fun e => hty.2.1 e.symm) (by decide) (by decide) hb').2 (hfx b' e))
      have hin0 : InRel base n ⟨(loc' x).g, (loc' x).hb, .slice A5 (offW k.ws tx).length c5⟩ (setH k.h tx none) (offW k.ws tx) (w.heap.size + 1) gs x u5.ownBlock w6 u5 (.slice none 0 0) (.int .i64 (0 : Nat)) w6 :=
        ⟨0, _, [], [], rfl, Nat.zero_le _, HK6.out, World.ownsRow_nil _ _ _ _, by simpa using hout6, by simp, Fr.refl _ _, (fun y hy => by cases hy), Nat.le_refl _, Nat.le_refl _, fun b' hb' => .inl hb'⟩
      have HIN0 := Lib.hid hin0; clear hin0 hout6
      have HFX := Lib.hid hfx; clear hfx
      go_wp2_with fail
      clear ck1 hg6
      generalize u5 = U0 at *
      go_loopw [5, 9, 48] (InRel base n ⟨(loc' x).g, (loc' x).hb, .slice A5 (offW k.ws tx).length c5⟩ (setH k.h tx none) (offW k.ws tx) (w.heap.size + 1) gs x U0.ownBlock w6) (fun _ _ v _ => (offW k.ws tx).length - (intOf v).toNat)
      case atStart => exact HIN0.out
      case round =>
        --{inner
        clear HIN0
        obtain ⟨i, h, lf, done, rfl, hi, hKi, hleft, houti, hreg, hfri, hsub, hll, hdl, hob⟩ := hrel
        have hws6 := hfri.size
        have hL1 := HL1.out
        by_cases hlti : (i : Int) < (offW k.ws tx).length
        · obtain ⟨g', o', y, hA5, hg', hy, hy0, hy1⟩ := (Rd.of_own hKi.row).cells2 (l := offW k.ws tx) rfl (j := i) (by omega)
          subst hA5
          have hdrop : (offW k.ws tx).drop i = y :: (offW k.ws tx).drop (i + 1) := by
            obtain ⟨h1, h2⟩ := List.getElem?_eq_some_iff.1 hy
            rw [List.drop_eq_getElem_cons h1, h2]
          rw [hdrop] at hreg
          have hyk := HOK1.out y (List.mem_of_getElem? hy)
          have hbl : Below wr.heap.size wr (wr.alloc (.cells #[.int .i64 y.1, .int .i64 y.2] 62)) := (Below.refl _ _).alloc (Nat.le_refl _) _
          have hK1 := hKi.tall hbl
          have hleft1 := own_belowK hleft hbl
          have hout1 := own_belowK houti hbl
          have hw1 : Blk (wr.alloc (.cells #[.int .i64 y.1, .int .i64 y.2] 62)) wr.heap.size 62 #[.int .i64 y.1, .int .i64 y.2] := Blk.new _ _ _
          obtain ⟨Al, cl, hVl, _, _⟩ := own_slice hleft
          subst hVl
          have hfree := free_any (loc' x).g (loc' x).hb (n + i) lf.length cl _ h y.1 y.2 Al lf _ hK1.blk hK1.holds hK1.okh hyk.1 (Rd.of_own hleft1) rfl (by omega)
          have HFREE := Lib.hid hfree; clear hfree
          have HK1 := Lib.hid hK1; clear hK1
          have HLE1 := Lib.hid hleft1; clear hleft1
          have HOU1 := Lib.hid hout1; clear hout1
          have HW1 := Lib.hid hw1; clear hw1
          have HBL := Lib.hid hbl; clear hbl
          have HKI := Lib.hid hKi; clear hKi
          have HREG := Lib.hid hreg; clear hreg
          have HFRI := Lib.hid hfri; clear hfri
          have HSUB := Lib.hid hsub; clear hsub
          have HOB := Lib.hid hob; clear hob
          have HY := Lib.hid hy; clear hy hdrop
          have HYK := Lib.hid hyk; clear hyk
          have HLEF := Lib.hid hleft; clear hleft
          have HOUI := Lib.hid houti; clear houti
          have HWS := Lib.hid hws6; clear hws6
          have HLL := Lib.hid hll; clear hll
          have HDL := Lib.hid hdl; clear hdl
          clear hL1
          go_upto_region 12 with (fail)
          clear hy0 hy1
          generalize hW1 : wr.alloc (.cells #[.int .i64 y.1, .int .i64 y.2] 62) = w1 at *
          have hsz1 : w1.heap.size = wr.heap.size + 1 := by rw [← hW1]; simp
          clear hW1
          have HSZ1 := Lib.hid hsz1; clear hsz1
          have cw0 := HW1.out.cell 0
          have cw1 := HW1.out.cell 1
          simp only [List.getElem?_toArray, List.getElem?_cons_zero, List.getElem?_cons_succ] at cw0 cw1
          have hwl1 := HW1.out.lt
          go_wp2_with fail
          clear cw0 cw1 hwl1
          refine HFREE.out.mono ?_
          rintro e wA ⟨rfl, hbA⟩
          have hKA := HK1.out.tall hbA
          have hleA := own_belowK HLE1.out hbA
          have houA := own_belowK HOU1.out hbA
          have hwA := HW1.out.below hbA HW1.out.lt
          have cw0 := hwA.cell 0
          have cw1 := hwA.cell 1
          have hwlA := hwA.lt
          simp only [List.getElem?_toArray, List.getElem?_cons_zero, List.getElem?_cons_succ] at cw0 cw1
          have hszA : wr.heap.size + 1 ≤ wA.heap.size := by have := hbA.size; have := HSZ1.out; omega
          have hbwA : Below wr.heap.size wr wA := HBL.out.trans (hbA.mono (by have := HSZ1.out; omega))
          have HKA := Lib.hid hKA; clear hKA
          have HLEA := Lib.hid hleA; clear hleA
          have HOUA := Lib.hid houA; clear houA
          have HWA := Lib.hid hwA; clear hwA
          have HSZA := Lib.hid hszA; clear hszA
          have HBWA := Lib.hid hbwA; clear hbwA hbA
          clear HFREE HK1 HLE1 HOU1 HW1 HBL HSZ1
          rcases hfb : freeB h y.1 y.2 lf with _ | _
          · --{stays
            go_wp2_with (at_builtin; refine stop ?_)
            refine back ?_
            refine wpList_append1 _ _ rfl (.tmp 60) (.tmp 62) 60 rfl w6.heap.size 62 (.agg #[.int .i64 0, .int .i64 0]) 2 16 w_und w_info rfl (by decide) _ _ _ #[.int .i64 y.1, .int .i64 y.2] rfl HLEA.out 1 rfl _ rfl rfl (by simp [Value.oneCell']) ?_ ?_ ?_ ?_
            · have := HLL.out; have := HL1.out; unfold maxLen; omega
            · have := HLL.out; have := HL1.out; omega
            · have := HSZA.out; have := HWS.out; omega
            intro v' w9 hown9 hmv
            have hb9 : Below w6.heap.size wA w9 := hmv.below (fun b' hb' => (HLEA.out.lt b' hb').1) (by have := HSZA.out; have := HWS.out; omega)
            have hK9 : KeyI w9 base (n + (i + 1)) ⟨(loc' x).g, (loc' x).hb, .slice (some ⟨g', o', none⟩) (offW k.ws tx).length c5⟩ ⟨h, offW k.ws tx⟩ := (HKA.out.fr hmv.1 (fun b' hb' e => by
              have h1 := (HLEA.out.lt b' e.symm).1
              have h2 := (HK6.out.foot_lt (b := b') hb').2
              omega)).mono (by omega)
            have hout9 := hmv.1.own HOUA.out (fun b' hb' e => own_own_ne HOUA.out HLEA.out (by decide) hb' e.symm)
            have hreg9 := HREG.out
            rw [regrant_no hfb] at hreg9
            have hrel9 : InRel base n ⟨(loc' x).g, (loc' x).hb, .slice (some ⟨g', o', none⟩) (offW k.ws tx).length c5⟩ (setH k.h tx none) (offW k.ws tx) (w.heap.size + 1) gs x U0.ownBlock w6 u5 v' (.int .i64 ((i + 1 : Nat) : Int)) w9 := by
              have hyl := (List.getElem?_eq_some_iff.1 HY.out).1
              refine ⟨i + 1, h, lf ++ [y], done, rfl, hyl, hK9, by simpa [wtCells] using hown9, hout9, hreg9, (HFRI.out.trans' (fr_of_belowK HBWA.out) (fun q hq (e : _ ≤ q) => by have := HWS.out; omega)).trans' hmv.1 (fun q hq e => by have := (HLEA.out.lt q e.symm).1; omega), fun z hz => ?_, by have := HLL.out; simp; omega, by have := HDL.out; omega, HOB.out⟩
              rcases List.mem_append.1 hz with hz | hz
              · exact HSUB.out z hz
              · rw [List.mem_singleton.1 hz]; exact List.mem_of_getElem? HY.out
            have HREL9 := Lib.hid hrel9; clear hrel9 hK9 hout9 hreg9 hown9 hmv hb9 cw0 cw1 hwlA
            have hib : i < 50 := by have := HL1.out; omega
            go_wp2_with fail
            go_roundw
            case rel => exact HREL9.out
            case measure => simp [intOf]; omega
            --}stays
          · --{gets
            have hib : i < 50 := by have := HL1.out; omega
            go_upto_region 14 with (fail)
            refine wp_region_still_tail 16 (by kernel_rfl) (by kernel_rfl) ?_
            change wpStill _ _ (World.drew _) _ _ _
            simp only [List.take_succ_cons, List.take_zero, List.drop_succ_cons, List.drop_zero]
            have ck0 := HKA.out.blk.cell 0
            have hkl := HKA.out.blk.lt
            simp only [List.getElem?_toArray, List.getElem?_cons_zero] at ck0
            have hlk := hM_look (w := wA.drew) HKA.out.holds HYK.out.1
            repeat still_step
            refine wpStill_nil ?_
            refine wpList_setG (C := kI) rfl 63 3 Tryz.underlying63 (.tmp 67) (.tmp 69) (.tmp 79) (by kernel_rfl) (by simp [Act.eval]) (show MapG kI _ _ (n + i) _ from HKA.out.holds) (by have := HL1.out; unfold maxLen; omega) y.1 (.int .i64 (max (holdK h y.1) y.2)) (by simp [Act.eval]; rfl) (by simp [Act.eval]) HYK.out.1 ?_
            intro wB hmB hfB
            have hfB : Fr (fun b' => b' = (loc' x).hb) wA wB := (Fr.refl _ wA).drew.trans hfB
            have hKB : KeyI wB base (n + i + 1) ⟨(loc' x).g, (loc' x).hb, .slice (some ⟨g', o', none⟩) (offW k.ws tx).length c5⟩ ⟨gainH h y.1 y.2, offW k.ws tx⟩ := key_gainM HKA.out hmB hfB HYK.out.1 HYK.out.2
            have hleB := hfB.own HLEA.out (fun b' hb' e => by have h1 := (HLEA.out.lt b' hb').1; have h2 := (HK6.out.foot_lt (b := b') (.inr (.inl e))).2; omega)
            have houB := hfB.own HOUA.out (fun b' hb' e => by subst e; exact HKA.out.holds.notOwn HOUA.out hb')
            have hwB := hfB.blk HWA.out (fun e => HKA.out.holds.notBlk HWA.out e.symm)
            have cv0 := hwB.cell 0
            have cv1 := hwB.cell 1
            have hwlB := hwB.lt
            simp only [List.getElem?_toArray, List.getElem?_cons_zero, List.getElem?_cons_succ] at cv0 cv1
            have hszB : wr.heap.size + 1 ≤ wB.heap.size := by have := hfB.size; have := HSZA.out; omega
            have hfrB : Fr (fun b' => b' = (loc' x).hb ∨ U0.ownBlock = some b') w6 wB := (HFRI.out.trans' (fr_of_belowK HBWA.out) (fun q hq (e : _ ≤ q) => by have := HWS.out; omega)).trans' hfB (fun q _ e => .inl e)
            have HKB := Lib.hid hKB; clear hKB
            have HLEB := Lib.hid hleB; clear hleB
            have HOUB := Lib.hid houB; clear houB hwB
            have HSZB := Lib.hid hszB; clear hszB
            have HFRB := Lib.hid hfrB; clear hfrB hmB hfB
            clear hlk ck0 hkl cw0 cw1 hwlA HKA HLEA HOUA HWA HSZA HBWA
            go_upto_region 15 with (fail)
            go_wp2_with (at_builtin; refine stop ?_)
            refine back ?_
            refine wpList_append1 _ _ rfl (.tmp 80) (.tmp 87) 45 rfl (w.heap.size + 1) 47 (.agg #[.int .i64 0, .string ⟨#[]⟩, .int .i64 0]) 3 32 Tryz.underlying45 g_info rfl (by decide) _ _ _ #[.int .i64 y.1, .string ⟨x.toArray⟩, .int .i64 y.2] rfl HOUB.out 1 rfl _ rfl rfl (by simp [Value.oneCell']) ?_ ?_ ?_ ?_
            · have := HGL.out; have := HDL.out; have := HKL.out; unfold maxLen; omega
            · have := HGL.out; have := HDL.out; have := HKL.out; omega
            · have := HSZB.out; have := HWS.out; have := HW6.out; omega
            intro v' w9 hown9 hmv
            have hK9 : KeyI w9 base (n + (i + 1)) ⟨(loc' x).g, (loc' x).hb, .slice (some ⟨g', o', none⟩) (offW k.ws tx).length c5⟩ ⟨gainH h y.1 y.2, offW k.ws tx⟩ := HKB.out.fr hmv.1 (fun b' hb' e => HKB.out.notRow HOUB.out (by decide) (by decide) e.symm hb')
            have hle9 := hmv.1.own HLEB.out (fun b' hb' e => own_own_ne HLEB.out HOUB.out (by decide) hb' e.symm)
            have hreg9 := HREG.out
            rw [regrant_yes hfb] at hreg9
            have hrel9 : InRel base n ⟨(loc' x).g, (loc' x).hb, .slice (some ⟨g', o', none⟩) (offW k.ws tx).length c5⟩ (setH k.h tx none) (offW k.ws tx) (w.heap.size + 1) gs x U0.ownBlock w6 v' (.slice Al lf.length cl) (.int .i64 ((i + 1 : Nat) : Int)) w9 := by
              have hyl := (List.getElem?_eq_some_iff.1 HY.out).1
              refine ⟨i + 1, gainH h y.1 y.2, lf, done ++ [y], rfl, hyl, hK9, hle9, ?_, by rw [List.append_assoc]; exact hreg9, HFRB.out.trans' hmv.1 (fun q hq e => ?_), HSUB.out, by have := HLL.out; omega, by have := HDL.out; simp; omega, fun b' hb' => ?_⟩
              · have := hown9
                simp only [List.map_append, List.map_cons, List.map_nil, List.length_append, List.length_cons, List.length_nil, List.flatMap_append, List.flatMap_cons, List.flatMap_nil, akCells, List.append_assoc, List.append_nil] at this ⊢
                exact this
              · rcases HOB.out q e.symm with h1 | h1
                · exact .inr h1
                · omega
              · rcases hmv.2 with e | ⟨g9, e, hg9⟩
                · exact HOB.out b' (e.symm.trans hb')
                · rw [hb'] at e; injection e with e; exact .inr (by have := HSZB.out; have := HWS.out; omega)
            have HREL9 := Lib.hid hrel9; clear hrel9 hK9 hle9 hreg9 hown9 hmv cv0 cv1 hwlB
            go_wp2_with fail
            all_goals
              go_roundw
              case rel => exact HREL9.out
              case measure => simp [intOf]; omega
            --}gets
        · --{behind
          obtain rfl : i = (offW k.ws tx).length := by omega
          rw [List.drop_length, regrant_nil] at hreg
          have hrel : relK k tx = (⟨h, lf⟩, done) := by unfold relK; rw [hreg]; simp
          obtain ⟨Al, cl, hVl, _, _⟩ := own_slice hleft
          subst hVl
          have cs1 := hKi.blk.cell 1
          have cf1 := hKi.blk.frozen 1
          have hgl1 := hKi.blk.lt
          have ck0 := hKi.blk.cell 0
          simp only [List.getElem?_toArray, List.getElem?_cons_zero, List.getElem?_cons_succ] at cs1 ck0
          have hleb : wr.ownsRow base 62 2 (.slice Al lf.length cl) lf.length (lf.flatMap wtCells) := own_base hleft (by have := HI.out.bg; have := HW6.out; omega)
          have hK7 := (key_row hKi hKi.blk hKi.holds hleb (fun z hz => HOK1.out z (hsub z hz)) (by omega)).mono (n' := n + 50) (by omega)
          have hne7 : ∀ b', (Value.slice Al lf.length cl).ownBlock = some b' → wr.heap.size ≤ b' ∨ w6.heap.size ≤ b' := fun b' hb' => .inr (hleft.lt b' hb').1
          have hou7 := (Fr.set1 (loc' x).g wr 1 (.slice Al lf.length cl)).own houti (fun b' hb' e => by subst e; exact own_blk_ne houti hKi.blk (by decide) hb')
          have hV9 := fun b' (hb' : (Value.slice Al lf.length cl).ownBlock = some b') => Nat.le_trans HF6.out.size (hleft.lt b' hb').1
          have hf7 := ((HF6.out.mono (T := fun b' => KFoot (loc' x) b' ∨ U0.ownBlock = some b') (fun i _ h => .inl h)).trans' hfri (fun i _ e => e.elim (fun e => .inl (.inr (.inl e))) .inr)).setCell (p := ⟨(loc' x).g, 1, none⟩) (.inl (.inl (.inl rfl))) (.slice Al lf.length cl)
          have hstep := rl_step hty HIJ.out HUN.out HFT.out HFR.out HOUT.out HGS.out HGL.out HROW.out HBX.out HX.out HFRE.out HTT.out hrel hK7 hV9 hf7 hou7 (by omega)
          have HSTEP := Lib.hid hstep; clear hstep
          obtain ⟨kk, hlen, _, hkk⟩ := hK7.holds.len Tryz.underlying63
          have hemp := emp_iff hK7 hkk
          have HEMP := Lib.hid hemp; clear hemp hkk
          have HLEN := Lib.hid hlen; clear hlen
          have hjb : j < 1000000 := by have := HKL.out; omega
          have HK7 := Lib.hid hK7; clear hK7
          clear hleb hou7 hf7 hV9 hne7 hrel hreg hleft houti hfri hsub hob hws6 hL1
          clear HUN HFT HFR HOUT HGS HGL HROW HBX HX HFRE HTT HIJ HK6 HF6 HOK1 HV5 HFX HTJ HK HV
          go_upto_region 18 with (fail)
          clear cs1 cf1 ck0 hgl1 hKi
          generalize wr.setCell ⟨(loc' x).g, 1, none⟩ (.slice Al lf.length cl) = w7 at *
          have ck0 := HK7.out.blk.cell 0
          have ck1 := HK7.out.blk.cell 1
          have hgl7 := HK7.out.blk.lt
          simp only [List.getElem?_toArray, List.getElem?_cons_zero, List.getElem?_cons_succ] at ck0 ck1
          have hlen := HLEN.out 3
          by_cases hk0 : kk = 0
          · subst hk0
            by_cases hl0 : lf.length = 0
            · have d1 : ((lf.length : Int) == 0) = true := by simp [hl0]
              have he := HEMP.out.2 ⟨rfl, hl0⟩
              have hS := HSTEP.out.2.2 he
              have hI7 := HSTEP.out.1
              have cg := (hI7.blk.cell off).trans hI7.c0
              have hgl8 := hI7.blk.lt
              have HM7 := Lib.hid hI7.map; clear hI7
              have HS := Lib.hid hS; clear hS
              clear hl0
              go_upto_region 19 with (fail)
              clear d1
              obtain ⟨w8, hdrop, hm8, hf8⟩ := MapG.drop (C := kS) (show MapG kS w7 b (n + 50) _ from HM7.out) Tryz.underlying23 (x := ⟨x.toArray⟩) (by show (ByteArray.mk x.toArray).size ≤ maxLen; rw [size_sx]; show x.toArray.toList.length ≤ _; unfold maxLen; simp; omega) 0
              rw [show kS.val ⟨x.toArray⟩ = encStr x from rfl] at hdrop
              have hfin := HS.out w8 hm8 hf8
              have HFIN := Lib.hid hfin; clear hfin hm8 hf8
              go_wp2_with fail
              go_roundw
              case rel => exact HFIN.out
              case measure => simp [intOf]; omega
            · have d1 : ((lf.length : Int) == 0) = false := by rw [beq_eq_false_iff_ne]; omega
              have hS := HSTEP.out.2.1 (fun he => hl0 (HEMP.out.1 he).2)
              have HS := Lib.hid hS; clear hS hl0
              go_wp2_with fail
              go_roundw
              case rel => exact HS.out
              case measure => simp [intOf]; omega
          · have d0 : ((kk : Int) == 0) = false := by rw [beq_eq_false_iff_ne]; omega
            have hS := HSTEP.out.2.1 (fun he => hk0 (HEMP.out.1 he).1)
            have HS := Lib.hid hS; clear hS hk0
            go_wp2_with fail
            go_roundw
            case rel => exact HS.out
            case measure => simp [intOf]; omega
          --}behind
        --}inner
    · have hjk : j = ks.length := by omega
      have hfin : RelPost base n g off ty cs mb loc T tx w (.returned u5) wr := by
        rw [hjk] at hI hft hgs
        rw [tkT_all HKS.out] at hI hft
        rw [List.take_length] at hgs
        exact ⟨u5, ks, loc', rfl, HKS.out, by rw [← hgs]; exact hout, hI, hft, hfr⟩
      have HFIN := Lib.hid hfin; clear hfin hI hun hft hfr hout hgs hgl hrow hbx
      go_wp2_with fail
      go_ret
      exact HFIN.out
end Go.Proofs.YtopmehbncidpnaaGreatDoor
