/- chainmaillaw.LocksPlay: the walk. -/
import Derived.Test.YtopmehbncidpnaaGreatDoorLkF
import Derived.Test.YtopmehbncidpnaaGreatDoorTell
namespace Go.Proofs.YtopmehbncidpnaaGreatDoor
open Go.RowKit
structure HpR where
  what : Int
  tx : Int
  mode : Int
  key : ByteArray
def hpCells (x : HpR) : List Value := [.int .i64 x.what, .int .i64 x.tx, .int .i64 x.mode, .string x.key]
def HpOk (x : HpR) : Prop := okN x.tx ∧ x.key.size ≤ maxLen
theorem flatHp : ∀ (l : List HpR) (j : Nat) (x : HpR), l[j]? = some x → ∀ i, i < 4 → (l.flatMap hpCells)[j * 4 + i]? = (hpCells x)[i]?
  | [], j, p, h, i, hi => by simp at h
  | q :: l, 0, p, h, i, hi => by
    simp at h
    subst h
    rw [List.flatMap_cons, List.getElem?_append_left (by show _ < 4; omega)]
    simp
  | q :: l, j + 1, p, h, i, hi => by
    have h' : l[j]? = some p := by simpa using h
    have e : (j + 1) * 4 + i = (j * 4 + i) + 4 := by omega
    have e3 : (hpCells q).length = 4 := rfl
    rw [e, List.flatMap_cons, List.getElem?_append_right (by rw [e3]; omega), e3, Nat.add_sub_cancel]
    exact flatHp l j p h' i hi
theorem Rd.cellsHp {w : World} {B n j : Nat} {A : Option Addr} {l : List HpR} (h : Rd w B 4 A n (l.flatMap hpCells)) (hl : l.length = n) (hj : j < n) : ∃ g off x, A = some ⟨g, off, none⟩ ∧ g < B ∧ l[j]? = some x ∧
    w.cell? ⟨g, off + j * 4, none⟩ = some (.int .i64 x.what) ∧ w.cell? ⟨g, off + j * 4 + 1, none⟩ = some (.int .i64 x.tx) ∧ w.cell? ⟨g, off + j * 4 + 2, none⟩ = some (.int .i64 x.mode) ∧ w.cell? ⟨g, off + j * 4 + 3, none⟩ = some (.string x.key) := by
  obtain ⟨g, off, e, hb, hc⟩ := h.2 (by omega)
  have hx : l[j]? = some l[j] := List.getElem?_eq_getElem (by omega)
  have hf := flatHp l j _ hx
  exact ⟨g, off, l[j], e, hb, hx, hc (j * 4) _ (hf 0 (by omega)), hc (j * 4 + 1) _ (hf 1 (by omega)), hc (j * 4 + 2) _ (hf 2 (by omega)), hc (j * 4 + 3) _ (hf 3 (by omega))⟩
/-- The two tables side by side. -/
structure LpT (W : World) (n m : Nat) (T : Tb) (H Wt : List Ak) (VH VW : Value) (w : World) : Prop where
  ta : TA W.heap.size n T W (fun _ => False) w
  rt : RtI w W.heap.size (W.heap.size + 1) VH VW H Wt
  tb : TbR H Wt T
  sz : H.length + Wt.length ≤ m
def LpS (W : World) (n m : Nat) (w : World) : Prop := ∃ T H Wt VH VW, LpT W n m T H Wt VH VW w
theorem LpT.tall {W : World} {n m : Nat} {T : Tb} {H Wt : List Ak} {VH VW : Value} {w w' : World} (h : LpT W n m T H Wt VH VW w) (hb : Below w.heap.size w w') : LpT W n m T H Wt VH VW w' := ⟨h.ta.tall hb, h.rt.tall hb, h.tb, h.sz⟩
theorem LpT.below {W : World} {n m : Nat} {T : Tb} {H Wt : List Ak} {VH VW : Value} {w : World} (h : LpT W n m T H Wt VH VW w) : Below W.heap.size W w := by
  obtain ⟨_, _, _, h, _⟩ := h.ta
  exact h
theorem LpT.mono {W : World} {n n' m m' : Nat} {T : Tb} {H Wt : List Ak} {VH VW : Value} {w : World} (h : LpT W n m T H Wt VH VW w) (hn : n ≤ n') (hm : m ≤ m') : LpT W n' m' T H Wt VH VW w := ⟨h.ta.mono hn (fun b h => h), h.rt, h.tb, Nat.le_trans h.sz hm⟩
def LpRel (W : World) (n : Nat) (v5 : Value) (wr : World) : Prop := ∃ i : Nat, v5 = .int .i64 i ∧ i ≤ n ∧ LpS W (60 * i) i wr
theorem lp_start (W : World) : LpS W 0 0 ((W.alloc (.cells #[.map none] 25)).alloc (.cells #[.slice none 0 0, .slice none 0 0] 29)) := by
  refine ⟨_, [], [], .slice none 0 0, .slice none 0 0, ⟨(TA.new W).tall ((Below.refl _ _).alloc (Nat.le_refl _) _), ⟨?_, World.ownsRow_nil _ _ _ _, World.ownsRow_nil _ _ _ _, (fun b h => by cases h), by omega⟩, TbR.empty, Nat.le_refl _⟩⟩
  have := Blk.new (W.alloc (.cells #[.map none] 25)) 29 #[.slice none 0 0, .slice none 0 0]
  simpa using this
/-- The document's step, then the program's. -/
theorem LpT.doc {W : World} {n m : Nat} {T : Tb} {H Wt H' W' : List Ak} {VH VW : Value} {w w' : World} (h : LpT W n m T H Wt VH VW w) (k : RtS W.heap.size (W.heap.size + 1) VH VW H' W' w w') :
    ∃ VH' VW', TA W.heap.size n T W (fun _ => False) w' ∧ RtI w' W.heap.size (W.heap.size + 1) VH' VW' H' W' ∧ Fr (RFoot (W.heap.size + 1) VH VW) w w' := by
  obtain ⟨VH', VW', hI, hf, hft⟩ := k
  refine ⟨VH', VW', ?_, hI, hf⟩
  exact (h.ta.also (U' := RFoot (W.heap.size + 1) VH VW) (fun b hb => h.rt.blks hb)).fr hf (fun b hb => .inr hb) (fun b hb => (h.rt.foot_lt hb).1)
theorem lp_small {W : World} {n m : Nat} {T : Tb} {H Wt : List Ak} {VH VW : Value} {w : World} (h : LpT W n m T H Wt VH VW w) : ∀ a ∈ H ++ Wt, a.key.length ≤ 20 := fun a ha =>
  h.ta.small ((h.tb.keysP.2 a.key).1 (mem_keysR.2 ⟨a, ha, rfl⟩))
theorem Rd.cellsS {w : World} {B n k : Nat} {A : Option Addr} {l : List Sx} (h : Rd w B 1 A n (l.map encStr)) (hk : k < n) : ∃ g off x, A = some ⟨g, off, none⟩ ∧ g < B ∧ l[k]? = some x ∧ w.cell? ⟨g, off + k, none⟩ = some (.string ⟨x.toArray⟩) := by
  obtain ⟨g, off, u, hA, hg, hx, hc⟩ := h.at1 hk
  rw [List.getElem?_map] at hx
  rcases hh : l[k]? with _ | x
  · rw [hh] at hx; simp at hx
  · rw [hh] at hx; simp at hx; subst hx; exact ⟨g, off, x, hA, hg, rfl, hc⟩
def CkRel (n : Nat) (w : World) (v : Value) (wr : World) : Prop := ∃ j : Nat, v = .int .i64 j ∧ j ≤ n ∧ Below w.heap.size w wr
set_option maxRecDepth 100000 in
set_option maxHeartbeats 20000000 in
theorem locksPlay_walk (l : List HpR) (n kc : Nat) (A : Option Addr) (W : World) (hr : Rd W W.heap.size 4 A n (l.flatMap hpCells)) (hl : l.length = n) (hok : ∀ x ∈ l, HpOk x) (hld : Laid W) :
    Calls Tryz.prog 3 #[.slice A n kc] W fun e w' => e = .returned (.bool true) ∧ Below W.heap.size W w' := by
  have HR := Lib.hid hr; clear hr
  have HOK := Lib.hid hok; clear hok
  have HLD := Lib.hid hld; clear hld
  by_cases h100 : (n : Int) > 120
  · go_enter Tryz.func3, Tryz.ntmps3
    go_wp2_with fail
    go_ret
    exact ⟨rfl, Below.refl _ _⟩
  have HST := Lib.hid (show LpRel W n (.int .i64 (0 : Nat)) _ from ⟨0, rfl, Nat.zero_le _, lp_start W⟩)
  go_enter Tryz.func3, Tryz.ntmps3
  go_wp2_with fail
  go_loopw [5] (LpRel W n) (fun v _ => n - (intOf v).toNat)
  case atStart => exact HST.out
  case round =>
    clear HST
    obtain ⟨i, rfl, hi, T, H, Wt, VH, VW, hT⟩ := hrel
    by_cases hlt : (i : Int) < n
    · --{round
      have hbw := hT.below
      obtain ⟨gA, oA, x, rfl, hgA, hx, c0, c1, c2, c3⟩ := (HR.out.below hbw).cellsHp hl (j := i) (by omega)
      have hgw : gA < wr.heap.size := Nat.lt_of_lt_of_le hgA hbw.size
      have hxo := HOK.out x (List.mem_of_getElem? hx)
      obtain ⟨what, tx, mode, key⟩ := x
      obtain ⟨htx, hky⟩ := hxo
      simp only at c0 c1 c2 c3 htx hky
      have hb0 : Below wr.heap.size wr (wr.alloc (.cells #[.int .i64 what, .int .i64 tx, .int .i64 mode, .string key] 31)) := (Below.refl _ _).alloc (Nat.le_refl _) _
      have hT1 := hT.tall hb0
      have hx1 : Blk (wr.alloc (.cells #[.int .i64 what, .int .i64 tx, .int .i64 mode, .string key] 31)) wr.heap.size 31 #[.int .i64 what, .int .i64 tx, .int .i64 mode, .string key] := Blk.new _ _ _
      have HX1 := Lib.hid hx1; clear hx1
      have HT1 := Lib.hid hT1; clear hT1 hT
      have HTX := Lib.hid htx; clear htx
      have HKY := Lib.hid hky; clear hky hx hb0
      go_upto_region 9 with (fail)
      clear c0 c1 c2 c3 hgw
      generalize wr.alloc (.cells #[.int .i64 what, .int .i64 tx, .int .i64 mode, .string key] 31) = w1 at *
      generalize wr.heap.size = hb at *
      have k0 := HX1.out.cell 0
      have k1 := HX1.out.cell 1
      have k2 := HX1.out.cell 2
      have k3 := HX1.out.cell 3
      have kl := HX1.out.lt
      simp only [List.getElem?_toArray, List.getElem?_cons_zero, List.getElem?_cons_succ] at k0 k1 k2 k3
      have hin : i < 120 := by omega
      go_upto_block 2 with (fail)
      go_cut [] (fun wx => LpS W (60 * (i + 1)) (i + 1) wx ∧ Blk wx hb 31 #[.int .i64 what, .int .i64 tx, .int .i64 mode, .string key])
      case first =>
        by_cases e0 : what = 0
        · --{lock
          have d0 : (what == 0) = true := by simpa using e0
          clear e0
          have hRL := rlock_all W.heap.size (W.heap.size + 1) VH VW H Wt key tx mode w1 HT1.out.rt (by have := HT1.out.sz; omega) (by have := HT1.out.sz; omega)
          have hsz := lockR_sz H Wt ⟨tx, sx key, mode⟩
          have hso := lockR_out H Wt ⟨tx, sx key, mode⟩
          rcases hrr : lockR H Wt ⟨tx, sx key, mode⟩ with ⟨ok7, l7, er7, H7, W7⟩
          rw [hrr] at hRL hsz hso
          simp only at hsz hso
          have HSZ := Lib.hid (And.intro hsz (Nat.le_trans hso (Nat.le_trans (Nat.le_add_right _ _) HT1.out.sz))); clear hsz hso
          have HRR := Lib.hid hrr; clear hrr
          have HRL := Lib.hid hRL; clear hRL
          go_wp2_with fail
          refine HRL.out.mono ?_
          intro e w2 hpost
          obtain ⟨A2, c2, rfl, hs2, hrow2⟩ := hpost.parts
          clear hpost HRL
          obtain ⟨VH2, VW2, hta2, hrt2, hf2⟩ := HT1.out.doc hs2
          have hx2 := hf2.blk HX1.out (HT1.out.rt.notBlk HX1.out (by decide) (by decide))
          have hta2' := ((hta2.also (U' := RFoot (W.heap.size + 1) VH2 VW2) (fun b hb => hrt2.blks hb)).also (U' := fun b => b = hb) (fun b e => ⟨_, _, (show b = hb from e) ▸ hx2, by decide, by decide, by decide⟩)).also (U' := fun b => (Value.slice A2 l7.length c2).ownBlock = some b) (fun b hb => by obtain ⟨cs, hc⟩ := own_block hrow2 hb; exact ⟨_, _, hc, by decide, by decide, by decide⟩)
          have hLK := ta_lockL hta2' key tx mode HTX.out (by omega) (HT1.out.tb.keys (sx key)).sorted
          clear k0 k1 k2 k3 kl hs2 hf2 hta2 hta2'
          have k1 := hx2.cell 1
          have k2 := hx2.cell 2
          have k3 := hx2.cell 3
          have kl := hx2.lt
          simp only [List.getElem?_toArray, List.getElem?_cons_zero, List.getElem?_cons_succ] at k1 k2 k3
          have HLK := Lib.hid hLK; clear hLK
          have HX2 := Lib.hid hx2; clear hx2
          have HRT2 := Lib.hid hrt2; clear hrt2
          have HROW2 := Lib.hid hrow2; clear hrow2
          go_wp2_with fail
          refine HLK.out.mono ?_
          rintro e w3 ⟨ok, l', er, T', A3, c3, rfl, hP, hta3, hrd3, hsame⟩
          clear HLK k1 k2 k3 kl
          obtain ⟨q1, q2, q3, q4⟩ := HT1.out.tb.lock ⟨tx, sx key, mode⟩ hP
          rw [HRR.out] at q1 q2 q3 q4
          simp only at q1 q2 q3 q4
          subst q1 q2 q3
          have hT3 : LpT W (60 * (i + 1)) (i + 1) T' H7 W7 VH2 VW2 w3 := ⟨hta3.mono (U' := fun _ => False) (by omega) (fun b h => h.elim), HRT2.out.same (fun b hb => hsame b (.inl (.inl (.inr hb)))), q4, by have := HSZ.out.1; have := HT1.out.sz; omega⟩
          have hx3 : Blk w3 hb 31 #[.int .i64 what, .int .i64 tx, .int .i64 mode, .string key] := (hsame hb (.inl (.inr rfl))).trans HX2.out
          have hrow3 := own_same HROW2.out (fun b hb => hsame b (.inr hb))
          have hbare : Calls Tryz.prog 6 #[erV er7, .int .i64 er7] w3 _ := bare_any er7 er7 w3 (HLD.out.below hT3.below HLD.out.pos)
          have HBA := Lib.hid hbare; clear hbare
          have HT3 := Lib.hid hT3; clear hT3
          have HX3 := Lib.hid hx3; clear hx3
          have HROW3 := Lib.hid hrow3; clear hrow3
          have HRD3 := Lib.hid hrd3; clear hrd3 hsame hP hta3 q4
          go_wp2_with fail
          refine HBA.out.mono ?_
          rintro e w4 ⟨rfl, hb4⟩
          have hsm := sameI_any l7 w4.heap.size w4.heap.size l7.length c3 c2 A3 A2 w4 ((HRD3.out.below hb4).more hb4.size) (Rd.of_own (own_belowK HROW3.out hb4)) (Nat.le_refl _) (Nat.le_refl _) (by have := HSZ.out.2; omega)
          have HSM := Lib.hid hsm; clear hsm
          have HB4 := Lib.hid hb4; clear hb4 HBA
          go_wp2_with fail
          refine HSM.out.mono ?_
          rintro e w5 ⟨rfl, hb5⟩
          have hb35 := HB4.out.trans (hb5.mono HB4.out.size)
          have hfin : LpS W (60 * (i + 1)) (i + 1) w5 ∧ Blk w5 hb 31 #[.int .i64 what, .int .i64 tx, .int .i64 mode, .string key] := ⟨⟨_, _, _, _, _, HT3.out.tall hb35⟩, HX3.out.below hb35 HX3.out.lt⟩
          have HF := Lib.hid hfin; clear hfin hb5 hb35 HSM
          go_wp2_with fail
          go_meet
          exact HF.out
          --}lock
        · have d0 : (what == 0) = false := by simpa using e0
          by_cases e1 : what = 1
          · --{rel
            have d1 : (what == 1) = true := by simpa using e1
            clear e1 e0
            have hRL := rrelease_any W.heap.size (W.heap.size + 1) VH VW H Wt tx w1 HT1.out.rt (lp_small HT1.out) (by have := HT1.out.sz; omega)
            have hsz := releaseR_sz H Wt tx
            have hso := releaseR_out H Wt tx
            obtain ⟨hG, hT'⟩ := HT1.out.tb.release tx
            rcases hrr : releaseR H Wt tx with ⟨H7, W7, G⟩
            rw [hrr] at hRL hsz hso hG hT'
            simp only at hsz hso hG hT'
            have HSZ := Lib.hid (And.intro hsz (Nat.le_trans hso (Nat.le_trans (Nat.le_add_left _ _) HT1.out.sz))); clear hsz hso hrr
            have HRL := Lib.hid hRL; clear hRL
            have HG := Lib.hid hG; clear hG
            have HTB := Lib.hid hT'; clear hT'
            go_wp2_with fail
            refine HRL.out.mono ?_
            intro e w2 hpost
            obtain ⟨V2, rfl, hs2, hrow2⟩ := hpost.parts
            obtain ⟨A2, c2, rfl, _, _⟩ := own_slice hrow2
            clear hpost HRL
            obtain ⟨VH2, VW2, hta2, hrt2, hf2⟩ := HT1.out.doc hs2
            have hx2 := hf2.blk HX1.out (HT1.out.rt.notBlk HX1.out (by decide) (by decide))
            have hta2' := ((hta2.also (U' := RFoot (W.heap.size + 1) VH2 VW2) (fun b hb => hrt2.blks hb)).also (U' := fun b => b = hb) (fun b e => ⟨_, _, (show b = hb from e) ▸ hx2, by decide, by decide, by decide⟩)).also (U' := fun b => (Value.slice A2 G.length c2).ownBlock = some b) (fun b hb => by obtain ⟨cs, hc⟩ := own_block hrow2 hb; exact ⟨_, _, hc, by decide, by decide, by decide⟩)
            have hLK := ta_release hta2' tx HTX.out (by omega)
            clear k0 k1 k2 k3 kl hs2 hf2 hta2 hta2'
            have k1 := hx2.cell 1
            have kl := hx2.lt
            simp only [List.getElem?_toArray, List.getElem?_cons_zero, List.getElem?_cons_succ] at k1
            have HLK := Lib.hid hLK; clear hLK
            have HX2 := Lib.hid hx2; clear hx2
            have HRT2 := Lib.hid hrt2; clear hrt2
            have HROW2 := Lib.hid hrow2; clear hrow2
            go_wp2_with fail
            refine HLK.out.mono ?_
            rintro e w3 ⟨V3, ks, rfl, hks, hrow3, hta3, hsame, hle⟩
            clear HLK k1 kl
            have hkse : ks = keysR H Wt := hks.uniq HT1.out.tb.keysP
            have hGG : ks.flatMap (grantsOf T tx) = G := by rw [hkse]; exact HG.out.symm
            rw [hGG] at hrow3
            clear hkse hGG hks
            obtain ⟨A3, c3, rfl, _, _⟩ := own_slice hrow3
            have hT3 : LpT W (60 * (i + 1)) (i + 1) (relT T tx) H7 W7 VH2 VW2 w3 := ⟨hta3.mono (U' := fun _ => False) (by omega) (fun b h => h.elim), HRT2.out.same (fun b hb => hsame b (.inl (.inl (.inr hb)))), HTB.out, by have := HSZ.out.1; have := HT1.out.sz; omega⟩
            have hx3 : Blk w3 hb 31 #[.int .i64 what, .int .i64 tx, .int .i64 mode, .string key] := (hsame hb (.inl (.inr rfl))).trans HX2.out
            have hrow2' := own_same HROW2.out (fun b hb => hsame b (.inr hb))
            have HT3 := Lib.hid hT3; clear hT3
            have HX3 := Lib.hid hx3; clear hx3
            have HRD2 := Lib.hid (Rd.of_own hrow2'); clear hrow2'
            have HRD3 := Lib.hid (Rd.of_own hrow3); clear hrow3 hsame hta3 hle HROW2
            have hgl : G.length ≤ 1000000 := by have := HSZ.out.2; omega
            go_wp2_with fail
            go_loopw [15] (CkRel G.length w3) (fun v _ => G.length - (intOf v).toNat)
            case atStart => exact ⟨0, rfl, Nat.zero_le _, Below.refl _ _⟩
            case round =>
              rename World => w4
              obtain ⟨k, rfl, hk, hb4⟩ := hrel
              by_cases hltk : (k : Int) < G.length
              · obtain ⟨g3, o3, a, hA3, hg3, ha3, p0, p1, p2⟩ := (HRD3.out.below hb4).cellsA rfl (j := k) (by omega)
                obtain ⟨g2, o2, a', hA2, hg2, ha2, r0, r1, r2⟩ := (HRD2.out.below hb4).cellsA rfl (j := k) (by omega)
                rw [ha3] at ha2
                obtain rfl : a = a' := Option.some.inj ha2
                subst hA3 hA2
                have hz := hb4.size
                have hgl3 : g3 < w4.heap.size := by omega
                have hgl2 : g2 < w4.heap.size := by omega
                have HB4 := Lib.hid hb4; clear hb4 ha3 ha2 hz
                go_wp2_with fail
                go_quiet (fail)
                go_wp2_with fail
                go_roundw
                case rel => exact ⟨k + 1, rfl, by omega, ⟨HB4.out.os, HB4.out.tape, HB4.out.output, HB4.out.size, HB4.out.block⟩⟩
                case measure => simp [intOf]; omega
              · have hfin : LpS W (60 * (i + 1)) (i + 1) w4 ∧ Blk w4 hb 31 #[.int .i64 what, .int .i64 tx, .int .i64 mode, .string key] := ⟨⟨_, _, _, _, _, HT3.out.tall hb4⟩, HX3.out.below hb4 HX3.out.lt⟩
                have HF := Lib.hid hfin; clear hfin hb4
                go_wp2_with fail
                go_meet
                exact HF.out
            --}rel
          · --{none
            have d1 : (what == 1) = false := by simpa using e1
            clear e1 e0
            have hfin : LpS W (60 * (i + 1)) (i + 1) w1 ∧ Blk w1 hb 31 #[.int .i64 what, .int .i64 tx, .int .i64 mode, .string key] := ⟨⟨_, _, _, _, _, HT1.out.mono (by omega) (by omega)⟩, HX1.out⟩
            have HF := Lib.hid hfin; clear hfin
            go_wp2_with fail
            go_meet
            exact HF.out
            --}none
      case rest =>
        --{tail
        obtain ⟨⟨T2, H2, W2, VH2, VW2, hT2⟩, hx2⟩ := hcut
        clear HT1 HX1 k0 k1 k2 k3 kl
        rename World => w2
        have hn2 : 60 * (i + 1) < 1000000 := by omega
        have hsz2 := hT2.sz
        have HRK := Lib.hid (rkeys_any W.heap.size (W.heap.size + 1) VH2 VW2 H2 W2 w2 hT2.rt (lp_small hT2) (by omega) (by omega))
        have HT2 := Lib.hid hT2; clear hT2
        have HX2 := Lib.hid hx2; clear hx2
        go_wp2_with fail
        refine HRK.out.mono ?_
        rintro e w3 ⟨V16, rfl, hrow16, hb3⟩
        obtain ⟨A16, c16, rfl, _, _⟩ := own_slice hrow16
        have hT3 := HT2.out.tall hb3
        have HTK := Lib.hid (ta_keys hT3.ta (by omega))
        have HT3 := Lib.hid hT3; clear hT3
        have HX3 := Lib.hid (HX2.out.below hb3 HX2.out.lt)
        have HROW16 := Lib.hid hrow16; clear hrow16 hb3 HRK HT2 HX2
        go_wp2_with fail
        refine HTK.out.mono ?_
        rintro e w4 ⟨V17, ks, rfl, hks, hkl, hrow17, hb4⟩
        obtain rfl : ks = keysR H2 W2 := hks.uniq HT3.out.tb.keysP
        obtain ⟨A17, c17, rfl, _, _⟩ := own_slice hrow17
        have hT4 := HT3.out.tall hb4
        have hx4 := HX3.out.below hb4 HX3.out.lt
        have HRD16 := Lib.hid (Rd.of_own (own_belowK HROW16.out hb4))
        have HRD17 := Lib.hid (Rd.of_own hrow17)
        clear hrow17 hb4 hks HTK HROW16 HT3 HX3
        have hcar : ∀ W', Below w4.heap.size w4 W' → W'.cell? ⟨hb, 1, none⟩ = some (.int .i64 tx) ∧ W'.cell? ⟨hb, 3, none⟩ = some (.string key) := fun W' hW => by
          have hk := hx4.below hW hx4.lt
          have k1 := hk.cell 1
          have k3 := hk.cell 3
          simp only [List.getElem?_toArray, List.getElem?_cons_zero, List.getElem?_cons_succ] at k1 k3
          exact ⟨k1, k3⟩
        have HCAR := Lib.hid hcar; clear hcar hx4
        have HT4 := Lib.hid hT4; clear hT4
        go_wp2_with fail
        refine wp_region_any (by kernel_rfl) ?_
        change wpAny _ _ _ _ _ _ _ (World.drew _)
        refine nplainQ (fun w' => w'.cell? ⟨hb, 1, none⟩ = some (.int .i64 tx) ∧ w'.cell? ⟨hb, 3, none⟩ = some (.string key)) 30 (fun _ _ _ _ _ h => h) (fun HQP => ?_)
        have HCC := HCAR.out w4.drew (Below.refl _ _).drew
        refine ntakeW 0 rfl rfl (by kernel_rfl) (by kernel_rfl) (by kernel_rfl) (by kernel_rfl) (fun _ _ _ h => HQP _ _ _ _ _ h) (by kernel_rfl) HCC (fun w' hw' => by go_simp; rfl) ?_
        refine ntakeW 1 rfl rfl (by kernel_rfl) (by kernel_rfl) (by kernel_rfl) (by kernel_rfl) (fun _ _ _ h => HQP _ _ _ _ _ h) (by kernel_rfl) HCC (fun w' hw' => by obtain ⟨q1, q3⟩ := hw'; go_simp; rfl) ?_
        refine ntakeW 2 rfl rfl (by kernel_rfl) (by kernel_rfl) (by kernel_rfl) (by kernel_rfl) (fun _ _ _ h => HQP _ _ _ _ _ h) (by kernel_rfl) HCC (fun w' hw' => by go_simp; rfl) ?_
        refine ntakeW 3 rfl rfl (by kernel_rfl) (by kernel_rfl) (by kernel_rfl) (by kernel_rfl) (fun _ _ _ h => HQP _ _ _ _ _ h) (by kernel_rfl) HCC (fun w' hw' => by obtain ⟨q1, q3⟩ := hw'; go_simp; rfl) ?_
        refine ntakeW 5 rfl rfl (by kernel_rfl) (by kernel_rfl) (by kernel_rfl) (by kernel_rfl) (fun _ _ _ h => HQP _ _ _ _ _ h) (by kernel_rfl) HCC (fun w' hw' => by go_simp; rfl) ?_
        refine ntakeW 6 rfl rfl (by kernel_rfl) (by kernel_rfl) (by kernel_rfl) (by kernel_rfl) (fun _ _ _ h => HQP _ _ _ _ _ h) (by kernel_rfl) HCC (fun w' hw' => by go_simp; rfl) ?_
        refine ntakeW 7 rfl rfl (by kernel_rfl) (by kernel_rfl) (by kernel_rfl) (by kernel_rfl) (fun _ _ _ h => HQP _ _ _ _ _ h) (by kernel_rfl) HCC (fun w' hw' => by obtain ⟨q1, q3⟩ := hw'; go_simp; rfl) ?_
        refine ntakeW 8 rfl rfl (by kernel_rfl) (by kernel_rfl) (by kernel_rfl) (by kernel_rfl) (fun _ _ _ h => HQP _ _ _ _ _ h) (by kernel_rfl) HCC (fun w' hw' => by go_simp; rfl) ?_
        refine ntakeW 9 rfl rfl (by kernel_rfl) (by kernel_rfl) (by kernel_rfl) (by kernel_rfl) (fun _ _ _ h => HQP _ _ _ _ _ h) (by kernel_rfl) HCC (fun w' hw' => by obtain ⟨q1, q3⟩ := hw'; go_simp; rfl) ?_
        refine nonly 4 (by kernel_rfl) rfl (by kernel_rfl) (fun K hK => ?_)
        go_simp
        refine (ta_holdsL (HT4.out.tall (Below.refl _ _).drew).ta tx key HKY.out HTX.out).mono ?_
        rintro e w5 ⟨rfl, rfl⟩
        go_simp
        refine hK _ _ (fun _ => HCC) ?_
        clear hK K
        have hho := how_any W.heap.size (W.heap.size + 1) VH2 VW2 H2 W2 tx key w4.drew (HT4.out.tall (Below.refl _ _).drew).rt (by omega)
        rw [(HT4.out.tb.keys (sx key)).how HT4.out.tb.lw tx] at hho
        have HHO := Lib.hid hho; clear hho
        refine nonly 10 (by kernel_rfl) rfl (by kernel_rfl) (fun K hK => ?_)
        go_simp
        refine HHO.out.mono ?_
        rintro e w5 ⟨rfl, hb5⟩
        have hb45 : Below w4.heap.size w4 w5 := (Below.refl _ _).drew.trans hb5
        have HB5 := Lib.hid hb45; clear hb45 hb5 HCC
        have HCC := HCAR.out w5 HB5.out
        go_simp
        refine hK _ _ (fun _ => HCC) ?_
        clear hK K
        refine nonly 11 (by kernel_rfl) rfl (by kernel_rfl) (fun K hK => ?_)
        go_simp
        refine hK _ _ (fun _ => HCC) ?_
        clear hK K
        refine nonly 12 (by kernel_rfl) rfl (by kernel_rfl) (fun K hK => ?_)
        go_simp
        refine hK _ _ (fun _ => HCC) ?_
        clear hK K
        refine ntakeW 13 rfl rfl (by kernel_rfl) (by kernel_rfl) (by kernel_rfl) (by kernel_rfl) (fun _ _ _ h => HQP _ _ _ _ _ h) (by kernel_rfl) HCC (fun w' hw' => by go_simp; rfl) ?_
        refine ntakeW 14 rfl rfl (by kernel_rfl) (by kernel_rfl) (by kernel_rfl) (by kernel_rfl) (fun _ _ _ h => HQP _ _ _ _ _ h) (by kernel_rfl) HCC (fun w' hw' => by obtain ⟨q1, q3⟩ := hw'; go_simp; rfl) ?_
        refine ntakeW 16 rfl rfl (by kernel_rfl) (by kernel_rfl) (by kernel_rfl) (by kernel_rfl) (fun _ _ _ h => HQP _ _ _ _ _ h) (by kernel_rfl) HCC (fun w' hw' => by go_simp; rfl) ?_
        refine ntakeW 17 rfl rfl (by kernel_rfl) (by kernel_rfl) (by kernel_rfl) (by kernel_rfl) (fun _ _ _ h => HQP _ _ _ _ _ h) (by kernel_rfl) HCC (fun w' hw' => by go_simp; rfl) ?_
        refine ntakeW 18 rfl rfl (by kernel_rfl) (by kernel_rfl) (by kernel_rfl) (by kernel_rfl) (fun _ _ _ h => HQP _ _ _ _ _ h) (by kernel_rfl) HCC (fun w' hw' => by obtain ⟨q1, q3⟩ := hw'; go_simp; rfl) ?_
        refine nonly 15 (by kernel_rfl) rfl (by kernel_rfl) (fun K hK => ?_)
        go_simp
        refine (ta_waitsL (HT4.out.tall HB5.out).ta key HKY.out).mono ?_
        rintro e w6 ⟨V15, rfl, hrow15, hb6⟩
        obtain ⟨A15, c15, rfl, _, _⟩ := own_slice hrow15
        have HB6 := Lib.hid (HB5.out.trans (hb6.mono HB5.out.size)); clear hb6 HCC
        have HCC := HCAR.out w6 HB6.out
        have HROW15 := Lib.hid hrow15; clear hrow15
        go_simp
        refine hK _ _ (fun _ => HCC) ?_
        clear hK K
        have hwa := waiting_any W.heap.size (W.heap.size + 1) VH2 VW2 H2 W2 key w6 (HT4.out.tall HB6.out).rt (by omega)
        rw [wait_eq (HT4.out.tb.keys (sx key)) HT4.out.tb.lw] at hwa
        have HWA := Lib.hid hwa; clear hwa
        refine nonly 19 (by kernel_rfl) rfl (by kernel_rfl) (fun K hK => ?_)
        go_simp
        refine HWA.out.mono ?_
        rintro e w7 ⟨V19, rfl, hrow19, hb7⟩
        rw [List.length_map] at hrow19
        obtain ⟨A19, c19, rfl, _, _⟩ := own_slice hrow19
        have hrow15 := own_belowK HROW15.out hb7
        have HB7 := Lib.hid (HB6.out.trans (hb7.mono HB6.out.size)); clear hb7 HCC
        have HCC := HCAR.out w7 HB7.out
        have hwl : (atT T2 (sx key)).ws.length ≤ 1000000 := by
          rcases e : T2 (sx key) with _ | k
          · rw [show (atT T2 (sx key)).ws = [] by unfold atT; rw [e]; rfl]; simp
          · rw [show (atT T2 (sx key)).ws = k.ws by unfold atT; rw [e]; rfl]; have := HT4.out.tb.fifty _ k e; omega
        have HSM := Lib.hid (sameI_any ((atT T2 (sx key)).ws.map (·.1)) w7.heap.size w7.heap.size (atT T2 (sx key)).ws.length c15 c19 A15 A19 w7 (Rd.of_own hrow15) (Rd.of_own hrow19) (Nat.le_refl _) (Nat.le_refl _) hwl)
        clear hrow15 hrow19
        go_simp
        refine hK _ _ (fun _ => HCC) ?_
        clear hK K
        refine nonly 20 (by kernel_rfl) rfl (by kernel_rfl) (fun K hK => ?_)
        go_simp
        refine HSM.out.mono ?_
        rintro e w8 ⟨rfl, hb8⟩
        have HB8 := Lib.hid (HB7.out.trans (hb8.mono HB7.out.size)); clear hb8 HCC
        have HCC := HCAR.out w8 HB8.out
        go_simp
        refine hK _ _ (fun _ => HCC) ?_
        clear hK K
        refine nonly 21 (by kernel_rfl) rfl (by kernel_rfl) (fun K hK => ?_)
        go_simp
        refine hK _ _ (fun _ => HCC) ?_
        clear hK K
        refine nonly 22 (by kernel_rfl) rfl (by kernel_rfl) (fun K hK => ?_)
        go_simp
        refine hK _ _ (fun _ => HCC) ?_
        clear hK K
        refine nonly 23 (by kernel_rfl) rfl (by kernel_rfl) (fun K hK => ?_)
        go_simp
        refine hK _ _ (fun _ => HCC) ?_
        clear hK K
        refine ntakeW 24 rfl rfl (by kernel_rfl) (by kernel_rfl) (by kernel_rfl) (by kernel_rfl) (fun _ _ _ h => HQP _ _ _ _ _ h) (by kernel_rfl) HCC (fun w' hw' => by go_simp; rfl) ?_
        refine ntakeW 26 rfl rfl (by kernel_rfl) (by kernel_rfl) (by kernel_rfl) (by kernel_rfl) (fun _ _ _ h => HQP _ _ _ _ _ h) (by kernel_rfl) HCC (fun w' hw' => by go_simp; rfl) ?_
        refine ntakeW 25 rfl rfl (by kernel_rfl) (by kernel_rfl) (by kernel_rfl) (by kernel_rfl) (fun _ _ _ h => HQP _ _ _ _ _ h) (by kernel_rfl) HCC (fun w' hw' => by go_simp; rfl) ?_
        refine ntakeW 27 rfl rfl (by kernel_rfl) (by kernel_rfl) (by kernel_rfl) (by kernel_rfl) (fun _ _ _ h => HQP _ _ _ _ _ h) (by kernel_rfl) HCC (fun w' hw' => by go_simp; rfl) ?_
        refine nonly 28 (by kernel_rfl) rfl (by kernel_rfl) (fun K hK => ?_)
        go_simp
        refine hK _ _ (fun _ => HCC) ?_
        clear hK K
        refine nonly 29 (by kernel_rfl) rfl (by kernel_rfl) (fun K hK => ?_)
        go_simp
        refine hK _ _ (fun _ => HCC) ?_
        clear hK K
        refine ndone (by kernel_rfl) ?_ _
        clear HQP HCC
        have hkl2 : (keysR H2 W2).length ≤ 1000000 := by omega
        generalize keysR H2 W2 = ks at *
        go_wp2_with fail
        go_loopw [18] (CkRel ks.length w8) (fun v _ => ks.length - (intOf v).toNat)
        case atStart => exact ⟨0, rfl, Nat.zero_le _, Below.refl _ _⟩
        case round =>
          rename World => w9
          obtain ⟨k, rfl, hk, hb9⟩ := hrel
          have hb49 := HB8.out.trans (hb9.mono HB8.out.size)
          by_cases hltk : (k : Int) < ks.length
          · obtain ⟨g7, o7, s7, hA7, hg7, hs7, p0⟩ := (HRD17.out.below hb49).cellsS (k := k) (by omega)
            obtain ⟨g6, o6, s6, hA6, hg6, hs6, r0⟩ := (HRD16.out.below hb49).cellsS (k := k) (by omega)
            rw [hs7] at hs6
            obtain rfl : s7 = s6 := Option.some.inj hs6
            subst hA7 hA6
            have hz := hb49.size
            have hgl7 : g7 < w9.heap.size := by omega
            have hgl6 : g6 < w9.heap.size := by omega
            have HB9 := Lib.hid hb9; clear hb9 hb49 hs7 hs6 hz
            go_wp2_with fail
            go_quiet (fail)
            go_wp2_with fail
            go_roundw
            case rel => exact ⟨k + 1, rfl, by omega, ⟨HB9.out.os, HB9.out.tape, HB9.out.output, HB9.out.size, HB9.out.block⟩⟩
            case measure => simp [intOf]; omega
          · have hfin : LpRel W n (.int .i64 ((i + 1 : Nat) : Int)) w9 := ⟨i + 1, rfl, by omega, _, _, _, _, _, HT4.out.tall hb49⟩
            have HF := Lib.hid hfin; clear hfin hb9 hb49
            go_wp2_with fail
            go_roundw
            case rel => exact HF.out
            case measure => simp [intOf]; omega
        --}tail
      --}round
    · have hb := hT.below
      have HB := Lib.hid hb; clear hb hT
      go_wp2_with fail
      go_ret
      exact ⟨rfl, HB.out⟩
end Go.Proofs.YtopmehbncidpnaaGreatDoor
