/- chainmaillaw.NetPlays: the walk. -/
import Derived.Test.YtnahkpfamocnfaaDoorNpP
import Derived.Test.YtnahkpfamocnfaaDoorHeldW
import Derived.Deep.CutBlock
namespace Go.Proofs.YtnahkpfamocnfaaDoor
open Go.RowKit
def fullM (j : Nat) : MsR := ⟨⟨1, (j : Int) % 3, 5, 0, j, ⟨0, 0, 0, []⟩⟩, none, 0, 0⟩
def FullRel (W : World) (v : Value) (wr : World) : Prop := ∃ j : Nat, v = .int .i64 j ∧ j ≤ 198 ∧ NpS W j wr
theorem okI_of {i : Int} (h0 : -9223372036854775808 ≤ i) (h1 : i ≤ 9223372036854775807) : okI i := by
  simp only [okI, Lit.wf, Bool.and_eq_true, decide_eq_true_eq]
  have e1 : IntKind.i64.min = -9223372036854775808 := by decide
  have e2 : IntKind.i64.max = 9223372036854775807 := by decide
  rw [e1, e2]
  exact ⟨h0, h1⟩
/-- One message to both. -/
theorem both_full {W wr : World} {j : Nat} (hj : j < 198) (h : NpS W j wr) : Calls Tryd.prog 24 #[.pointer (some ⟨W.heap.size, 0, none⟩), .slice (some ⟨wr.heap.size, 0, none⟩) 1 1] (wr.alloc (.cells (msgCells (fullM j).m none 0 0) 26))
    (fun e w2 => (∃ d, e = .returned (.int .i64 d)) ∧ Calls Tryd.prog 25 #[.pointer (some ⟨W.heap.size + 1, 0, none⟩), mrV (fullM j)] w2 (fun e w3 => (∃ b, e = .returned (.bool b)) ∧ NpS W (j + 1) w3)) := by
  obtain ⟨cs, V, VL, VD, D, nd, L, Lr, dl, lost, hn⟩ := h
  have hbl : Below wr.heap.size wr (wr.alloc (.cells (msgCells (fullM j).m none 0 0) 26)) := (Below.refl _ _).alloc (Nat.le_refl _) _
  have h1 := hn.tall hbl
  have hrl := Rd.lit wr (msgCells (fullM j).m none 0 0) 26 1 9 rfl
  have hok : okI (fullM j).m.from_ ∧ okI (fullM j).m.to_ := ⟨okI_of (by show _ ≤ (j : Int) % 3; omega) (by show (j : Int) % 3 ≤ _; omega), okI_of (by show (-9223372036854775808 : Int) ≤ 5; decide) (by show (5 : Int) ≤ 9223372036854775807; decide)⟩
  have hrm : ReadsM (wr.alloc (.cells (msgCells (fullM j).m none 0 0) 26)) (NetB W.heap.size V D) (some ⟨wr.heap.size, 0, none⟩) 1 [fullM j] := by
    refine ⟨rfl, by have := hrl.more (B' := (wr.alloc (.cells (msgCells (fullM j).m none 0 0) 26)).heap.size) (by simp); simpa [mrCells, fullM] using this, fun b o e _ => ?_, fun y hy => ?_⟩
    · simp only [Option.some.injEq, Addr.mk.injEq, and_true] at e
      obtain ⟨rfl, rfl⟩ := e
      rintro (h | h | h)
      · have := hn.t.n.blk.lt; omega
      · have := hn.t.n.vlt h.symm; omega
      · have := hn.t.n.down; rw [← h] at this; have := this.lt; omega
    · rw [List.mem_singleton.1 hy]
      exact ⟨⟨rfl, Rd.none_ _ _ _ _⟩, fun b o e _ => by cases e⟩
  have hb := hn.blo
  refine (send_any W.heap.size W.heap.size 0 nd 1 1 _ cs V D L (memI dl) lost _ [fullM j] _ h1.t.n hrm (by omega) (by omega) (fun y hy => by rw [List.mem_singleton.1 hy]; exact ⟨hok.1, hok.2, by show (0 : Nat) ≤ _; omega, fun _ => rfl⟩)).mono ?_
  rintro e w2 ⟨V', L', lost', d, rfl, hd, hN, hs, hF, hV⟩
  refine ⟨⟨d, rfl⟩, ?_⟩
  have h2 := h1.t.stepN hN hF hV (.inl rfl) (by simpa using hn.t.size)
  refine (rsend_any W.heap.size (W.heap.size + 1) VL VD Lr dl lost (fullM j) w2 h2.r ⟨rfl, Rd.none_ _ _ _ _⟩ h2.vd (by omega)).mono ?_
  rintro e w3 ⟨VL', Lr', lostr', b, rfl, hR, hs2, hlb, _, hF2, hV2⟩
  refine ⟨⟨b, rfl⟩, ?_⟩
  have h3 := h2.stepR hR hF2 (fun b hb => by
    rcases hV2 with e | ⟨b', e, hb'⟩
    · exact .inl (e ▸ hb)
    · rw [e] at hb; injection hb with hb; exact .inr (by omega))
  have hs' : sendS ⟨msOf L, memI dl, lost⟩ (fullM j).m = ⟨msOf L', memI dl, lost'⟩ := hs
  rw [hn.ms] at hs'
  have he : (⟨msOf L', memI dl, lost'⟩ : NetS) = ⟨msOf Lr', memI dl, lostr'⟩ := hs'.symm.trans hs2
  injection he with he1 _ he2
  subst he2
  refine ⟨_, _, _, _, _, _, _, _, _, _, ⟨h3, he1, fun x hx => ?_, by have := hn.bnd; omega, by have := hn.bdl; omega, ?_⟩⟩
  · have := sends_mem [(fullM j).m] ⟨msOf L, memI dl, lost⟩ x (by rw [show sendsS ⟨msOf L, memI dl, lost⟩ [(fullM j).m] = ⟨msOf L', memI dl, lost'⟩ from hs]; exact hx)
    rcases this with h | h
    · exact hn.wf x h
    · rw [List.mem_singleton.1 h]; exact ⟨hok.1, hok.2, by show ([] : List Pr).length ≤ 40; simp⟩
  · rw [hlb]; split <;> omega
/-- Two new nets. -/
theorem np_start (W : World) : NpS W 0 ((W.alloc (.cells #[.slice none 0 0, .map none, .int .i64 0] 71)).alloc (.cells #[.slice none 0 0, .slice none 0 0, .int .i64 0] 74)) := by
  have h1 : Blk ((W.alloc (.cells #[.slice none 0 0, .map none, .int .i64 0] 71)).alloc (.cells #[.slice none 0 0, .slice none 0 0, .int .i64 0] 74)) W.heap.size 71 #[.slice none 0 0, .map none, .int .i64 0] := (Blk.new W _ _).alloc _
  have h2 : Blk ((W.alloc (.cells #[.slice none 0 0, .map none, .int .i64 0] 71)).alloc (.cells #[.slice none 0 0, .slice none 0 0, .int .i64 0] 74)) (W.heap.size + 1) 74 #[.slice none 0 0, .slice none 0 0, .int .i64 0] := by
    have := Blk.new (W.alloc (.cells #[.slice none 0 0, .map none, .int .i64 0] 71)) 74 #[.slice none 0 0, .slice none 0 0, .int .i64 0]
    simpa using this
  refine ⟨#[.slice none 0 0, .map none, .int .i64 0], .slice none 0 0, .slice none 0 0, .slice none 0 0, none, 0, [], [], [], 0, ⟨⟨⟨h1, rfl, rfl, rfl, World.ownsRow_nil _ _ _ _, (fun x hx => by cases hx), (show DeadM _ 0 none (memI []) from fun i => rfl), by simp, by decide, by decide, ⟨by decide, by decide⟩, by simp; omega⟩, ⟨h2, World.ownsRow_nil _ _ _ _, World.ownsRow_nil _ _ _ _, (fun x hx => by cases hx), by simp, by decide, by decide, by simp; omega, by omega, by simp⟩, (fun b hb => by simp [Value.ownBlock] at hb), ((Below.refl _ _).alloc (Nat.le_refl _) _).alloc (by simp) _, rfl, (fun b hb => by cases hb)⟩, rfl, (fun x hx => by cases hx), Nat.le_refl _, by simp, by simp⟩⟩
theorem flat3 : ∀ (l : List WyR) (j : Nat) (x : WyR), l[j]? = some x → ∀ i, i < 3 → (l.flatMap wyCells)[j * 3 + i]? = (wyCells x)[i]?
  | [], j, p, h, i, hi => by simp at h
  | q :: l, 0, p, h, i, hi => by
    simp at h
    subst h
    rw [List.flatMap_cons, List.getElem?_append_left (by show _ < 3; omega)]
    simp
  | q :: l, j + 1, p, h, i, hi => by
    have h' : l[j]? = some p := by simpa using h
    have e : (j + 1) * 3 + i = (j * 3 + i) + 3 := by omega
    have e3 : (wyCells q).length = 3 := rfl
    rw [e, List.flatMap_cons, List.getElem?_append_right (by rw [e3]; omega), e3, Nat.add_sub_cancel]
    exact flat3 l j p h' i hi
theorem Rd.cells3 {w : World} {B n j : Nat} {A : Option Addr} {l : List WyR} (h : Rd w B 3 A n (l.flatMap wyCells)) (hl : l.length = n) (hj : j < n) : ∃ g off x, A = some ⟨g, off, none⟩ ∧ g < B ∧ l[j]? = some x ∧
    w.cell? ⟨g, off + j * 3, none⟩ = some (.int .i64 x.what) ∧ w.cell? ⟨g, off + j * 3 + 1, none⟩ = some (.int .i64 x.k) ∧ w.cell? ⟨g, off + j * 3 + 2, none⟩ = some (.slice x.A x.n x.c) := by
  obtain ⟨g, off, e, hb, hc⟩ := h.2 (by omega)
  have hx : l[j]? = some l[j] := List.getElem?_eq_getElem (by omega)
  have hf := flat3 l j _ hx
  exact ⟨g, off, l[j], e, hb, hx, hc (j * 3) _ (hf 0 (by omega)), hc (j * 3 + 1) _ (hf 1 (by omega)), hc (j * 3 + 2) _ (hf 2 (by omega))⟩
def errC (b : Bool) : Value := .int .i64 (if b then 0 else 2)
def MainRel (W : World) (n : Nat) (v : Value) (wr : World) : Prop := ∃ j : Nat, v = .int .i64 j ∧ j ≤ n ∧ NpS W (200 + 300 * j) wr
theorem NpS.mono {W w : World} {m m' : Nat} (h : NpS W m w) (hm : m ≤ m') : NpS W m' w := by
  obtain ⟨cs, V, VL, VD, D, nd, L, Lr, dl, lost, hn⟩ := h
  exact ⟨cs, V, VL, VD, D, nd, L, Lr, dl, lost, hn.mono hm⟩
theorem NpS.tall {W w w' : World} {m : Nat} (h : NpS W m w) (hb : Below w.heap.size w w') : NpS W m w' := by
  obtain ⟨cs, V, VL, VD, D, nd, L, Lr, dl, lost, hn⟩ := h
  exact ⟨cs, V, VL, VD, D, nd, L, Lr, dl, lost, hn.tall hb⟩
def SdRel (W : World) (hb : Nat) (x : WyR) (cs : Array Value) (V VL VD : Value) (D : Option Nat) (nd : Nat) (L Lr : List MsR) (dl : List Int) (lost : Int) (i c : Value) (wr : World) : Prop :=
  ∃ (q k : Nat) (VL' : Value) (Lr' : List MsR), i = .int .i64 q ∧ c = .int .i64 k ∧ q ≤ x.n ∧ k ≤ q ∧ TwoI W wr cs V VL' VD D nd L Lr' (memI dl) dl lost (lost + k) ∧ sendsS ⟨msOf Lr, memI dl, lost⟩ (msOf (x.ms.take q)) = ⟨msOf Lr', memI dl, lost + k⟩ ∧ (∀ y ∈ x.ms.take q, OkM y.m) ∧
    Blk wr hb 77 #[.int .i64 x.what, .int .i64 x.k, .slice x.A x.n x.c]
set_option maxRecDepth 100000 in
set_option maxHeartbeats 60000000 in
theorem plays_walk (l : List WyR) (n k : Nat) (A : Option Addr) (full : Bool) (W : World) (hr : Rd W W.heap.size 3 A n (l.flatMap wyCells)) (hl : l.length = n) (hok : ∀ x ∈ l, WyOk W x) (hld : Laid W) :
    Calls Tryd.prog 7 #[.slice A n k, .bool full] W fun e w' => e = .returned (.bool true) ∧ Below W.heap.size W w' := by
  have HR := Lib.hid hr; clear hr
  have HOK := Lib.hid hok; clear hok
  have HLD := Lib.hid hld; clear hld
  have HST := Lib.hid (np_start W)
  by_cases h60 : (n : Int) > 60
  · go_enter Tryd.func7, Tryd.ntmps7
    go_wp2_with fail
    go_ret
    exact ⟨rfl, Below.refl _ _⟩
  go_enter Tryd.func7, Tryd.ntmps7
  go_upto_if 25 with (fail)
  go_cut [] (fun wx => NpS W 200 wx)
  case first =>
    --{full
    rcases full with _ | _
    · go_wp2_with fail
      go_meet
      exact HST.out.mono (Nat.zero_le 200)
    · go_wp2_with fail
      go_loopw [7] (FullRel W) (fun v _ => 198 - (intOf v).toNat)
      case atStart => exact ⟨0, rfl, Nat.zero_le _, HST.out⟩
      case round =>
        obtain ⟨j, rfl, hj, hS⟩ := hrel
        by_cases hlt : (j : Int) < 198
        · have hbf := both_full (by omega) hS
          unfold fullM mrV msgV msgCells at hbf
          have HBF := Lib.hid hbf; clear hbf
          go_wp2_with fail
          refine HBF.out.mono ?_
          rintro e w2 ⟨⟨d, rfl⟩, hc2⟩
          have HC2 := Lib.hid hc2; clear hc2
          go_wp2_with fail
          refine HC2.out.mono ?_
          rintro e w3 ⟨⟨b, rfl⟩, hS3⟩
          have HS3 := Lib.hid hS3; clear hS3
          go_wp2_with fail
          go_roundw
          case rel => exact ⟨j + 1, rfl, by omega, HS3.out⟩
          case measure => simp [intOf]; omega
        · go_wp2_with fail
          go_meet
          exact hS.mono (by omega)
    --}full
  case rest =>
    clear HST
    have HS := Lib.hid hcut; clear hcut
    go_wp2_with fail
    go_loopw [8] (MainRel W n) (fun v _ => n - (intOf v).toNat)
    case atStart => exact ⟨0, rfl, Nat.zero_le _, HS.out⟩
    case round =>
      clear HS
      obtain ⟨j, rfl, hj, hS⟩ := hrel
      by_cases hlt : (j : Int) < n
      · obtain ⟨g, off, x, hA, hg, hx, k0, k1, k2⟩ := HR.out.cells3 hl (j := j) (by omega)
        obtain ⟨cs, V, VL, VD, D, nd, L, Lr, dl, lost, hn⟩ := hS
        have hbW := hn.t.below
        have hwz := hbW.size
        have q0 := (hbW.cell (p := ⟨g, off + j * 3, none⟩) hg).trans k0
        have q1 := (hbW.cell (p := ⟨g, off + j * 3 + 1, none⟩) hg).trans k1
        have q2 := (hbW.cell (p := ⟨g, off + j * 3 + 2, none⟩) hg).trans k2
        have hgw : g < wr.heap.size := by omega
        have hxok := HOK.out x (List.mem_of_getElem? hx)
        subst hA
        have HX := Lib.hid hx; clear hx k0 k1 k2 hbW
        have HXO := Lib.hid hxok; clear hxok
        have HN := Lib.hid hn; clear hn
        by_cases h10 : (x.n : Int) > 10
        · have hB := Lib.hid (HN.out.t.below.alloc hwz (.cells #[.int .i64 x.what, .int .i64 x.k, .slice x.A x.n x.c] 77))
          go_wp2_with fail
          go_ret
          exact ⟨rfl, hB.out⟩
        · have hn1 : NpI W (wr.alloc (.cells #[.int .i64 x.what, .int .i64 x.k, .slice x.A x.n x.c] 77)) cs V VL VD D nd L Lr dl lost (200 + 300 * j) := HN.out.tall ((Below.refl _ _).alloc (Nat.le_refl _) _)
          have hb1 : Blk (wr.alloc (.cells #[.int .i64 x.what, .int .i64 x.k, .slice x.A x.n x.c] 77)) wr.heap.size 77 #[.int .i64 x.what, .int .i64 x.k, .slice x.A x.n x.c] := Blk.new wr _ _
          have HN1 := Lib.hid hn1; clear hn1
          have HB1 := Lib.hid hb1; clear hb1
          go_upto_region 17 with (fail)
          generalize wr.alloc (.cells #[.int .i64 x.what, .int .i64 x.k, .slice x.A x.n x.c] 77) = w1 at *
          go_cut [10] (fun s10 wx => ∃ b : Bool, s10 = .bool b ∧ RowKit.Hid (b = decide (0 ≤ x.k ∧ x.k < Lr.length)) ∧ NpI W wx cs V VL VD D nd L Lr dl lost (200 + 300 * j) ∧ Blk wx wr.heap.size 77 #[.int .i64 x.what, .int .i64 x.k, .slice x.A x.n x.c])
          case first =>
            as_aux_lemma =>
              obtain ⟨AL, cL, hVL, _, _⟩ := own_slice HN1.out.t.r.rowL
              have x0 := HB1.out.cell 0
              have x1 := HB1.out.cell 1
              have r0 := HN1.out.t.r.blk.cell 0
              simp only [List.getElem?_toArray, List.getElem?_cons_succ, List.getElem?_cons_zero] at x0 x1 r0
              rw [hVL] at r0
              have hbl := HB1.out.lt
              have hhl := HN1.out.t.r.blk.lt
              have hmk : ∀ q b, b = decide (0 ≤ x.k ∧ x.k < Lr.length) → Hid (b = decide (0 ≤ x.k ∧ x.k < Lr.length)) ∧ NpI W (w1.drewN q) cs V VL VD D nd L Lr dl lost (200 + 300 * j) ∧ Blk (w1.drewN q) wr.heap.size 77 #[.int .i64 x.what, .int .i64 x.k, .slice x.A x.n x.c] := fun q b e =>
                ⟨Lib.hid e, HN1.out.tall (below_dN (Below.refl _ _) q), HB1.out.drewN q⟩
              have HMK := Lib.hid hmk; clear hmk hVL
              by_cases hk0 : 0 ≤ x.k
              · by_cases hk1 : x.k < Lr.length
                · have hd : decide (0 ≤ x.k ∧ x.k < Lr.length) = true := decide_eq_true ⟨hk0, hk1⟩
                  have HD := Lib.hid hd; clear hd
                  go_quiet (fail)
                  go_wp2_with fail
                  go_meet
                  exact ⟨true, rfl, HMK.out _ _ HD.out.symm⟩
                · have hd : decide (0 ≤ x.k ∧ x.k < Lr.length) = false := decide_eq_false (fun h => hk1 h.2)
                  have HD := Lib.hid hd; clear hd
                  go_quiet (fail)
                  go_wp2_with fail
                  go_meet
                  exact ⟨false, rfl, HMK.out _ _ HD.out.symm⟩
              · have hd : decide (0 ≤ x.k ∧ x.k < Lr.length) = false := decide_eq_false (fun h => hk0 h.1)
                have HD := Lib.hid hd; clear hd
                have hdd : decide (0 ≤ x.k) = false := by simpa using hk0
                go_quiet (fail)
                go_wp2_with fail
                go_meet
                exact ⟨false, rfl, HMK.out _ _ HD.out.symm⟩
          case rest =>
            obtain ⟨b, hu10, hbb, hn2, hb2⟩ := hcut
            subst hu10
            clear HN1 HB1 HN
            have HN2 := Lib.hid hn2; clear hn2
            have HB2 := Lib.hid hb2; clear hb2
            go_upto_if 70 with (fail)
            go_cut [11] (fun s11 wy => s11 = errC b ∧ wy = wc)
            case first =>
              as_aux_lemma =>
                rcases b with _ | _
                · go_wp2_with fail
                  go_meet
                  exact ⟨rfl, rfl⟩
                · go_wp2_with fail
                  go_meet
                  exact ⟨rfl, rfl⟩
            case rest =>
              obtain ⟨hu11, hwc⟩ := hcut
              subst hu11
              subst hwc
              have x0 := HB2.out.cell 0
              have x1 := HB2.out.cell 1
              have x2 := HB2.out.cell 2
              simp only [List.getElem?_toArray, List.getElem?_cons_succ, List.getElem?_cons_zero] at x0 x1 x2
              have hbl := HB2.out.lt
              go_upto_block 4 with (fail)
              go_cut [] (fun wz => NpS W (200 + 300 * (j + 1)) wz)
              case first =>
                --{switch
                by_cases w0 : x.what = 0
                · as_aux_lemma =>
                    have d0 : (x.what == 0) = true := by simpa using w0
                    obtain ⟨_, hml, hmr, hmo⟩ := HXO.out
                    clear w0
                    have hx10 : x.n ≤ 10 := by omega
                    have hnlo := HN2.out.t.n.lo
                    have hnbl := HN2.out.blo
                    have HMO := Lib.hid hmo; clear hmo
                    have HMR := Lib.hid hmr; clear hmr
                    have HML := Lib.hid hml; clear hml
                    have hst : SdRel W wr.heap.size x cs V VL VD D nd L Lr dl lost (.int .i64 (0 : Nat)) (.int .i64 (0 : Nat)) wc :=
                      ⟨0, 0, VL, Lr, rfl, rfl, Nat.zero_le _, Nat.le_refl _, by simpa using HN2.out.t, by simp [msOf, sendsS], (fun y hy => by simp at hy), HB2.out⟩
                    have HST := Lib.hid hst; clear hst
                    clear x0 x1 x2 hbl
                    go_wp2_with fail
                    go_loopw [13, 12] (SdRel W wr.heap.size x cs V VL VD D nd L Lr dl lost) (fun v _ _ => x.n - (intOf v).toNat)
                    case atStart => exact HST.out
                    case round =>
                      obtain ⟨q, k, VL', Lr', rfl, rfl, hq, hk, hT, hs, hok4, hB⟩ := hrel
                      have b2 := hB.cell 2
                      simp only [List.getElem?_toArray, List.getElem?_cons_succ, List.getElem?_cons_zero] at b2
                      have hbl3 := hB.lt
                      by_cases hlt : (q : Int) < x.n
                      · obtain ⟨g5, o5, y, hA5, hg5, hy, hc5⟩ := HMR.out.cells9 HML.out (j := q) (by omega)
                        have hc6 := hc5.fr (fr_of_below hT.below) hg5 (fun e : W.heap.size ≤ g5 => by omega)
                        have hgw : g5 < wr.heap.size := by have := hT.below.size; omega
                        rw [hA5] at b2
                        have hmy := HMO.out y (List.mem_of_getElem? hy)
                        have hfew := few_any y.m.cmd y.A y.n y.k wr
                        unfold cmdV at hfew
                        have HFEW := Lib.hid hfew; clear hfew
                        have HC6 := Lib.hid hc6
                        obtain ⟨c0, c1, c2, c3, c4, c5, c6, c7, c8⟩ := hc6
                        have HT := Lib.hid hT; clear hT
                        have HB := Lib.hid hB; clear hB
                        have HS := Lib.hid hs; clear hs
                        have HOK4 := Lib.hid hok4; clear hok4
                        have HMY := Lib.hid hmy; clear hmy
                        have HY := Lib.hid hy; clear hy hc5
                        go_wp2_with fail
                        refine HFEW.out.mono ?_
                        rintro e w2 ⟨rfl, hb2⟩
                        have hT2 := HT.out.tall hb2
                        have hB2 := HB.out.below hb2 hbl3
                        have hc7 := HC6.out.fr (fr_of_below hb2) hgw (fun e : wr.heap.size ≤ g5 => by omega)
                        clear HFEW c0 c1 c2 c3 c4 c5 c6 c7 c8 b2
                        obtain ⟨c0, c1, c2, c3, c4, c5, c6, c7, c8⟩ := hc7
                        have b2 := hB2.cell 2
                        simp only [List.getElem?_toArray, List.getElem?_cons_succ, List.getElem?_cons_zero] at b2
                        rw [hA5] at b2
                        have hbl4 := hB2.lt
                        have hgw2 : g5 < w2.heap.size := by have := hb2.size; omega
                        by_cases h40 : y.n ≤ 40
                        · have hd : decide (y.n ≤ 40) = true := decide_eq_true h40
                          rw [hd]
                          clear hd
                          have hr1 := rsend_any W.heap.size (W.heap.size + 1) VL' VD Lr' dl (lost + k) y w2 hT2.r ⟨HMY.out.1.1, rd_via HMY.out.1.2 (Below.refl _ _) hT2.below⟩ hT2.vd (by omega)
                          unfold mrV msgV at hr1
                          have HR1 := Lib.hid hr1; clear hr1
                          have HT2 := Lib.hid hT2; clear hT2
                          have HB2' := Lib.hid hB2; clear hB2 hb2
                          go_wp2_with fail
                          refine HR1.out.mono ?_
                          rintro e w3 ⟨VL2, Lr2, lostr2, br, rfl, hR, hs2, hlb, _, hF, hVo⟩
                          have hT3 := HT2.out.stepR hR hF (fun b hb => by
                            rcases hVo with e | ⟨b', e, hb'⟩
                            · exact .inl (e ▸ hb)
                            · rw [e] at hb; injection hb with hb; exact .inr (by omega))
                          have hB3 := HT2.out.blkR hF HB2'.out (by decide)
                          have htk : x.ms.take (q + 1) = x.ms.take q ++ [y] := by rw [List.take_add_one, HY.out]; rfl
                          have hs3 : sendsS ⟨msOf Lr, memI dl, lost⟩ (msOf (x.ms.take (q + 1))) = ⟨msOf Lr2, memI dl, lostr2⟩ := by
                            have e : msOf (x.ms.take q ++ [y]) = msOf (x.ms.take q) ++ [y.m] := by simp [msOf]
                            rw [htk, e, sendsS_snoc, HS.out]
                            exact hs2
                          have hok5 : ∀ z ∈ x.ms.take (q + 1), OkM z.m := fun z hz => by
                            rw [htk] at hz
                            rcases List.mem_append.1 hz with h | h
                            · exact HOK4.out z h
                            · rw [List.mem_singleton.1 h]
                              exact ⟨HMY.out.2.1, HMY.out.2.2.1, by rw [HMY.out.1.1]; exact h40⟩
                          have HT3 := Lib.hid hT3; clear hT3
                          have HB3 := Lib.hid hB3; clear hB3
                          have HS3 := Lib.hid hs3; clear hs3
                          have HOK5 := Lib.hid hok5; clear hok5
                          clear hR hF hVo hs2 htk b2 c0 c1 c2 c3 c4 c5 c6 c7 c8
                          rcases br with _ | _
                          · skip
                            as_aux_lemma =>
                              have hlk : lostr2 = lost + ((k + 1 : Nat) : Int) := by rw [hlb]; simp; omega
                              subst hlk
                              go_wp2_with fail
                              go_roundw
                              case rel => exact ⟨q + 1, k + 1, VL2, Lr2, rfl, rfl, by omega, by omega, HT3.out, HS3.out, HOK5.out, HB3.out⟩
                              case measure => simp [intOf]; omega
                          · skip
                            as_aux_lemma =>
                              have hlk : lostr2 = lost + (k : Int) := by rw [hlb]; simp
                              subst hlk
                              go_wp2_with fail
                              go_roundw
                              case rel => exact ⟨q + 1, k, VL2, Lr2, rfl, rfl, by omega, by omega, HT3.out, HS3.out, HOK5.out, HB3.out⟩
                              case measure => simp [intOf]; omega
                        · skip
                          as_aux_lemma =>
                            have hd : decide (y.n ≤ 40) = false := decide_eq_false h40
                            rw [hd]
                            have HBW := Lib.hid hT2.below
                            clear hT2 hB2 hb2
                            go_wp2_with fail
                            go_ret
                            exact ⟨rfl, HBW.out⟩
                      · have htk : x.ms.take q = x.ms := List.take_of_length_le (by have := HML.out; omega)
                        rw [htk] at hs hok4
                        have hlo3 : ∀ b, NetB W.heap.size V D b → W.heap.size ≤ b := fun b h => by
                          rcases h with h | h | h
                          · omega
                          · exact (hT.n.row.lt b h.symm).1
                          · exact hT.mb b h.symm
                        have hrm : ReadsM wr (NetB W.heap.size V D) x.A x.n x.ms := by
                          refine ⟨HML.out, (rd_via HMR.out (Below.refl _ _) hT.below).more hT.below.size, fun b o e h0 hN => ?_, fun y hy => ⟨⟨(HMO.out y hy).1.1, (rd_via (HMO.out y hy).1.2 (Below.refl _ _) hT.below).more hT.below.size⟩, fun b o e h0 hN => ?_⟩⟩
                          · obtain ⟨g, off, e', hg, _⟩ := HMR.out.2 h0
                            rw [e] at e'; injection e' with e'; injection e' with e' _
                            have := hlo3 b hN
                            omega
                          · obtain ⟨g, off, e', hg, _⟩ := (HMO.out y hy).1.2.2 h0
                            rw [e] at e'; injection e' with e'; injection e' with e' _
                            have := hlo3 b hN
                            omega
                        have hs1 := send_any W.heap.size W.heap.size 0 nd x.n x.c _ cs V D L (memI dl) lost x.A x.ms wr hT.n hrm (by omega) (by omega) (fun y hy => ⟨(HMO.out y hy).2.1, (HMO.out y hy).2.2.1, by have h1 := (hok4 y hy).2.2; have h2 := (HMO.out y hy).1.1; omega, (HMO.out y hy).2.2.2⟩)
                        have HS1 := Lib.hid hs1; clear hs1 hrm hlo3
                        have HT := Lib.hid hT; clear hT
                        have HB := Lib.hid hB; clear hB
                        have HS := Lib.hid hs; clear hs
                        have HOK4 := Lib.hid hok4; clear hok4 htk
                        go_wp2_with fail
                        refine HS1.out.mono ?_
                        rintro e w4 ⟨V', L', lost', d, rfl, hd, hN, hs2, hF, hV⟩
                        as_aux_lemma =>
                          have hT4 := HT.out.stepN hN hF hV (.inl rfl) (by simpa using HT.out.size)
                          have hm1 := sends_mem (msOf x.ms) ⟨msOf L, memI dl, lost⟩
                          rw [hs2] at hm1
                          rw [HN2.out.ms] at hs2
                          have he : (⟨msOf L', memI dl, lost'⟩ : NetS) = ⟨msOf Lr', memI dl, lost + k⟩ := hs2.symm.trans HS.out
                          injection he with he1 _ he2
                          have hdk : d = (k : Int) := by omega
                          subst hdk
                          subst he2
                          have hfin : NpS W (200 + 300 * (j + 1)) w4 := by
                            refine ⟨_, _, _, _, _, _, _, _, _, _, ⟨hT4, he1, fun z hz => ?_, by have := HN2.out.bnd; omega, by have := HN2.out.bdl; omega, by omega⟩⟩
                            rcases hm1 z hz with h | h
                            · exact HN2.out.wf z h
                            · obtain ⟨y, hy, rfl⟩ := List.mem_map.1 h
                              exact HOK4.out y hy
                          have HFIN := Lib.hid hfin; clear hfin hT4 hN hF hV hm1 he1 hs2 hd
                          go_wp2_with fail
                          go_meet
                          exact HFIN.out
                by_cases w1 : x.what = 1
                · --{c1
                  as_aux_lemma =>
                    have d0 : (x.what == 0) = false := by simpa using w0
                    have d1 : (x.what == 1) = true := by simpa using w1
                    have hn := HN2.out
                    have hb := hbb.out
                    clear w0 w1
                    rcases b with _ | _
                    · have hout : x.k < 0 ∨ (Lr.length : Int) ≤ x.k := by
                        by_cases h1 : 0 ≤ x.k
                        · by_cases h2 : x.k < Lr.length
                          · exact absurd (hb.symm) (by simp [h1, h2])
                          · right; omega
                        · left; omega
                      have hr1 := rtake_no W.heap.size (W.heap.size + 1) VL VD Lr dl lost x.k wc hn.t.r hout
                      have HR1 := Lib.hid hr1; clear hr1
                      have HO := Lib.hid hout; clear hout hb
                      have HN := Lib.hid hn; clear hn
                      go_wp2_with fail
                      refine HR1.out.mono ?_
                      rintro e v2 ⟨rfl, hb2⟩
                      have hb3 := hb2.trans ((Below.refl v2.heap.size v2).alloc (Nat.le_refl _) (.cells (msgCells zmr.m none 0 0) 26) |>.mono hb2.size)
                      have hB3 : Blk (v2.alloc (.cells (msgCells zmr.m none 0 0) 26)) v2.heap.size 26 (msgCells zmr.m none 0 0) := Blk.new v2 _ _
                      have q1 := (hb3.cell (p := ⟨wr.heap.size, 1, none⟩) hbl).trans x1
                      have hbl3 : wr.heap.size < (v2.alloc (.cells (msgCells zmr.m none 0 0) 26)).heap.size := Nat.lt_of_lt_of_le hbl hb3.size
                      have hr2 := take_no W.heap.size W.heap.size 0 nd _ cs V D L (memI dl) lost x.k _ (HN.out.t.tall hb3).n (by rw [HN.out.len]; exact HO.out)
                      unfold mrV msgV zmr
                      unfold msgCells zmr at hb3 hB3 q1 hr2 hbl3
                      have HR2 := Lib.hid hr2; clear hr2
                      have HB3 := Lib.hid hb3; clear hb3 hb2
                      have HBB3 := Lib.hid hB3; clear hB3
                      clear x0 x1 x2 hbl
                      go_wp2_with fail
                      refine HR2.out.mono ?_
                      rintro e v4 ⟨rfl, hb4⟩
                      have hb5 := (HB3.out.trans (hb4.mono HB3.out.size)).trans ((Below.refl v4.heap.size v4).alloc (Nat.le_refl _) (.cells #[.int .i64 0, .int .i64 0, .int .i64 0, .int .i64 0, .int .i64 0, .int .i64 0, .int .i64 0, .int .i64 0, .slice none 0 0] 26) |>.mono (Nat.le_trans HB3.out.size hb4.size))
                      have hB5 := (HBB3.out.below hb4 HBB3.out.lt).alloc (.cells #[.int .i64 0, .int .i64 0, .int .i64 0, .int .i64 0, .int .i64 0, .int .i64 0, .int .i64 0, .int .i64 0, .slice none 0 0] 26)
                      have hB6 : Blk (v4.alloc (.cells #[.int .i64 0, .int .i64 0, .int .i64 0, .int .i64 0, .int .i64 0, .int .i64 0, .int .i64 0, .int .i64 0, .slice none 0 0] 26)) v4.heap.size 26 #[.int .i64 0, .int .i64 0, .int .i64 0, .int .i64 0, .int .i64 0, .int .i64 0, .int .i64 0, .int .i64 0, .slice none 0 0] := Blk.new v4 _ _
                      have hbare := bare_any 2 2 _ (HLD.out.below (HN.out.t.below.trans (hb5.mono HN.out.t.below.size)) HLD.out.pos)
                      have e2 : errV 2 = rangeE := rfl
                      rw [e2] at hbare
                      have HBA := Lib.hid hbare; clear hbare e2
                      have HB5 := Lib.hid hb5; clear hb5 hb4
                      have HBB5 := Lib.hid hB5; clear hB5
                      have HBB6 := Lib.hid hB6; clear hB6 q1 hbl3
                      unfold rangeE errC at *
                      unfold mrV msgV zmr
                      go_wp2_with fail
                      refine HBA.out.mono ?_
                      rintro e v6 ⟨rfl, hb6⟩
                      have hb7 := HB5.out.trans (hb6.mono HB5.out.size)
                      have ha7 := HBB5.out.below hb6 HBB5.out.lt
                      have hc7 := HBB6.out.below hb6 HBB6.out.lt
                      have hsm := sameMsg ⟨0, 0, 0, 0, 0, ⟨0, 0, 0, []⟩⟩ 0 0 0 0 0 none none v6 ⟨rfl, Rd.none_ _ _ _ _⟩ ⟨rfl, Rd.none_ _ _ _ _⟩ (Nat.zero_le _) (Nat.zero_le _) (by omega)
                      unfold msgV at hsm
                      have HSM := Lib.hid hsm; clear hsm
                      have a0 := ha7.cell 0
                      have a1 := ha7.cell 1
                      have a2 := ha7.cell 2
                      have a3 := ha7.cell 3
                      have a4 := ha7.cell 4
                      have a5 := ha7.cell 5
                      have a6 := ha7.cell 6
                      have a7 := ha7.cell 7
                      have a8 := ha7.cell 8
                      have b0 := hc7.cell 0
                      have b1 := hc7.cell 1
                      have b2 := hc7.cell 2
                      have b3 := hc7.cell 3
                      have b4 := hc7.cell 4
                      have b5 := hc7.cell 5
                      have b6 := hc7.cell 6
                      have b7 := hc7.cell 7
                      have b8 := hc7.cell 8
                      simp only [List.getElem?_toArray, List.getElem?_cons_succ, List.getElem?_cons_zero] at a0 a1 a2 a3 a4 a5 a6 a7 a8 b0 b1 b2 b3 b4 b5 b6 b7 b8
                      have hla := ha7.lt
                      have hlc := hc7.lt
                      have HB7 := Lib.hid hb7; clear hb7 hb6 ha7 hc7
                      go_wp2_with fail
                      refine HSM.out.mono ?_
                      rintro e v8 ⟨rfl, hb8⟩
                      have hfin : NpS W (200 + 300 * (j + 1)) v8 := ⟨_, _, _, _, _, _, _, _, _, _, (HN.out.mono (by omega)).tall (HB7.out.trans (hb8.mono HB7.out.size))⟩
                      have HFIN := Lib.hid hfin; clear hfin hb8
                      go_wp2_with fail
                      go_meet
                      exact HFIN.out
                    · have hkk : ((x.k.toNat : Nat) : Int) = x.k ∧ x.k.toNat < Lr.length := by
                        have := of_decide_eq_true hb.symm
                        omega
                      have hr1 := rtake_yes W.heap.size (W.heap.size + 1) VL VD Lr dl lost x.k.toNat wc hn.t.r hn.t.vd hkk.2
                      rw [hkk.1] at hr1
                      have HR1 := Lib.hid hr1; clear hr1 hb
                      have HKK := Lib.hid hkk; clear hkk
                      have HN := Lib.hid hn; clear hn
                      go_wp2_with fail
                      refine HR1.out.mono ?_
                      rintro e v2 ⟨VL', y, bq, hy, rfl, hR, hF, hVo, hVb⟩
                      have hT2 := HN.out.t.stepR hR hF (fun b hb => by rw [hVo] at hb; injection hb with hb; right; omega)
                      have hway := HN.out.t.blkR hF HB2.out (by decide)
                      have hbl3 : Below v2.heap.size v2 (v2.alloc (.cells (msgCells y.m y.A y.n y.k) 26)) := (Below.refl _ _).alloc (Nat.le_refl _) _
                      have hT3 := hT2.tall hbl3
                      have hway3 := hway.alloc (.cells (msgCells y.m y.A y.n y.k) 26)
                      have hB3 : Blk (v2.alloc (.cells (msgCells y.m y.A y.n y.k) 26)) v2.heap.size 26 (msgCells y.m y.A y.n y.k) := Blk.new v2 _ _
                      have q1 := hway3.cell 1
                      simp only [List.getElem?_toArray, List.getElem?_cons_succ, List.getElem?_cons_zero] at q1
                      have hwl := hway3.lt
                      have hr2 := take_yes W.heap.size W.heap.size 0 nd _ cs V D L (memI dl) lost x.k.toNat _ hT3.n (by rw [HN.out.len]; exact HKK.out.2)
                      rw [HKK.out.1] at hr2
                      unfold mrV msgV
                      unfold msgCells at hB3 q1 hr2 hwl hT3
                      have HR2 := Lib.hid hr2; clear hr2
                      have HT3 := Lib.hid hT3; clear hT3
                      have HBB3 := Lib.hid hB3; clear hB3
                      have HT2 := Lib.hid hT2; clear hT2 hway hway3 hbl3 hR hF
                      have HY := Lib.hid hy; clear hy
                      clear x0 x1 x2 hbl
                      go_wp2_with fail
                      refine HR2.out.mono ?_
                      rintro e v4 ⟨V', z, hz, rfl, hN, hO, hF4, hVo4⟩
                      have hT4 := HT3.out.stepN hN hF4 (.inl hVo4) (.inl rfl) (by simpa using HT3.out.size)
                      obtain ⟨hzm, hzn⟩ := HN.out.at_ hz HY.out
                      have hB4 := hF4.blk HBB3.out (by
                        have := HT2.out.newN (Nat.le_refl v2.heap.size)
                        exact this)
                      have hbl5 : Below v4.heap.size v4 (v4.alloc (.cells #[.int .i64 z.m.kind, .int .i64 z.m.from_, .int .i64 z.m.to_, .int .i64 z.m.epoch, .int .i64 z.m.n, .int .i64 z.m.cmd.kind, .int .i64 z.m.cmd.tx, .int .i64 z.m.cmd.time, .slice z.A z.n z.k] 26)) := (Below.refl _ _).alloc (Nat.le_refl _) _
                      have hT5 := hT4.tall hbl5
                      have hO5 := ownW_below hO hbl5
                      have hB5 := hB4.alloc (.cells #[.int .i64 z.m.kind, .int .i64 z.m.from_, .int .i64 z.m.to_, .int .i64 z.m.epoch, .int .i64 z.m.n, .int .i64 z.m.cmd.kind, .int .i64 z.m.cmd.tx, .int .i64 z.m.cmd.time, .slice z.A z.n z.k] 26)
                      have hC5 : Blk (v4.alloc (.cells #[.int .i64 z.m.kind, .int .i64 z.m.from_, .int .i64 z.m.to_, .int .i64 z.m.epoch, .int .i64 z.m.n, .int .i64 z.m.cmd.kind, .int .i64 z.m.cmd.tx, .int .i64 z.m.cmd.time, .slice z.A z.n z.k] 26)) v4.heap.size 26 #[.int .i64 z.m.kind, .int .i64 z.m.from_, .int .i64 z.m.to_, .int .i64 z.m.epoch, .int .i64 z.m.n, .int .i64 z.m.cmd.kind, .int .i64 z.m.cmd.tx, .int .i64 z.m.cmd.time, .slice z.A z.n z.k] := Blk.new v4 _ _
                      have hbare := bare_any 0 0 _ (HLD.out.below hT5.below HLD.out.pos)
                      rw [errV_zero] at hbare
                      have hry := HN.out.t.r.rd y (List.mem_of_getElem? HY.out)
                      have hz40 := HN.out.xn z (List.mem_of_getElem? hz)
                      have HBA := Lib.hid hbare; clear hbare
                      have HT5 := Lib.hid hT5; clear hT5 hT4 hN hF4 hbl5
                      have HO5 := Lib.hid hO5; clear hO5 hO
                      have HB5 := Lib.hid hB5; clear hB5 hB4
                      have HC5 := Lib.hid hC5; clear hC5 q1 hwl
                      have HRY := Lib.hid hry; clear hry
                      have HZM := Lib.hid hzm; clear hzm
                      have HZN := Lib.hid hzn; clear hzn
                      have HZ := Lib.hid hz; clear hz hVo hVo4
                      unfold errC at *
                      unfold mrV msgV
                      go_wp2_with fail
                      refine HBA.out.mono ?_
                      rintro e v6 ⟨rfl, hb6⟩
                      have hT6 := HT5.out.tall hb6
                      have hO6 := ownW_below HO5.out hb6
                      have ha7 := HB5.out.below hb6 HB5.out.lt
                      have hc7 := HC5.out.below hb6 HC5.out.lt
                      have hsm := sameMsg y.m v6.heap.size W.heap.size y.n z.k y.k z.A y.A v6 (by rw [← HZM.out, ← HZN.out]; exact ⟨hO6.2, Rd.of_own hO6.1⟩) ⟨HRY.out.1, rd_via HRY.out.2 HN.out.t.below hT6.below⟩ (Nat.le_refl _) hT6.below.size (by have := HZN.out; omega)
                      unfold msgV at hsm
                      rw [← HZM.out, ← HZN.out] at hsm
                      have HSM := Lib.hid hsm; clear hsm
                      have a0 := ha7.cell 0
                      have a1 := ha7.cell 1
                      have a2 := ha7.cell 2
                      have a3 := ha7.cell 3
                      have a4 := ha7.cell 4
                      have a5 := ha7.cell 5
                      have a6 := ha7.cell 6
                      have a7 := ha7.cell 7
                      have a8 := ha7.cell 8
                      have b0 := hc7.cell 0
                      have b1 := hc7.cell 1
                      have b2 := hc7.cell 2
                      have b3 := hc7.cell 3
                      have b4 := hc7.cell 4
                      have b5 := hc7.cell 5
                      have b6 := hc7.cell 6
                      have b7 := hc7.cell 7
                      have b8 := hc7.cell 8
                      simp only [List.getElem?_toArray, List.getElem?_cons_succ, List.getElem?_cons_zero] at a0 a1 a2 a3 a4 a5 a6 a7 a8 b0 b1 b2 b3 b4 b5 b6 b7 b8
                      rw [← HZM.out] at a0 a1 a2 a3 a4 a5 a6 a7
                      rw [← HZN.out] at a8
                      have hla := ha7.lt
                      have hlc := hc7.lt
                      have HT6 := Lib.hid hT6; clear hT6 hb6 ha7 hc7 hO6
                      go_wp2_with fail
                      refine HSM.out.mono ?_
                      rintro e v8 ⟨rfl, hb8⟩
                      have hfin : NpS W (200 + 300 * (j + 1)) v8 := ⟨_, _, _, _, _, _, _, _, _, _, (HN.out.erased x.k.toNat lost (by omega) (HT6.out.tall hb8)).mono (by omega)⟩
                      have HFIN := Lib.hid hfin; clear hfin hb8
                      go_wp2_with fail
                      go_meet
                      exact HFIN.out
                  --}c1
                by_cases w2 : x.what = 2
                · --{c2
                  as_aux_lemma =>
                    have d0 : (x.what == 0) = false := by simpa using w0
                    have d1 : (x.what == 1) = false := by simpa using w1
                    have d2 : (x.what == 2) = true := by simpa using w2
                    have hn := HN2.out
                    have hb := hbb.out
                    clear w0 w1 w2
                    rcases b with _ | _
                    · have hout : x.k < 0 ∨ (Lr.length : Int) ≤ x.k := by
                        by_cases h1 : 0 ≤ x.k
                        · by_cases h2 : x.k < Lr.length
                          · exact absurd (hb.symm) (by simp [h1, h2])
                          · right; omega
                        · left; omega
                      have hr2 := lose_no W.heap.size W.heap.size 0 nd _ cs V D L (memI dl) lost wc x.k hn.t.n (by rw [hn.len]; exact hout)
                      have HR2 := Lib.hid hr2; clear hr2 hout hb
                      have HN := Lib.hid hn; clear hn
                      go_wp2_with fail
                      refine HR2.out.mono ?_
                      rintro e v4 ⟨rfl, hb4⟩
                      have hbare := bare_any 2 2 _ (HLD.out.below (HN.out.t.below.trans (hb4.mono HN.out.t.below.size)) HLD.out.pos)
                      have e2 : errV 2 = rangeE := rfl
                      rw [e2] at hbare
                      have HBA := Lib.hid hbare; clear hbare e2
                      have HB4 := Lib.hid hb4; clear hb4
                      unfold rangeE errC at *
                      go_wp2_with fail
                      refine HBA.out.mono ?_
                      rintro e v6 ⟨rfl, hb6⟩
                      have hfin : NpS W (200 + 300 * (j + 1)) v6 := ⟨_, _, _, _, _, _, _, _, _, _, (HN.out.mono (by omega)).tall (HB4.out.trans (hb6.mono HB4.out.size))⟩
                      have HFIN := Lib.hid hfin; clear hfin hb6
                      go_wp2_with fail
                      go_meet
                      exact HFIN.out
                    · have hkk : ((x.k.toNat : Nat) : Int) = x.k ∧ x.k.toNat < Lr.length := by
                        have := of_decide_eq_true hb.symm
                        omega
                      have hr1 := rtake_yes W.heap.size (W.heap.size + 1) VL VD Lr dl lost x.k.toNat wc hn.t.r hn.t.vd hkk.2
                      rw [hkk.1] at hr1
                      have HR1 := Lib.hid hr1; clear hr1 hb
                      have HKK := Lib.hid hkk; clear hkk
                      have HN := Lib.hid hn; clear hn
                      go_wp2_with fail
                      refine HR1.out.mono ?_
                      rintro e v2 ⟨VL', y, bq, hy, rfl, hR, hF, hVo, hVb⟩
                      have hlo := hR.lo
                      have hblo := HN.out.blo
                      have hT2 := HN.out.t.stepR hR hF (fun b hb => by rw [hVo] at hb; injection hb with hb; right; omega)
                      have hset : Fr (RefB (W.heap.size + 1) VL' VD) v2 (v2.setCell ⟨W.heap.size + 1, 2, none⟩ (.int .i64 (lost + 1))) := (Fr.refl _ _).setCell (p := ⟨W.heap.size + 1, 2, none⟩) (.inl (.inl rfl)) _
                      have hT3 := hT2.stepR (ref_lost hT2.r (lost + 1) (by omega) (by omega)) hset (fun b hb => .inl hb)
                      have hway := hT2.blkR hset (HN.out.t.blkR hF HB2.out (by decide)) (by decide)
                      have q1 := hway.cell 1
                      have c2 := hT2.r.blk.cell 2
                      have f2 := hT2.r.blk.frozen 2
                      simp only [List.getElem?_toArray, List.getElem?_cons_succ, List.getElem?_cons_zero] at q1 c2
                      have hhl := hT2.r.blk.lt
                      have hwl := hway.lt
                      have hr2 := lose_yes W.heap.size W.heap.size 0 nd _ cs V D L (memI dl) lost _ x.k.toNat hT3.n (by rw [HN.out.len]; exact HKK.out.2) (by omega)
                      rw [HKK.out.1] at hr2
                      have HR2 := Lib.hid hr2; clear hr2
                      have HT3 := Lib.hid hT3; clear hT3 hT2 hway hset hR hF hVo
                      clear x0 x1 x2 hbl
                      unfold mrV msgV
                      go_wp2_with fail
                      refine HR2.out.mono ?_
                      rintro e v4 ⟨V', rfl, hN, hF4, hVo4⟩
                      have hT4 := HT3.out.stepN hN hF4 (.inl hVo4) (.inl rfl) (by simpa using HT3.out.size)
                      have hbare := bare_any 0 0 _ (HLD.out.below hT4.below HLD.out.pos)
                      rw [errV_zero] at hbare
                      have HBA := Lib.hid hbare; clear hbare
                      have HT4 := Lib.hid hT4; clear hT4 hN hF4 hVo4
                      unfold errC at *
                      go_wp2_with fail
                      refine HBA.out.mono ?_
                      rintro e v6 ⟨rfl, hb6⟩
                      have hfin : NpS W (200 + 300 * (j + 1)) v6 := ⟨_, _, _, _, _, _, _, _, _, _, (HN.out.erased x.k.toNat (lost + 1) (by omega) (HT4.out.tall hb6)).mono (by omega)⟩
                      have HFIN := Lib.hid hfin; clear hfin hb6
                      go_wp2_with fail
                      go_meet
                      exact HFIN.out
                  --}c2
                by_cases w3 : x.what = 3
                · --{c3
                  have d0 : (x.what == 0) = false := by simpa using w0
                  have d1 : (x.what == 1) = false := by simpa using w1
                  have d2 : (x.what == 2) = false := by simpa using w2
                  have d3 : (x.what == 3) = true := by simpa using w3
                  have hn := HN2.out
                  have hb := hbb.out
                  clear w0 w1 w2 w3
                  rcases b with _ | _
                  · clear_value *
                    as_aux_lemma =>
                      have hout : x.k < 0 ∨ (Lr.length : Int) ≤ x.k := by
                        by_cases h1 : 0 ≤ x.k
                        · by_cases h2 : x.k < Lr.length
                          · exact absurd (hb.symm) (by simp [h1, h2])
                          · right; omega
                        · left; omega
                      have hr2 := twice_no W.heap.size W.heap.size 0 nd _ cs V D L (memI dl) lost wc x.k hn.t.n (by rw [hn.len]; exact hout)
                      have HR2 := Lib.hid hr2; clear hr2 hout hb
                      have hbare := bare_any 2 2 wc (HLD.out.below hn.t.below HLD.out.pos)
                      have e2 : errV 2 = errnoV 2 := rfl
                      rw [e2] at hbare
                      have HBA := Lib.hid hbare; clear hbare e2
                      have HN := Lib.hid hn; clear hn
                      unfold errnoV errC at *
                      go_wp2_with fail
                      refine HR2.out.mono ?_
                      rintro e v4 ⟨rfl, rfl⟩
                      go_wp2_with fail
                      refine HBA.out.mono ?_
                      rintro e v6 ⟨rfl, hb6⟩
                      have hfin : NpS W (200 + 300 * (j + 1)) v6 := ⟨_, _, _, _, _, _, _, _, _, _, (HN.out.mono (by omega)).tall hb6⟩
                      have HFIN := Lib.hid hfin; clear hfin hb6
                      go_wp2_with fail
                      go_meet
                      exact HFIN.out
                  · have hkk : 0 ≤ x.k ∧ x.k < Lr.length := of_decide_eq_true hb.symm
                    obtain ⟨kn, hkn⟩ : ∃ kn : Nat, x.k = kn := ⟨x.k.toNat, by omega⟩
                    rw [hkn] at hkk
                    have hk := hkk.2
                    clear hkk hb
                    rw [hkn] at x1
                    obtain ⟨AL, cL, hVL, _, _⟩ := own_slice hn.t.r.rowL
                    have r0 := hn.t.r.blk.cell 0
                    have hhl := hn.t.r.blk.lt
                    have hlen := hn.len
                    have hl200 := hn.t.n.len
                    simp only [List.getElem?_toArray, List.getElem?_cons_zero] at r0
                    rw [hVL] at r0
                    by_cases hfl : 200 ≤ (Lr.length : Int)
                    · clear_value *
                      as_aux_lemma =>
                        have hr2 := twice_full W.heap.size W.heap.size 0 nd _ cs V D L (memI dl) lost wc kn hn.t.n (by omega) (by omega)
                        have HR2 := Lib.hid hr2; clear hr2
                        have hbare := bare_any 4 4 wc (HLD.out.below hn.t.below HLD.out.pos)
                        have e2 : errV 4 = errnoV 4 := rfl
                        rw [e2] at hbare
                        have HBA := Lib.hid hbare; clear hbare e2
                        have HN := Lib.hid hn; clear hn
                        clear hlen hl200 hVL
                        unfold errnoV errC at *
                        go_wp2_with fail
                        refine HR2.out.mono ?_
                        rintro e v4 ⟨rfl, rfl⟩
                        go_wp2_with fail
                        refine HBA.out.mono ?_
                        rintro e v6 ⟨rfl, hb6⟩
                        have hfin : NpS W (200 + 300 * (j + 1)) v6 := ⟨_, _, _, _, _, _, _, _, _, _, (HN.out.mono (by omega)).tall hb6⟩
                        have HFIN := Lib.hid hfin; clear hfin hb6
                        go_wp2_with fail
                        go_meet
                        exact HFIN.out
                    · have hrowL : wc.ownsRow W.heap.size 26 9 (.slice AL Lr.length cL) Lr.length (Lr.flatMap mrCells) := by rw [← hVL]; exact hn.t.r.rowL
                      obtain ⟨g4, o4, y, hA4, hg4, hy, hc4⟩ := (Rd.of_own hrowL).cells9 rfl (j := kn) (by omega)
                      obtain ⟨z, hz⟩ : ∃ z, L[kn]? = some z := ⟨_, List.getElem?_eq_getElem (by omega)⟩
                      obtain ⟨hzm, hzn⟩ := hn.at_ hz hy
                      have hblo := hn.blo
                      have hlo := hn.t.n.lo
                      have hT1 : TwoI W wc.drew cs V VL VD D nd L Lr (memI dl) dl lost lost := hn.t.fr ((Fr.refl (fun _ => False) _).drew) (fun _ h => h.elim)
                      have hr1 := rsend_any W.heap.size (W.heap.size + 1) VL VD Lr dl lost y wc.drew hT1.r (hT1.r.rd y (List.mem_of_getElem? hy)) hT1.vd (by omega)
                      unfold mrV msgV at hr1
                      have HR1 := Lib.hid hr1; clear hr1
                      have HT1 := Lib.hid hT1; clear hT1
                      have HN := Lib.hid hn; clear hn
                      have HZ := Lib.hid hz; clear hz
                      have HZM := Lib.hid hzm; clear hzm
                      have HLT := Lib.hid (show L.length < 200 by omega)
                      have HLO := Lib.hid (show lost + 2 ≤ 1099511627776 by omega)
                      clear hlen hl200 hVL hrowL hy hblo hlo hzn
                      subst hA4
                      go_wp2_with fail
                      refine wp_region_any (by as_aux_lemma => kernel_rfl) ?_
                      change wpAny _ _ _ _ _ _ _ (World.drew _)
                      refine nplainQ (fun w' => Cells9 w' g4 (o4 + kn * 9) y ∧ w'.cell? ⟨W.heap.size + 1, 0, none⟩ = some (.slice (some ⟨g4, o4, none⟩) Lr.length cL) ∧ w'.cell? ⟨wr.heap.size, 1, none⟩ = some (.int .i64 (kn : Int))) 9 (fun _ _ _ _ _ h => h) (fun HQP => ?_)
                      have HCC := And.intro hc4 (And.intro r0 x1)
                      refine ntakeW 0 rfl rfl (by as_aux_lemma => kernel_rfl) (by as_aux_lemma => kernel_rfl) (by as_aux_lemma => kernel_rfl) (by as_aux_lemma => kernel_rfl) (fun _ _ _ h => HQP _ _ _ _ _ h) (by as_aux_lemma => kernel_rfl) HCC (fun w' hw' => by go_simp; rfl) ?_
                      refine ntakeDW 1 [2, 3, 4, 7, 8, 9] rfl rfl (by as_aux_lemma => kernel_rfl) (by as_aux_lemma => kernel_rfl) (by as_aux_lemma => kernel_rfl) (by as_aux_lemma => kernel_rfl) (by as_aux_lemma => kernel_rfl) (fun _ _ _ h => HQP _ _ _ _ _ h) (by as_aux_lemma => kernel_rfl) HCC (fun w' hw' => by go_simp; rfl) ?_
                      refine ntakeDW 2 [3, 4, 7, 8, 9] rfl rfl (by as_aux_lemma => kernel_rfl) (by as_aux_lemma => kernel_rfl) (by as_aux_lemma => kernel_rfl) (by as_aux_lemma => kernel_rfl) (by as_aux_lemma => kernel_rfl) (fun _ _ _ h => HQP _ _ _ _ _ h) (by as_aux_lemma => kernel_rfl) HCC (fun w' hw' => by go_simp; rfl) ?_
                      refine ntakeDW 3 [4, 7, 8, 9] rfl rfl (by as_aux_lemma => kernel_rfl) (by as_aux_lemma => kernel_rfl) (by as_aux_lemma => kernel_rfl) (by as_aux_lemma => kernel_rfl) (by as_aux_lemma => kernel_rfl) (fun _ _ _ h => HQP _ _ _ _ _ h) (by as_aux_lemma => kernel_rfl) HCC (fun w' hw' => by go_simp; rfl) ?_
                      refine ntakeDW 4 [7, 8, 9] rfl rfl (by as_aux_lemma => kernel_rfl) (by as_aux_lemma => kernel_rfl) (by as_aux_lemma => kernel_rfl) (by as_aux_lemma => kernel_rfl) (by as_aux_lemma => kernel_rfl) (fun _ _ _ h => HQP _ _ _ _ _ h) (by as_aux_lemma => kernel_rfl) HCC (fun w' hw' => by obtain ⟨_, c0, _⟩ := hw'; go_simp; rfl) ?_
                      refine ntakeDW 5 [6, 7, 8, 9] rfl rfl (by as_aux_lemma => kernel_rfl) (by as_aux_lemma => kernel_rfl) (by as_aux_lemma => kernel_rfl) (by as_aux_lemma => kernel_rfl) (by as_aux_lemma => kernel_rfl) (fun _ _ _ h => HQP _ _ _ _ _ h) (by as_aux_lemma => kernel_rfl) HCC (fun w' hw' => by go_simp; rfl) ?_
                      refine ntakeDW 6 [7, 8, 9] rfl rfl (by as_aux_lemma => kernel_rfl) (by as_aux_lemma => kernel_rfl) (by as_aux_lemma => kernel_rfl) (by as_aux_lemma => kernel_rfl) (by as_aux_lemma => kernel_rfl) (fun _ _ _ h => HQP _ _ _ _ _ h) (by as_aux_lemma => kernel_rfl) HCC (fun w' hw' => by obtain ⟨_, _, c1⟩ := hw'; go_simp; rfl) ?_
                      refine ntakeDW 7 [8, 9] rfl rfl (by as_aux_lemma => kernel_rfl) (by as_aux_lemma => kernel_rfl) (by as_aux_lemma => kernel_rfl) (by as_aux_lemma => kernel_rfl) (by as_aux_lemma => kernel_rfl) (fun _ _ _ h => HQP _ _ _ _ _ h) (by as_aux_lemma => kernel_rfl) HCC (fun w' hw' => by go_simp; rfl) ?_
                      refine ntakeW 8 rfl rfl (by as_aux_lemma => kernel_rfl) (by as_aux_lemma => kernel_rfl) (by as_aux_lemma => kernel_rfl) (by as_aux_lemma => kernel_rfl) (fun _ _ _ h => HQP _ _ _ _ _ h) (by as_aux_lemma => kernel_rfl) HCC (fun w' hw' => by obtain ⟨⟨a0, a1, a2, a3, a4, a5, a6, a7, a8⟩, _, _⟩ := hw'; go_simp; rfl) ?_
                      refine nonly 9 (by as_aux_lemma => kernel_rfl) rfl (by as_aux_lemma => kernel_rfl) (fun K hK => ?_)
                      go_simp
                      refine HR1.out.mono ?_
                      rintro e v2 ⟨VL', Lr', lostr', br, rfl, hR, hs, hlb, _, hF, hVo⟩
                      have hT2 := HT1.out.stepR hR hF (fun b hb => by
                        rcases hVo with e | ⟨b', e, hb'⟩
                        · exact .inl (e ▸ hb)
                        · rw [e] at hb; injection hb with hb; exact .inr (by omega))
                      have hway : Blk v2 wr.heap.size _ _ := HT1.out.blkR hF HB2.out (by decide)
                      have q1 := hway.cell 1
                      simp only [List.getElem?_toArray, List.getElem?_cons_succ, List.getElem?_cons_zero] at q1
                      rw [hkn] at q1
                      have hwl := hway.lt
                      have hwz := HN.out.wf z.m (List.mem_map.2 ⟨z, List.mem_of_getElem? HZ.out, rfl⟩)
                      have hr2 := twice_yes W.heap.size W.heap.size 0 nd _ cs V D L (memI dl) lost v2 kn z hT2.n HZ.out HLT.out (by have := HLO.out; omega) ⟨hwz.1, hwz.2.1, by have := HN.out.xn z (List.mem_of_getElem? HZ.out); omega⟩
                      have HR2 := Lib.hid hr2; clear hr2
                      have HT2 := Lib.hid hT2; clear hT2
                      have HS := Lib.hid hs; clear hs
                      have HLB := Lib.hid hlb; clear hlb
                      have HWZ := Lib.hid hwz; clear hwz
                      clear hR hF hVo hway
                      go_simp
                      refine hK _ _ (fun h => absurd h (by decide)) ?_
                      clear hK K
                      refine ndone (by as_aux_lemma => kernel_rfl) ?_ _
                      clear HQP
                      clear_value *
                      as_aux_lemma =>
                        clear HCC hc4 r0 x0 x1 x2 hbl hhl
                        go_wp2_with fail
                        refine HR2.out.mono ?_
                        rintro e v4 ⟨V', L', lost', rfl, hN, hs2, hF4, hVo4⟩
                        have hT4 := HT2.out.stepN hN hF4 hVo4 (.inl rfl) (by simpa using HT2.out.size)
                        have hs' : sendS ⟨msOf L, memI dl, lost⟩ z.m = ⟨msOf L', memI dl, lost'⟩ := hs2
                        have hm1 := sends_mem [z.m] ⟨msOf L, memI dl, lost⟩
                        rw [show sendsS ⟨msOf L, memI dl, lost⟩ [z.m] = ⟨msOf L', memI dl, lost'⟩ from hs2] at hm1
                        rw [HN.out.ms, HZM.out] at hs'
                        have he : (⟨msOf L', memI dl, lost'⟩ : NetS) = ⟨msOf Lr', memI dl, lostr'⟩ := hs'.symm.trans HS.out
                        injection he with he1 _ he2
                        subst he2
                        have hbare := bare_any 0 0 _ (HLD.out.below hT4.below HLD.out.pos)
                        rw [errV_zero] at hbare
                        have HBA := Lib.hid hbare; clear hbare
                        have hlast : NpS W (200 + 300 * (j + 1)) v4 := by
                          refine ⟨_, _, _, _, _, _, _, _, _, _, ⟨hT4, he1, fun x hx => ?_, by have := HN.out.bnd; omega, by have := HN.out.bdl; omega, ?_⟩⟩
                          · rcases hm1 x hx with h | h
                            · exact HN.out.wf x h
                            · rw [List.mem_singleton.1 h]; exact HWZ.out
                          · have h1 := HLB.out
                            have h2 := HN.out.blo
                            rw [h1]; split <;> omega
                        have HLA := Lib.hid hlast; clear hlast hT4 hN hs2 hF4 hVo4 hm1 hs' he1
                        unfold errC at *
                        go_wp2_with fail
                        refine HBA.out.mono ?_
                        rintro e v6 ⟨rfl, hb6⟩
                        have hfin : NpS W (200 + 300 * (j + 1)) v6 := HLA.out.tall hb6
                        have HFIN := Lib.hid hfin; clear hfin hb6
                        go_wp2_with fail
                        go_meet
                        exact HFIN.out
                  --}c3
                by_cases w4 : x.what = 4
                · --{c4
                  as_aux_lemma =>
                    have d0 : (x.what == 0) = false := by simpa using w0
                    have d1 : (x.what == 1) = false := by simpa using w1
                    have d2 : (x.what == 2) = false := by simpa using w2
                    have d3 : (x.what == 3) = false := by simpa using w3
                    have d4 : (x.what == 4) = true := by simpa using w4
                    have hn := HN2.out
                    clear w0 w1 w2 w3 w4
                    have hblo := hn.blo
                    have hbdl := hn.bdl
                    have hbnd := hn.bnd
                    have hT1 : TwoI W wc.drew cs V VL VD D nd L Lr (memI dl) dl lost lost := hn.t.fr ((Fr.refl (fun _ => False) _).drew) (fun _ h => h.elim)
                    have hr1 := down_any W.heap.size W.heap.size 0 nd _ cs V D L (memI dl) lost x.k wc.drew hT1.n HXO.out.1 (by omega) (by omega)
                    have HR1 := Lib.hid hr1; clear hr1
                    have HT1 := Lib.hid hT1; clear hT1
                    have HN := Lib.hid hn; clear hn
                    go_wp2_with fail
                    refine wp_region_any (by as_aux_lemma => kernel_rfl) ?_
                    change wpAny _ _ _ _ _ _ _ (World.drew _)
                    refine nplainQ (fun w' => w'.cell? ⟨wr.heap.size, 1, none⟩ = some (.int .i64 x.k)) 8 (fun _ _ _ _ _ h => h) (fun HQP => ?_)
                    have HCC := x1
                    refine ntakeW 0 rfl rfl (by as_aux_lemma => kernel_rfl) (by as_aux_lemma => kernel_rfl) (by as_aux_lemma => kernel_rfl) (by as_aux_lemma => kernel_rfl) (fun _ _ _ h => HQP _ _ _ _ _ h) (by as_aux_lemma => kernel_rfl) HCC (fun w' hw' => by go_simp; rfl) ?_
                    refine ntakeW 1 rfl rfl (by as_aux_lemma => kernel_rfl) (by as_aux_lemma => kernel_rfl) (by as_aux_lemma => kernel_rfl) (by as_aux_lemma => kernel_rfl) (fun _ _ _ h => HQP _ _ _ _ _ h) (by as_aux_lemma => kernel_rfl) HCC (fun w' hw' => by go_simp; rfl) ?_
                    refine ntakeW 3 rfl rfl (by as_aux_lemma => kernel_rfl) (by as_aux_lemma => kernel_rfl) (by as_aux_lemma => kernel_rfl) (by as_aux_lemma => kernel_rfl) (fun _ _ _ h => HQP _ _ _ _ _ h) (by as_aux_lemma => kernel_rfl) HCC (fun w' hw' => by go_simp; rfl) ?_
                    refine ntakeW 4 rfl rfl (by as_aux_lemma => kernel_rfl) (by as_aux_lemma => kernel_rfl) (by as_aux_lemma => kernel_rfl) (by as_aux_lemma => kernel_rfl) (fun _ _ _ h => HQP _ _ _ _ _ h) (by as_aux_lemma => kernel_rfl) HCC (fun w' hw' => by go_simp; rfl) ?_
                    refine ntakeW 5 rfl rfl (by as_aux_lemma => kernel_rfl) (by as_aux_lemma => kernel_rfl) (by as_aux_lemma => kernel_rfl) (by as_aux_lemma => kernel_rfl) (fun _ _ _ h => HQP _ _ _ _ _ h) (by as_aux_lemma => kernel_rfl) HCC (fun w' hw' => by go_simp; rfl) ?_
                    refine nonly 2 (by as_aux_lemma => kernel_rfl) rfl (by as_aux_lemma => kernel_rfl) (fun K hK => ?_)
                    go_simp
                    refine HR1.out.mono ?_
                    rintro e v2 ⟨V', D', d, rfl, hd, hN, hF, hVo, hD⟩
                    have hT2 := HT1.out.stepN hN hF (.inl hVo) hD (by simpa using HN.out.t.size)
                    have hway : Blk v2 wr.heap.size _ _ := HT1.out.blkN hF HB2.out (by decide)
                    have q1 := hway.cell 1
                    simp only [List.getElem?_toArray, List.getElem?_cons_succ, List.getElem?_cons_zero] at q1
                    have hr2 := rdown_any W.heap.size (W.heap.size + 1) VL VD Lr dl lost x.k v2 hT2.r (by omega) (by omega)
                    have HR2 := Lib.hid hr2; clear hr2
                    have HT2 := Lib.hid hT2; clear hT2 hN hF hVo hD
                    have HWAY := Lib.hid hway; clear hway
                    have HD := Lib.hid hd; clear hd
                    go_simp
                    refine hK _ _ (fun _ => q1) ?_
                    clear hK K
                    refine nonly 6 (by as_aux_lemma => kernel_rfl) rfl (by as_aux_lemma => kernel_rfl) (fun K hK => ?_)
                    go_simp
                    refine HR2.out.mono ?_
                    rintro e v3 ⟨VL', VD', d', rfl, hd', hR, hF, hVL', hVD', _⟩
                    have hT3 := HT2.out.stepR hR hF (fun b hb => .inr (hVL' b hb))
                    have hway3 : Blk v3 wr.heap.size _ _ := HT2.out.blkR hF HWAY.out (by decide)
                    have q3 := hway3.cell 1
                    simp only [List.getElem?_toArray, List.getElem?_cons_succ, List.getElem?_cons_zero] at q3
                    have hkk : (kept x.k L).length = (kept x.k Lr).length := by
                      have : msOf (kept x.k L) = msOf (kept x.k Lr) := by rw [msOf_kept, msOf_kept, HN.out.ms]
                      have := congrArg List.length this
                      simpa [msOf] using this
                    have hdd : d' = d := by rw [hd', HD.out, hkk, HN.out.len]
                    subst hdd
                    have hkl : (kept x.k L).length ≤ L.length := List.length_filter_le _ _
                    have hl2 := HN.out.t.n.len
                    have hT3' := hT3
                    rw [memI_snoc] at hT3'
                    have hfin : NpS W (200 + 300 * (j + 1)) v3 := by
                      refine ⟨_, _, _, _, _, _, _, _, _, _, ⟨hT3', by rw [msOf_kept, msOf_kept, HN.out.ms], fun y hy => HN.out.wf y ?_, by omega, by simp; omega, ?_⟩⟩
                      · rw [msOf_kept] at hy; exact (List.mem_filter.1 hy).1
                      · have := HD.out; omega
                    have HFIN := Lib.hid hfin; clear hfin hT3' hT3 hway3 hR hF hVL' hVD' hd' hkk hkl hl2
                    go_simp
                    refine hK _ _ (fun _ => q3) ?_
                    clear hK K
                    refine nonly 7 (by as_aux_lemma => kernel_rfl) rfl (by as_aux_lemma => kernel_rfl) (fun K hK => ?_)
                    go_simp
                    refine hK _ _ (fun _ => q3) ?_
                    clear hK K
                    refine ndone (by as_aux_lemma => kernel_rfl) ?_ _
                    clear HCC q1 q3 x0 x1 x2
                    go_wp2_with fail
                    go_meet
                    exact HFIN.out
                  --}c4
                · have d0 : (x.what == 0) = false := by simpa using w0
                  have d1 : (x.what == 1) = false := by simpa using w1
                  have d2 : (x.what == 2) = false := by simpa using w2
                  have d3 : (x.what == 3) = false := by simpa using w3
                  have d4 : (x.what == 4) = false := by simpa using w4
                  go_wp2_with fail
                  go_meet
                  exact ⟨_, _, _, _, _, _, _, _, _, _, HN2.out.mono (by omega)⟩
                --}switch
              case rest =>
                --{tail
                clear HN2 HB2 x0 x1 x2 hbl hbb
                obtain ⟨cs, V, VL, VD, D, nd, L, Lr, dl, lost, hn⟩ := hcut
                have hall := all_any W.heap.size W.heap.size nd _ cs V D L (memI dl) lost _ hn.t.n (fun y hy => by have := hn.xn y hy; omega)
                have HALL := Lib.hid hall; clear hall
                have HN := Lib.hid hn; clear hn
                go_wp2_with fail
                refine HALL.out.mono ?_
                rintro e w2 ⟨A2, k2, M, rfl, hrow2, hms2, hlm, hown2, hb2⟩
                have hn2 := HN.out.tall hb2
                clear HALL HN
                have hmany := fun q => (many_any W.heap.size W.heap.size 0 nd _ cs V D L (memI dl) lost (w2.drewN q) (hn2.tall (below_dN (Below.refl _ _) q)).t.n).mono (fun e w' (h : e = _ ∧ w2.drewN q = w') => (⟨h.1, h.2.symm⟩ : e = .returned (.int .i64 L.length) ∧ w' = w2.drewN q))
                have hlostc := fun q => (lost_any W.heap.size W.heap.size 0 nd _ cs V D L (memI dl) lost (w2.drewN q) (hn2.tall (below_dN (Below.refl _ _) q)).t.n).mono (fun e w' (h : e = _ ∧ w2.drewN q = w') => (⟨h.1, h.2.symm⟩ : e = .returned (.int .i64 lost) ∧ w' = w2.drewN q))
                obtain ⟨AL, cL, hVL, _, _⟩ := own_slice hn2.t.r.rowL
                rw [← hn2.len] at hVL
                have r0 := hn2.t.r.blk.cell 0
                have r2 := hn2.t.r.blk.cell 2
                simp only [List.getElem?_toArray, List.getElem?_cons_succ, List.getElem?_cons_zero] at r0 r2
                rw [hVL] at r0
                have hhl := hn2.t.r.blk.lt
                have HMA := Lib.hid hmany; clear hmany
                have HLO := Lib.hid hlostc; clear hlostc
                have HVL := Lib.hid hVL; clear hVL
                have HN2 := Lib.hid hn2; clear hn2
                have HROW := Lib.hid hrow2; clear hrow2
                have HMS := Lib.hid hms2; clear hms2
                have HLM := Lib.hid hlm; clear hlm
                have HOWN := Lib.hid hown2; clear hown2 hb2
                go_wp2_with fail
                go_quiet ((first | (go_at_call 33; exact Calls.quiet_of_same (HMA.out _)) | (go_at_call 34; exact Calls.quiet_of_same (HLO.out _))))
                go_wp2_with fail
                clear r2 HMA HLO
                have hL200 := HN2.out.t.n.len
                go_loopw [19] (UpRel L.length w2) (fun v _ => L.length - (intOf v).toNat)
                case atStart => exact ⟨0, rfl, Nat.zero_le _, below_dN (Below.refl _ _) _⟩
                case round =>
                  obtain ⟨q, rfl, hq, hbq⟩ := hrel
                  have hn3 := HN2.out.tall hbq
                  by_cases hlq : (q : Int) < L.length
                  · have hlM := HLM.out
                    have hrowq := own_below HROW.out hbq
                    rw [hlM] at hrowq
                    obtain ⟨g3, o3, y1, hA3, hg3, hy1, hc1⟩ := (Rd.of_own hrowq).cells9 hlM (j := q) (by omega)
                    have hrowL3 : wr.ownsRow W.heap.size 26 9 (.slice AL Lr.length cL) Lr.length (Lr.flatMap mrCells) := by rw [← hn3.len, ← HVL.out, hn3.len]; exact hn3.t.r.rowL
                    obtain ⟨g4, o4, y2, hA4, hg4, hy2, hc2⟩ := (Rd.of_own hrowL3).cells9 rfl (j := q) (by have := hn3.len; omega)
                    have e12 : y1.m = y2.m := by
                      have e : (msOf M)[q]? = (msOf Lr)[q]? := by rw [HMS.out, hn3.ms]
                      unfold msOf at e
                      rw [List.getElem?_map, List.getElem?_map, hy1, hy2] at e
                      simpa using e
                    have ho1 := ownW_below (HOWN.out y1 (List.mem_of_getElem? hy1)) hbq
                    have hr2 := hn3.t.r.rd y2 (List.mem_of_getElem? hy2)
                    have en : y1.n = y2.n := by rw [← ho1.2, ← hr2.1, e12]
                    have hn40 : y2.n ≤ 40 := by
                      have h1 := hn3.wf y2.m (by rw [hn3.ms]; exact List.mem_map.2 ⟨y2, List.mem_of_getElem? hy2, rfl⟩)
                      have h2 := hr2.1
                      unfold OkM at h1
                      omega
                    have c0 := hn3.t.r.blk.cell 0
                    simp only [List.getElem?_toArray, List.getElem?_cons_zero] at c0
                    rw [HVL.out] at c0
                    have hsm : ∀ w9, Below wr.heap.size wr w9 → Calls Tryd.prog 22 #[mrV y1, mrV y2] w9 (TrueP w9) := fun w9 hb9 => by
                      have := sameMsg y2.m wr.heap.size W.heap.size y2.n y1.k y2.k y1.A y2.A w9 (by rw [← e12, ← en]; exact ⟨ho1.2, (Rd.of_own ho1.1).below hb9⟩) ⟨hr2.1, hr2.2.below (hb9.mono hn3.t.below.size)⟩ hb9.size (Nat.le_trans hn3.t.below.size hb9.size) (by omega)
                      unfold mrV
                      rw [e12, en]
                      exact this
                    have hhl3 := hn3.t.r.blk.lt
                    have HSM := Lib.hid hsm; clear hsm
                    have HN3 := Lib.hid hn3; clear hn3
                    have HLN := Lib.hid hlM; clear hlM
                    clear hrowq hrowL3 ho1 hr2 en hn40 hy1 hy2
                    have HE := Lib.hid e12; clear e12
                    unfold mrV msgV at HSM
                    rw [hA3, hA4] at *
                    go_wp2_with fail
                    refine wp_region_any (by as_aux_lemma => kernel_rfl) ?_
                    change wpAny _ _ _ _ _ _ _ (World.drew _)
                    refine nplainQ (fun w' => Cells9 w' g3 (o3 + q * 9) y1 ∧ Cells9 w' g4 (o4 + q * 9) y2 ∧ w'.cell? ⟨W.heap.size + 1, 0, none⟩ = some (.slice (some ⟨g4, o4, none⟩) L.length cL)) 13 (fun _ _ _ _ _ h => h) (fun HQP => ?_)
                    have HCC := And.intro hc1 (And.intro hc2 c0)
                    have hcar : ∀ w9, Below wr.heap.size wr w9 → Cells9 w9 g3 (o3 + q * 9) y1 ∧ Cells9 w9 g4 (o4 + q * 9) y2 ∧ w9.cell? ⟨W.heap.size + 1, 0, none⟩ = some (.slice (some ⟨g4, o4, none⟩) L.length cL) := fun w9 hb9 =>
                      ⟨hc1.fr (fr_of_below hb9) hg3 (fun e : wr.heap.size ≤ g3 => by omega), hc2.fr (fr_of_below hb9) hg4 (fun e : wr.heap.size ≤ g4 => by omega), (hb9.cell (p := ⟨W.heap.size + 1, 0, none⟩) hhl3).trans c0⟩
                    have HCAR := Lib.hid hcar; clear hcar
                    refine ntakeW 0 rfl rfl (by as_aux_lemma => kernel_rfl) (by as_aux_lemma => kernel_rfl) (by as_aux_lemma => kernel_rfl) (by as_aux_lemma => kernel_rfl) (fun _ _ _ h => HQP _ _ _ _ _ h) (by as_aux_lemma => kernel_rfl) HCC (fun w' hw' => by go_simp; rfl) ?_
                    refine ntakeW 1 rfl rfl (by as_aux_lemma => kernel_rfl) (by as_aux_lemma => kernel_rfl) (by as_aux_lemma => kernel_rfl) (by as_aux_lemma => kernel_rfl) (fun _ _ _ h => HQP _ _ _ _ _ h) (by as_aux_lemma => kernel_rfl) HCC (fun w' hw' => by go_simp; rfl) ?_
                    refine ntakeW 2 rfl rfl (by as_aux_lemma => kernel_rfl) (by as_aux_lemma => kernel_rfl) (by as_aux_lemma => kernel_rfl) (by as_aux_lemma => kernel_rfl) (fun _ _ _ h => HQP _ _ _ _ _ h) (by as_aux_lemma => kernel_rfl) HCC (fun w' hw' => by go_simp; rfl) ?_
                    refine ntakeW 3 rfl rfl (by as_aux_lemma => kernel_rfl) (by as_aux_lemma => kernel_rfl) (by as_aux_lemma => kernel_rfl) (by as_aux_lemma => kernel_rfl) (fun _ _ _ h => HQP _ _ _ _ _ h) (by as_aux_lemma => kernel_rfl) HCC (fun w' hw' => by obtain ⟨⟨a0, a1, a2, a3, a4, a5, a6, a7, a8⟩, ⟨b0, b1, b2, b3, b4, b5, b6, b7, b8⟩, c0⟩ := hw'; go_simp; rfl) ?_
                    refine ntakeW 4 rfl rfl (by as_aux_lemma => kernel_rfl) (by as_aux_lemma => kernel_rfl) (by as_aux_lemma => kernel_rfl) (by as_aux_lemma => kernel_rfl) (fun _ _ _ h => HQP _ _ _ _ _ h) (by as_aux_lemma => kernel_rfl) HCC (fun w' hw' => by go_simp; rfl) ?_
                    refine ntakeW 5 rfl rfl (by as_aux_lemma => kernel_rfl) (by as_aux_lemma => kernel_rfl) (by as_aux_lemma => kernel_rfl) (by as_aux_lemma => kernel_rfl) (fun _ _ _ h => HQP _ _ _ _ _ h) (by as_aux_lemma => kernel_rfl) HCC (fun w' hw' => by go_simp; rfl) ?_
                    refine ntakeW 6 rfl rfl (by as_aux_lemma => kernel_rfl) (by as_aux_lemma => kernel_rfl) (by as_aux_lemma => kernel_rfl) (by as_aux_lemma => kernel_rfl) (fun _ _ _ h => HQP _ _ _ _ _ h) (by as_aux_lemma => kernel_rfl) HCC (fun w' hw' => by go_simp; rfl) ?_
                    refine ntakeW 7 rfl rfl (by as_aux_lemma => kernel_rfl) (by as_aux_lemma => kernel_rfl) (by as_aux_lemma => kernel_rfl) (by as_aux_lemma => kernel_rfl) (fun _ _ _ h => HQP _ _ _ _ _ h) (by as_aux_lemma => kernel_rfl) HCC (fun w' hw' => by obtain ⟨⟨a0, a1, a2, a3, a4, a5, a6, a7, a8⟩, ⟨b0, b1, b2, b3, b4, b5, b6, b7, b8⟩, c0⟩ := hw'; go_simp; rfl) ?_
                    refine ntakeW 8 rfl rfl (by as_aux_lemma => kernel_rfl) (by as_aux_lemma => kernel_rfl) (by as_aux_lemma => kernel_rfl) (by as_aux_lemma => kernel_rfl) (fun _ _ _ h => HQP _ _ _ _ _ h) (by as_aux_lemma => kernel_rfl) HCC (fun w' hw' => by go_simp; rfl) ?_
                    refine ntakeW 9 rfl rfl (by as_aux_lemma => kernel_rfl) (by as_aux_lemma => kernel_rfl) (by as_aux_lemma => kernel_rfl) (by as_aux_lemma => kernel_rfl) (fun _ _ _ h => HQP _ _ _ _ _ h) (by as_aux_lemma => kernel_rfl) HCC (fun w' hw' => by go_simp; rfl) ?_
                    refine ntakeW 10 rfl rfl (by as_aux_lemma => kernel_rfl) (by as_aux_lemma => kernel_rfl) (by as_aux_lemma => kernel_rfl) (by as_aux_lemma => kernel_rfl) (fun _ _ _ h => HQP _ _ _ _ _ h) (by as_aux_lemma => kernel_rfl) HCC (fun w' hw' => by obtain ⟨⟨a0, a1, a2, a3, a4, a5, a6, a7, a8⟩, ⟨b0, b1, b2, b3, b4, b5, b6, b7, b8⟩, c0⟩ := hw'; go_simp; rfl) ?_
                    refine nonly 11 (by as_aux_lemma => kernel_rfl) rfl (by as_aux_lemma => kernel_rfl) (fun K hK => ?_)
                    go_simp
                    refine (HSM.out wr.drew (Below.refl _ _).drew).mono ?_
                    rintro e w9 ⟨rfl, hb9⟩
                    have hb9' : Below wr.heap.size wr w9 := (Below.refl wr.heap.size wr).drew.trans hb9
                    go_simp
                    refine hK _ _ (fun _ => HCAR.out _ hb9') ?_
                    clear hK K
                    refine nonly 12 (by as_aux_lemma => kernel_rfl) rfl (by as_aux_lemma => kernel_rfl) (fun K hK => ?_)
                    go_simp
                    refine hK _ _ (fun _ => HCAR.out _ hb9') ?_
                    clear hK K
                    refine ndone (by as_aux_lemma => kernel_rfl) ?_ _
                    as_aux_lemma =>
                      have hbq9 := hbq.trans (hb9'.mono hbq.size)
                      have HBQ := Lib.hid hbq9; clear hbq9 hb9' hb9 HCC hc1 hc2 c0
                      go_wp2_with fail
                      go_roundw
                      case rel => exact ⟨q + 1, rfl, by omega, HBQ.out⟩
                      case measure => simp [intOf]; omega
                  · skip
                    as_aux_lemma =>
                      have hfin : NpS W (200 + 300 * (j + 1)) wr := ⟨_, _, _, _, _, _, _, _, _, _, hn3⟩
                      have HFIN := Lib.hid hfin; clear hfin hn3
                      go_wp2_with fail
                      go_roundw
                      case rel => exact ⟨j + 1, rfl, by omega, HFIN.out⟩
                      case measure => simp [intOf]; omega
                --}tail
      · obtain ⟨cs, V, VL, VD, D, nd, L, Lr, dl, lost, hn⟩ := hS
        have hB := Lib.hid hn.t.below; clear hn
        go_wp2_with fail
        go_ret
        exact ⟨rfl, hB.out⟩
end Go.Proofs.YtnahkpfamocnfaaDoor
