/- chainmailkeep.LocksApart: the walk. -/
import Derived.Test.YtnahkpfamocnfabLaW
namespace Go.Proofs.Ytnahkpfamocnfab
open Go.RowKit
def hoCells (x : Int × Int × Int) : List Value := [.int .i64 x.1, .int .i64 x.2.1, .int .i64 x.2.2]
theorem flatH : ∀ (l : List (Int × Int × Int)) (j : Nat) (x : Int × Int × Int), l[j]? = some x → ∀ i, i < 3 → (l.flatMap hoCells)[j * 3 + i]? = (hoCells x)[i]?
  | [], j, p, h, i, hi => by simp at h
  | q :: l, 0, p, h, i, hi => by
    simp at h
    subst h
    rw [List.flatMap_cons, List.getElem?_append_left (by show _ < 3; omega)]
    simp
  | q :: l, j + 1, p, h, i, hi => by
    have h' : l[j]? = some p := by simpa using h
    have e : (j + 1) * 3 + i = (j * 3 + i) + 3 := by omega
    have e3 : (hoCells q).length = 3 := rfl
    rw [e, List.flatMap_cons, List.getElem?_append_right (by rw [e3]; omega), e3, Nat.add_sub_cancel]
    exact flatH l j p h' i hi
theorem Rd.cellsH {w : World} {B n j : Nat} {A : Option Addr} {l : List (Int × Int × Int)} (h : Rd w B 3 A n (l.flatMap hoCells)) (hl : l.length = n) (hj : j < n) : ∃ g off x, A = some ⟨g, off, none⟩ ∧ g < B ∧ l[j]? = some x ∧
    w.cell? ⟨g, off + j * 3, none⟩ = some (.int .i64 x.1) ∧ w.cell? ⟨g, off + j * 3 + 1, none⟩ = some (.int .i64 x.2.1) ∧ w.cell? ⟨g, off + j * 3 + 2, none⟩ = some (.int .i64 x.2.2) := by
  obtain ⟨g, off, e, hb, hc⟩ := h.2 (by omega)
  have hx : l[j]? = some l[j] := List.getElem?_eq_getElem (by omega)
  have hf := flatH l j _ hx
  exact ⟨g, off, l[j], e, hb, hx, hc (j * 3) _ (hf 0 (by omega)), hc (j * 3 + 1) _ (hf 1 (by omega)), hc (j * 3 + 2) _ (hf 2 (by omega))⟩
def ky : Nat → ByteArray
  | 0 => ⟨#[97]⟩
  | 1 => ⟨#[98]⟩
  | _ => ⟨#[99]⟩
def keysC : Array Value := #[.string ⟨#[97]⟩, .string ⟨#[98]⟩, .string ⟨#[99]⟩]
theorem keysC_at {p : Nat} (h : p < 3) : keysC[p]? = some (.string (ky p)) := by
  rcases p with _ | _ | _ | p
  · rfl
  · rfl
  · rfl
  · omega
theorem ky_len (p : Nat) : (sx (ky p)).length ≤ 20 := by
  unfold ky
  split <;> decide
theorem below_dNK {B : Nat} {w w' : World} (h : Below B w w') (n : Nat) : Below B w (w'.drewN n) := ⟨h.os, h.tape, h.output, h.size, h.block⟩
theorem okN_small {a : Int} (h0 : -100000 ≤ a) (h1 : a ≤ 100000) : okN a := by
  simp only [okN, Lit.wf, Bool.and_eq_true, decide_eq_true_eq]
  have e1 : IntKind.i64.min = -9223372036854775808 := by decide
  have e2 : IntKind.i64.max = 9223372036854775807 := by decide
  rw [e1, e2]
  omega
theorem rising_len : ∀ (l : List Int) (a : Int), l.Pairwise (· < ·) → (∀ o ∈ l, a ≤ o ∧ o < 9) → (l.length : Int) ≤ max (9 - a) 0
  | [], a, _, _ => by simp; omega
  | x :: l, a, hp, hr => by
    have hx := hr x (by simp)
    have hp2 := List.pairwise_cons.1 hp
    have := rising_len l (x + 1) hp2.2 (fun o ho => ⟨by have := hp2.1 o ho; omega, (hr o (by simp [ho])).2⟩)
    simp only [List.length_cons]
    omega
/-- What a Lock tells of who is wounded. -/
theorem LockP.wounds {T T' : Tb} {x : Ak} {ok : Bool} {l : List Int} {er : Int} (h : LockP T x ok l er T') (g : GoodT (fun _ => False) T) : (er ≠ 0 → l = []) ∧ l.length ≤ 9 ∧ ∀ o ∈ l, x.tx < o ∧ o < 9 := by
  cases h with
  | arg h => exact ⟨fun _ => rfl, by simp, fun o h => by cases h⟩
  | long h hl => exact ⟨fun _ => rfl, by simp, fun o h => by cases h⟩
  | twice h hl hw => exact ⟨fun _ => rfl, by simp, fun o h => by cases h⟩
  | got h hl hw hf => exact ⟨fun _ => rfl, by simp, fun o h => by cases h⟩
  | full h hl hw hf h50 => exact ⟨fun _ => rfl, by simp, fun o h => by cases h⟩
  | waits h hl hw hf h50 hls =>
    have ga := g.at_ x.key
    have hm : ∀ o ∈ l, x.tx < o ∧ 0 ≤ o ∧ o < 9 := fun o ho => by
      obtain ⟨h1, m, h2, _⟩ := (hls.2 o).1 ho
      exact ⟨h1, (ga.hm o m h2).2⟩
    refine ⟨fun h => absurd rfl h, ?_, fun o ho => ⟨(hm o ho).1, (hm o ho).2.2⟩⟩
    have := rising_len l 0 hls.1 (fun o ho => (hm o ho).2)
    omega
theorem rd_same {w w' : World} {A : Option Addr} {n : Nat} {xs : List Value} (h : Rd w w.heap.size 1 A n xs) (hs : w.heap.size ≤ w'.heap.size) (hb : ∀ b o, A = some ⟨b, o, none⟩ → 0 < n → w'.heap[b]? = w.heap[b]?) : Rd w' w'.heap.size 1 A n xs := by
  refine ⟨h.1, fun h0 => ?_⟩
  obtain ⟨g, off, e, hg, hc⟩ := h.2 h0
  refine ⟨g, off, e, by omega, fun j u hu => ?_⟩
  exact (World.cell?_of_block (a := ⟨g, off + j, none⟩) (hb g off e h0)).trans (hc j u hu)
def LaRel (W1 : World) (n : Nat) (v5 : Value) (wr : World) : Prop :=
  ∃ (i : Nat) (T : Tb), v5 = .int .i64 i ∧ i ≤ n ∧ TA W1.heap.size (500 * i) T W1 (fun b => b = W1.heap.size + 1) wr ∧ GoodT (fun _ => False) T ∧ Blk wr (W1.heap.size + 1) 9 keysC
def MidRel (W1 : World) (i : Nat) (wr : World) : Prop :=
  ∃ T : Tb, TA W1.heap.size (500 * i + 460) T W1 (fun b => b = W1.heap.size + 1) wr ∧ GoodT (fun _ => False) T ∧ Blk wr (W1.heap.size + 1) 9 keysC
/-- Whoever is wounded lets go. -/
def WnRel (W1 : World) (i : Nat) (A : Option Addr) (l : List Int) (v12 : Value) (wr : World) : Prop :=
  ∃ (k : Nat) (T : Tb), v12 = .int .i64 k ∧ k ≤ l.length ∧ TA W1.heap.size (500 * i + 2 + 50 * k) T W1 (fun b => b = W1.heap.size + 1 ∨ ∃ o, A = some ⟨b, o, none⟩ ∧ 0 < l.length) wr ∧ GoodT (fun o => o ∈ l.drop k) T ∧ Blk wr (W1.heap.size + 1) 9 keysC ∧
    Rd wr wr.heap.size 1 A l.length (l.map (Value.int .i64))
def KkRel (wy : World) (v13 : Value) (wr : World) : Prop := ∃ k : Nat, v13 = .int .i64 k ∧ k ≤ 3 ∧ Below wy.heap.size wy wr
def XxRel (h : Int → Option Int) (wk : World) (v14 v15 v16 v17 : Value) (wr : World) : Prop := ∃ x : Nat, v17 = .int .i64 x ∧ x ≤ 9 ∧ v14 = .int .i64 (cntK h x).1 ∧ v15 = .int .i64 (cntK h x).2.1 ∧ v16 = .int .i64 (cntK h x).2.2 ∧ wr = wk
def JjRel (n : Nat) (w5 : World) (v19 : Value) (wr : World) : Prop := ∃ j : Nat, v19 = .int .i64 j ∧ j ≤ n ∧ Below w5.heap.size w5 wr
theorem Blk.same {w w' : World} {b : Nat} {t : TypeId} {cs : Array Value} (h : Blk w b t cs) (e : w'.heap[b]? = w.heap[b]?) : Blk w' b t cs := e.trans h
set_option maxRecDepth 100000 in
set_option maxHeartbeats 20000000 in
theorem apart_walk (l : List (Int × Int × Int)) (n kc : Nat) (A : Option Addr) (W : World) (hr : Rd W W.heap.size 3 A n (l.flatMap hoCells)) (hl : l.length = n) :
    Calls Try.prog 3 #[.slice A n kc] W fun e w' => e = .returned (.bool true) ∧ Below W.heap.size W w' := by
  have HR := Lib.hid hr; clear hr
  by_cases h100 : (n : Int) > 100
  · go_enter Try.func3, Try.ntmps3
    go_wp2_with fail
    go_ret
    exact ⟨rfl, Below.refl _ _⟩
  have HLO := Lib.hid (locked_any W)
  go_enter Try.func3, Try.ntmps3
  go_wp2_with fail
  refine HLO.out.mono ?_
  rintro e w1 ⟨rfl, hb1⟩
  clear HLO
  have HB1 := Lib.hid hb1; clear hb1
  have hst : LaRel w1 n (.int .i64 (0 : Nat)) ((w1.alloc (.cells #[.map none] 26)).alloc (.cells keysC 9)) := by
    have hk : Blk ((w1.alloc (.cells #[.map none] 26)).alloc (.cells keysC 9)) (w1.heap.size + 1) 9 keysC := by
      have := Blk.new (w1.alloc (.cells #[.map none] 26)) 9 keysC
      simpa using this
    refine ⟨0, T0, rfl, Nat.zero_le _, ?_, (show GoodT (fun _ => False) T0 from fun x k h => (nomatch h)), hk⟩
    have h1 := ((TA.new w1).tall ((Below.refl _ _).alloc (Nat.le_refl _) (.cells keysC 9))).also (U' := fun b => b = w1.heap.size + 1) (fun b hb => ⟨9, keysC, (show b = w1.heap.size + 1 from hb) ▸ hk, by decide, by decide, by decide⟩)
    exact h1.mono (by omega) (fun b hb => .inr hb)
  unfold keysC at hst
  have HST := Lib.hid hst; clear hst
  go_wp2_with fail
  go_loopw [5] (LaRel w1 n) (fun v _ => n - (intOf v).toNat)
  case atStart => exact HST.out
  case round =>
    clear HST
    obtain ⟨i, T, rfl, hi, hta, hgood, hkb⟩ := hrel
    by_cases hlt : (i : Int) < n
    · have hbw : Below W.heap.size W wr := by
        obtain ⟨_, _, _, h, _⟩ := hta
        exact HB1.out.trans (h.mono HB1.out.size)
      obtain ⟨gA, oA, x, rfl, hgA, hx, c0, c1, c2⟩ := (HR.out.below hbw).cellsH hl (j := i) (by omega)
      have hgw : gA < wr.heap.size := Nat.lt_of_lt_of_le hgA hbw.size
      have p1 : ∀ q, Calls Try.prog 5 #[.int .i64 x.1, .int .i64 9] (wr.drewN q) fun e w' => e = .returned (.int .i64 (pickN x.1 9)) ∧ w' = wr.drewN q := fun q => (pick_any x.1 9 (by decide) (by decide) _).mono (fun e w' h => ⟨h.1, h.2.symm⟩)
      have p2 : ∀ q, Calls Try.prog 5 #[.int .i64 x.2.1, .int .i64 3] (wr.drewN q) fun e w' => e = .returned (.int .i64 (pickN x.2.1 3)) ∧ w' = wr.drewN q := fun q => (pick_any x.2.1 3 (by decide) (by decide) _).mono (fun e w' h => ⟨h.1, h.2.symm⟩)
      have p3 : ∀ q, Calls Try.prog 5 #[.int .i64 x.2.2, .int .i64 3] (wr.drewN q) fun e w' => e = .returned (.int .i64 (pickN x.2.2 3)) ∧ w' = wr.drewN q := fun q => (pick_any x.2.2 3 (by decide) (by decide) _).mono (fun e w' h => ⟨h.1, h.2.symm⟩)
      have b1 := pickN_lt x.1 (n := 9) (by decide)
      have b2 := pickN_lt x.2.1 (n := 3) (by decide)
      have b3 := pickN_lt x.2.2 (n := 3) (by decide)
      generalize pickN x.1 9 = q1 at *
      generalize pickN x.2.1 3 = q2 at *
      generalize pickN x.2.2 3 = q3 at *
      have hck := (hkb.cell q2).trans (keysC_at b2)
      have hkl := hkb.lt
      have HP1 := Lib.hid p1; clear p1
      have HP2 := Lib.hid p2; clear p2
      have HP3 := Lib.hid p3; clear p3
      have HTA := Lib.hid hta; clear hta
      have HGD := Lib.hid hgood; clear hgood
      have HKB := Lib.hid hkb; clear hkb hx
      have HBW := Lib.hid hbw; clear hbw
      go_upto_region 10 with (fail)
      go_cut [6, 7, 8] (fun s6 s7 s8 wx => s6 = .int .i64 q1 ∧ s7 = .string (ky q2) ∧ s8 = .int .i64 q3 ∧ Below wr.heap.size wr wx)
      case first =>
        --{r10
        go_quiet ((go_at_call 5; first | with_reducible exact Calls.quiet_of_same (HP1.out _) | with_reducible exact Calls.quiet_of_same (HP2.out _) | with_reducible exact Calls.quiet_of_same (HP3.out _)))
        go_wp2_with fail
        go_meet
        exact ⟨rfl, rfl, rfl, below_dNK (Below.refl _ _) _⟩
        --}r10
      case rest =>
        obtain ⟨hu6, hu7, hu8, hbx⟩ := hcut
        subst hu6 hu7 hu8
        have hta := HTA.out.tall hbx
        have hkb := HKB.out.below hbx hkl
        have HTX := Lib.hid hta; clear hta
        have HKX := Lib.hid hkb; clear hkb hbx
        clear c0 c1 c2 hck hkl HP1 HP2 HP3 HTA HKB hgw
        go_upto_if 54 with (fail)
        go_cut [] (fun wy => MidRel w1 i wy)
        case first =>
          --{mid
          rcases q3 with _ | m
          · have hr := ta_release HTX.out q1 (okN_small (by omega) (by omega)) (by omega)
            have HRL := Lib.hid hr; clear hr
            go_wp2_with fail
            refine HRL.out.mono ?_
            rintro e w5 ⟨V, ks, rfl, hks, hrow, hta5, hsame, _⟩
            have hmid : MidRel w1 i w5 := ⟨_, hta5.mono (by omega) (fun b hb => hb), (HGD.out.rel q1).mono (fun o h => h.1), HKX.out.same (hsame _ rfl)⟩
            have HM := Lib.hid hmid; clear hmid hks hrow hta5 hsame HRL
            go_wp2_with fail
            go_meet
            exact HM.out
          · have hmode : OkMode ((m + 1 : Nat) : Int) := by unfold OkMode; omega
            have d0 : (((m + 1 : Nat) : Int) == 0) = false := by rw [beq_eq_false_iff_ne]; omega
            have hlk := ta_lock HTX.out (ky q2) q1 ((m + 1 : Nat) : Int) hmode (ky_len _) (okN_small (by omega) (by omega)) (by omega) (HGD.out.at_ (sx (ky q2))).sorted
            have HLK := Lib.hid hlk; clear hlk
            go_wp2_with fail
            refine HLK.out.mono ?_
            rintro e w5 ⟨ok, l', er, T', A', c', rfl, hP, hta5, hrd, hsame⟩
            obtain ⟨hw1, hw2, hw3⟩ := hP.wounds HGD.out
            have hg5 := HGD.out.lock (x := ⟨(q1 : Int), sx (ky q2), ((m + 1 : Nat) : Int)⟩) ⟨by show (0 : Int) ≤ q1; omega, by show (q1 : Int) < 9; omega⟩ hP
            have hkb5 := HKX.out.same (hsame _ rfl)
            have HW3 := Lib.hid hw3; clear hw3
            clear HLK hP hsame d0
            by_cases her : er = 0
            · subst her
              have hst2 : WnRel w1 i A' l' (.int .i64 (0 : Nat)) w5 := ⟨0, T', rfl, Nat.zero_le _, hta5, by rw [List.drop_zero]; exact hg5, hkb5, hrd⟩
              have HST2 := Lib.hid hst2; clear hst2 hta5 hrd hg5 hkb5 hw1
              rw [show erV 0 = Value.nilIface from rfl]
              go_wp2_with fail
              go_loopw [12] (WnRel w1 i A' l') (fun v _ => l'.length - (intOf v).toNat)
              case atStart => exact HST2.out
              case round =>
                clear HST2
                obtain ⟨k, Tk, rfl, hk, htak, hgk, hkbk, hrdk⟩ := hrel
                by_cases hlk : (k : Int) < l'.length
                · obtain ⟨gL, oL, hAe, hgL, hcL⟩ := hrdk.2 (by omega)
                  subst hAe
                  have hlx : l'[k]? = some l'[k] := List.getElem?_eq_getElem (by omega)
                  generalize hoe : l'[k] = o at hlx
                  clear hoe
                  have cL := hcL k (.int .i64 o) (by rw [List.getElem?_map, hlx]; rfl)
                  have ho := HW3.out o (List.mem_of_getElem? hlx)
                  have hdo : decide (o ≤ (q1 : Int)) = false := decide_eq_false (by have : (q1 : Int) < o := ho.1; omega)
                  have hr := ta_release htak o (okN_small (by have : (q1 : Int) < o := ho.1; omega) (by omega)) (by omega)
                  have HRL := Lib.hid hr; clear hr
                  have HGK := Lib.hid hgk; clear hgk
                  have HKBK := Lib.hid hkbk; clear hkbk
                  have HRDK := Lib.hid hrdk; clear hrdk
                  have HLX := Lib.hid hlx; clear hlx
                  clear htak hcL ho
                  go_wp2_with fail
                  refine HRL.out.mono ?_
                  rintro e w6 ⟨V, ks, rfl, hks, hrow, hta6, hsame⟩
                  have hrel6 : WnRel w1 i (some ⟨gL, oL, none⟩) l' (.int .i64 ((k + 1 : Nat) : Int)) w6 := by
                    have hsz : wr.heap.size ≤ w6.heap.size := hsame.2
                    refine ⟨k + 1, _, rfl, by omega, hta6.mono (by omega) (fun b hb => hb), (HGK.out.rel o).mono (fun p hp => ?_), HKBK.out.same (hsame.1 _ (.inl rfl)), rd_same HRDK.out hsz (fun b ob e h0 => hsame.1 b (.inr ⟨ob, e, h0⟩))⟩
                    obtain ⟨h1, h2⟩ := List.getElem?_eq_some_iff.1 HLX.out
                    rw [List.drop_eq_getElem_cons h1, h2] at hp
                    rcases List.mem_cons.1 hp.1 with h3 | h3
                    · exact absurd h3 hp.2
                    · exact h3
                  have HR6 := Lib.hid hrel6; clear hrel6 hks hrow hta6 hsame HRL cL hdo
                  go_wp2_with fail
                  go_roundw
                  case rel => exact HR6.out
                  case measure => simp [intOf]; omega
                · have hmid : MidRel w1 i wr := ⟨Tk, htak.mono (by omega) (fun b hb => .inl hb), by rw [show l'.drop k = [] from List.drop_eq_nil_of_le (by omega)] at hgk; exact hgk.mono (fun o h => by cases h), hkbk⟩
                  have HM := Lib.hid hmid; clear hmid htak hgk hkbk hrdk
                  go_wp2_with fail
                  go_meet
                  exact HM.out
            · have hl0 := hw1 her
              subst hl0
              have hmid : MidRel w1 i w5 := ⟨T', hta5.mono (by omega) (fun b hb => .inl hb), hg5.mono (fun o h => by cases h), hkb5⟩
              have HM := Lib.hid hmid; clear hmid hta5 hrd hg5 hkb5 hw1 hw2
              rw [show erV er = Value.iface 59 (.int .i64 er) by unfold erV; rw [if_neg her]]
              go_wp2_with fail
              go_meet
              exact HM.out
          --}mid
        case rest =>
          --{tail
          rename World => wy
          obtain ⟨T6, hta6, hgd6, hkb6⟩ := hcut
          clear HTX HKX HGD HBW
          have HTA := Lib.hid hta6; clear hta6
          have HGD := Lib.hid hgd6; clear hgd6
          have hkl6 := hkb6.lt
          have HKB := Lib.hid hkb6; clear hkb6
          go_wp2_with fail
          go_loopw [13] (KkRel wy) (fun v _ => 3 - (intOf v).toNat)
          case atStart => exact ⟨0, rfl, by omega, Below.refl _ _⟩
          case round =>
            obtain ⟨k, rfl, hk3, hbk⟩ := hrel
            have hkl7 := Nat.lt_of_lt_of_le hkl6 hbk.size
            by_cases hltk : (k : Int) < 3
            · --{key
              have htk := HTA.out.tall hbk
              have ck := ((HKB.out.below hbk hkl6).cell k).trans (keysC_at (p := k) (by omega))
              have hgk := HGD.out.at_ (sx (ky k))
              have hho : ∀ x : Nat, x < 9 → Calls Try.prog 8 #[.pointer (some ⟨w1.heap.size, 0, none⟩), .int .i64 x, .string (ky k)] wr fun e w' => e = .returned (.int .i64 (holdK (atT T6 (sx (ky k))).h x)) ∧ w' = wr := fun x hx => ta_holds htk x (ky k) (ky_len k) (okN_small (by omega) (by omega))
              have hwt := ta_waits htk (ky k) (ky_len k)
              obtain ⟨ga1, ga2, ga3⟩ := hgk.asks
              have hsrt := hgk.sorted
              have hws : (atT T6 (sx (ky k))).ws.length ≤ 50 := by
                obtain ⟨mb, loc, hI, _⟩ := htk
                cases hTk : T6 (sx (ky k)) with
                | none => rw [show atT T6 (sx (ky k)) = k0 by unfold atT; rw [hTk]; rfl]; simp [k0]
                | some kk => rw [show atT T6 (sx (ky k)) = kk by unfold atT; rw [hTk]; rfl]; exact (hI.keys _ kk hTk).len
              have HHO := Lib.hid hho; clear hho
              have HWT := Lib.hid hwt; clear hwt
              have HA1 := Lib.hid ga1; clear ga1
              have HA2 := Lib.hid ga2; clear ga2
              have HA3 := Lib.hid ga3; clear ga3
              have HSRT := Lib.hid hsrt; clear hsrt
              have HWS := Lib.hid hws; clear hws htk hgk
              have HBK := Lib.hid hbk; clear hbk
              generalize atT T6 (sx (ky k)) = kk at *
              obtain ⟨h, ws⟩ := kk
              generalize wr = wk at *
              go_wp2_with fail
              go_loopw [14, 15, 16, 17] (XxRel h wk) (fun _ _ _ v _ => 9 - (intOf v).toNat)
              case atStart => exact ⟨0, rfl, by omega, rfl, rfl, rfl, rfl⟩
              case round =>
                obtain ⟨x, rfl, hx9, rfl, rfl, rfl, rfl⟩ := hrel
                have hcl := cntK_le h x
                by_cases hltx : (x : Int) < 9
                · --{xs
                  go_wp2_with fail
                  refine (HHO.out x (by omega)).mono ?_
                  rintro e w5 ⟨rfl, rfl⟩
                  by_cases e1 : holdK h x = 1
                  · have d1 : (holdK h x == 1) = true := by simp [e1]
                    have hfin : XxRel h w5 (.int .i64 (((cntK h x).1 : Int) + 1)) (.int .i64 (cntK h x).2.1) (.int .i64 x) (.int .i64 ((x : Int) + 1)) w5 := by
                      have e : cntK h (x + 1) = ((cntK h x).1 + 1, (cntK h x).2.1, (x : Int)) := by rw [cntK, if_pos e1]
                      exact ⟨x + 1, rfl, by omega, by rw [e]; rfl, by rw [e], by rw [e], rfl⟩
                    have HF := Lib.hid hfin; clear hfin
                    clear e1
                    go_wp2_with fail
                    go_roundw
                    case rel => exact HF.out
                    case measure => simp [intOf]; omega
                  · have d1 : (holdK h x == 1) = false := by simpa using e1
                    by_cases e2 : holdK h x = 2
                    · have d2 : (holdK h x == 2) = true := by simp [e2]
                      have hfin : XxRel h w5 (.int .i64 (((cntK h x).1 : Int) + 1)) (.int .i64 (((cntK h x).2.1 : Int) + 1)) (.int .i64 x) (.int .i64 ((x : Int) + 1)) w5 := by
                        have e : cntK h (x + 1) = ((cntK h x).1 + 1, (cntK h x).2.1 + 1, (x : Int)) := by rw [cntK, if_neg e1, if_pos e2]
                        exact ⟨x + 1, rfl, by omega, by rw [e]; rfl, by rw [e]; rfl, by rw [e], rfl⟩
                      have HF := Lib.hid hfin; clear hfin
                      clear e1 e2
                      go_wp2_with fail
                      go_roundw
                      case rel => exact HF.out
                      case measure => simp [intOf]; omega
                    · have d2 : (holdK h x == 2) = false := by simpa using e2
                      have hfin : XxRel h w5 (.int .i64 (cntK h x).1) (.int .i64 (cntK h x).2.1) (.int .i64 (cntK h x).2.2) (.int .i64 ((x : Int) + 1)) w5 := by
                        have e : cntK h (x + 1) = cntK h x := by rw [cntK, if_neg e1, if_neg e2]
                        exact ⟨x + 1, rfl, by omega, by rw [e], by rw [e], by rw [e], rfl⟩
                      have HF := Lib.hid hfin; clear hfin
                      clear e1 e2
                      go_wp2_with fail
                      go_roundw
                      case rel => exact HF.out
                      case measure => simp [intOf]; omega
                  --}xs
                · --{ws
                  obtain rfl : x = 9 := by omega
                  clear HHO
                  go_upto_region 36 with (fail)
                  go_cut [115] (fun s115 wx => s115 = .bool false ∧ wx = wr)
                  case first =>
                    by_cases hw : 0 < (cntK h 9).2.1
                    · have d1 : decide (((cntK h 9).2.1 : Int) > 0) = true := decide_eq_true (by omega)
                      have d2 : decide (((cntK h 9).1 : Int) > 1) = false := decide_eq_false (fun h1 => HA1.out ⟨hw, by omega⟩)
                      go_wp2_with fail
                      go_meet
                      exact ⟨rfl, rfl⟩
                    · have d1 : decide (((cntK h 9).2.1 : Int) > 0) = false := decide_eq_false (by omega)
                      go_wp2_with fail
                      go_meet
                      exact ⟨rfl, rfl⟩
                  case rest =>
                    obtain ⟨hu115, hwx⟩ := hcut
                    subst hu115 hwx
                    go_wp2_with fail
                    refine HWT.out.mono ?_
                    rintro e w5 ⟨V, rfl, hrow, hb5⟩
                    obtain ⟨A9, c9, rfl, _, _⟩ := own_slice hrow
                    have HRW := Lib.hid (Rd.of_own hrow); clear hrow
                    have HB5 := Lib.hid hb5; clear hb5 HWT ck
                    go_wp2_with fail
                    go_loopw [19] (JjRel ws.length w5) (fun v _ => ws.length - (intOf v).toNat)
                    case atStart => exact ⟨0, rfl, Nat.zero_le _, Below.refl _ _⟩
                    case round =>
                      obtain ⟨j, rfl, hj, hbj⟩ := hrel
                      have hws := HWS.out
                      by_cases hltj : (j : Int) < ws.length
                      · obtain ⟨g9, o9, hA9, hg9, hc9⟩ := (HRW.out.below hbj).2 (by omega)
                        subst hA9
                        have hg9w : g9 < wr.heap.size := Nat.lt_of_lt_of_le hg9 hbj.size
                        have hy : ws[j]? = some ws[j] := List.getElem?_eq_getElem (by omega)
                        have cj := hc9 j (.int .i64 ws[j].1) (by rw [List.getElem?_map, List.getElem?_map, hy]; rfl)
                        have hym : ws[j] ∈ ws := List.getElem_mem (by omega)
                        have hh := HA2.out (List.ne_nil_of_mem hym)
                        have hyw := HA3.out _ hym
                        have hpre : ∀ j', j = j' + 1 → ∃ y', wr.cell? ⟨g9, o9 + j', none⟩ = some (.int .i64 y') ∧ y' < ws[j].1 := fun j' e => by
                          have hy' : ws[j']? = some ws[j'] := List.getElem?_eq_getElem (by omega)
                          exact ⟨ws[j'].1, hc9 j' _ (by rw [List.getElem?_map, List.getElem?_map, hy']; rfl), List.pairwise_iff_getElem.1 HSRT.out j' j (by omega) (by omega) (by omega)⟩
                        generalize ws[j].1 = y at *
                        have d1 : (((cntK h 9).1 : Int) == 0) = false := by rw [beq_eq_false_iff_ne]; omega
                        have HBJ := Lib.hid hbj; clear hbj
                        have HPRE := Lib.hid hpre; clear hpre
                        clear hc9 hy hym
                        have HYW := Lib.hid hyw; clear hyw hh
                        go_upto_region 42 with (fail)
                        go_cut [156] (fun s156 wx => s156 = .bool false ∧ Below wr.heap.size wr wx)
                        case first =>
                          rcases j with _ | j
                          · have d4 : decide (((0 : Nat) : Int) > 0) = false := rfl
                            rw [Nat.add_zero] at cj
                            have hl0 : 0 < ws.length := by omega
                            by_cases hw : 0 < (cntK h 9).2.1
                            · have h3 : (cntK h 9).2.2 ≤ y := Int.not_lt.1 (fun h1 => HYW.out ⟨hw, h1⟩)
                              have d2 : decide (((cntK h 9).2.1 : Int) > 0) = true := decide_eq_true (by omega)
                              have d3 : decide ((cntK h 9).2.2 > y) = false := decide_eq_false (by omega)
                              go_quiet (fail)
                              go_wp2_with fail
                              go_meet
                              exact ⟨rfl, below_dNK (Below.refl _ _) _⟩
                            · have d2 : decide (((cntK h 9).2.1 : Int) > 0) = false := decide_eq_false (by omega)
                              go_quiet (fail)
                              go_wp2_with fail
                              go_meet
                              exact ⟨rfl, below_dNK (Below.refl _ _) _⟩
                          · obtain ⟨y', cj', hlt'⟩ := HPRE.out j rfl
                            have d5 : decide (y ≤ y') = false := decide_eq_false (by omega)
                            have d4 : decide (((j + 1 : Nat) : Int) > 0) = true := decide_eq_true (by omega)
                            by_cases hw : 0 < (cntK h 9).2.1
                            · have h3 : (cntK h 9).2.2 ≤ y := Int.not_lt.1 (fun h1 => HYW.out ⟨hw, h1⟩)
                              have d2 : decide (((cntK h 9).2.1 : Int) > 0) = true := decide_eq_true (by omega)
                              have d3 : decide ((cntK h 9).2.2 > y) = false := decide_eq_false (by omega)
                              go_quiet (fail)
                              go_wp2_with fail
                              go_meet
                              exact ⟨rfl, below_dNK (Below.refl _ _) _⟩
                            · have d2 : decide (((cntK h 9).2.1 : Int) > 0) = false := decide_eq_false (by omega)
                              go_quiet (fail)
                              go_wp2_with fail
                              go_meet
                              exact ⟨rfl, below_dNK (Below.refl _ _) _⟩
                        case rest =>
                          obtain ⟨hu156, hbx⟩ := hcut
                          subst hu156
                          have hfin : JjRel ws.length w5 (.int .i64 ((j : Int) + 1)) wc := ⟨j + 1, rfl, by omega, HBJ.out.trans (hbx.mono HBJ.out.size)⟩
                          have HF := Lib.hid hfin; clear hfin hbx HPRE cj
                          go_wp2_with fail
                          go_roundw
                          case rel => exact HF.out
                          case measure => simp [intOf]; omega
                      · have hfin : KkRel wy (.int .i64 ((k : Int) + 1)) wr := ⟨k + 1, rfl, by omega, (HBK.out.trans (HB5.out.mono HBK.out.size)).trans (hbj.mono (by have := HBK.out.size; have := HB5.out.size; omega))⟩
                        have HF := Lib.hid hfin; clear hfin hbj
                        go_wp2_with fail
                        go_roundw
                        case rel => exact HF.out
                        case measure => simp [intOf]; omega
                  --}ws
              --}key
            · have hta8 := HTA.out.tall hbk
              have hkb8 := HKB.out.below hbk hkl6
              have hfin : LaRel w1 n (.int .i64 ((i : Int) + 1)) wr := ⟨i + 1, T6, rfl, by omega, hta8.mono (by omega) (fun b hb => hb), HGD.out, hkb8⟩
              have HF := Lib.hid hfin; clear hfin hta8 hkb8 hbk
              go_wp2_with fail
              go_roundw
              case rel => exact HF.out
              case measure => simp [intOf]; omega
          --}tail
    · have hb : Below W.heap.size W wr := by
        obtain ⟨_, _, _, h, _⟩ := hta
        exact HB1.out.trans (h.mono HB1.out.size)
      have HB := Lib.hid hb; clear hb hta hgood hkb
      go_wp2_with fail
      go_ret
      exact ⟨rfl, HB.out⟩
end Go.Proofs.Ytnahkpfamocnfab
