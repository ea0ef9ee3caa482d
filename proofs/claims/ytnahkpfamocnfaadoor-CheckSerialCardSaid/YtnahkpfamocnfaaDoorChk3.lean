/- check's walker: plays. -/
import Derived.Test.YtnahkpfamocnfaaDoorChk2
import Derived.StillTailTactics
namespace Go.Proofs.YtnahkpfamocnfaaDoor
open Go.RowKit
theorem MapV.drewN {w : World} {b n : Nat} {m : Mp} (h : MapV w b n m) (k : Nat) : MapV (w.drewN k) b n m := h
/-- A walker whose map is written: what stands elsewhere. -/
theorem WkS.fr {w w' : World} {B p nm nm' : Nat} {L : List TxR} {r : WkR} {order : List Nat} {m m' : Mp} (h : WkS w B p L r order nm m) (hf : Fr (fun k => k = r.b) w w') (hm : MapV w' r.b nm' m') : WkS w' B p L r order nm' m' where
  blk := hf.blk h.blk (fun e => h.map.notBlk h.blk e.symm)
  reads := h.reads.below (hf.below (fun i e => e ▸ h.hb) h.size)
  used := hf.blk h.used (fun e => h.map.notBlk h.used e.symm)
  row := hf.own h.row (fun g hg e => h.map.notOwn h.row (by rw [hg, e]))
  map := hm
  hp := h.hp
  hgu := h.hgu
  hb := h.hb
  size := Nat.le_trans h.size hf.size
theorem str_inj {a b : ByteArray} (h : a.toList = b.toList) : a = b := by
  rw [ByteArray.toList_eq, ByteArray.toList_eq] at h
  have := Array.ext' h
  cases a; cases b; simp_all
theorem str_ne {a b : ByteArray} (h : a ≠ b) : (a.toList == b.toList) = false := by
  simp only [beq_eq_false_iff_ne, ne_eq]
  exact fun e => h (str_inj e)
def PlaysPost (B p : Nat) (L : List TxR) (r : WkR) (order : List Nat) (nm : Nat) (o : Option Mp) (w : World) (e : Ending) (w' : World) : Prop :=
  e = .returned (.bool o.isSome) ∧ (∃ m', (∀ x, o = some x → m' = x) ∧ WkS w' B p L r order nm m') ∧ Fr (fun k => k = r.b) w w'
def PlaysRel (B p : Nat) (L : List TxR) (r : WkR) (order : List Nat) (nm : Nat) (m : Mp) (ops : List OpP) (n : Nat) (w : World) (i : Value) (wr : World) : Prop :=
  ∃ (j : Nat) (mj : Mp), i = .int .i64 j ∧ j ≤ n ∧ playsP m (ops.take j) = some mj ∧ WkS wr B p L r order (nm + j) mj ∧ Fr (fun k => k = r.b) w wr
theorem plays_take {m mj : Mp} {ops : List OpP} {j : Nat} {o : OpP} (h : playsP m (ops.take j) = some mj) (ho : ops[j]? = some o) : playsP m (ops.take (j + 1)) = op1 mj o := by
  rw [List.take_add_one, ho, playsP_append, h]
  simp only [Option.toList, playsP, Option.bind]
  rcases op1 mj o with _ | x <;> rfl
theorem plays_stop {m mj : Mp} {ops : List OpP} {j : Nat} {o : OpP} (h : playsP m (ops.take j) = some mj) (ho : ops[j]? = some o) (h0 : op1 mj o = none) : playsP m ops = none := by
  have h1 := plays_take h ho
  rw [h0] at h1
  rw [← List.take_append_drop (j + 1) ops, playsP_append, h1]
  rfl
theorem PlaysPost.fail {B p nm nm' : Nat} {L : List TxR} {r : WkR} {order : List Nat} {m mj : Mp} {ops : List OpP} {j : Nat} {o : OpP} {w w1 : World} (hp : playsP m (ops.take j) = some mj) (ho : ops[j]? = some o) (h0 : op1 mj o = none) (hW : WkS w1 B p L r order nm' mj) (hn : nm' ≤ nm) (hb : Fr (fun k => k = r.b) w w1) :
    PlaysPost B p L r order nm (playsP m ops) w (.returned (.bool false)) w1 := by
  rw [plays_stop hp ho h0]
  exact ⟨rfl, ⟨mj, (fun x hx => by cases hx), { hW with map := hW.map.mono hn }⟩, hb⟩
theorem PlaysRel.step {B p nm nm' : Nat} {L : List TxR} {r : WkR} {order : List Nat} {m mj m' : Mp} {ops : List OpP} {n j : Nat} {o : OpP} {w w1 : World} (hp : playsP m (ops.take j) = some mj) (ho : ops[j]? = some o) (h0 : op1 mj o = some m') (hj : j < n) (hW : WkS w1 B p L r order nm' m') (hn : nm' ≤ nm + (j + 1)) (hb : Fr (fun k => k = r.b) w w1) :
    PlaysRel B p L r order nm m ops n w (.int .i64 ((j : Int) + 1)) w1 :=
  ⟨j + 1, m', rfl, hj, by rw [plays_take hp ho, h0], { hW with map := hW.map.mono hn }, hb⟩
set_option maxRecDepth 100000 in
set_option maxHeartbeats 2000000 in
theorem plays_any (B p nm : Nat) (L : List TxR) (r : WkR) (order : List Nat) (m : Mp) (A : Option Addr) (n c : Nat) (ops : List OpP) (w : World) (h : WkS w B p L r order nm m) (hn : n ≤ 1000) (hnm : nm ≤ 1000000)
    (hr : ReadsO w B A n ops) (hfine : ∀ o ∈ ops, opFine o) :
    Calls Tryd.prog 66 #[.pointer (some ⟨p, 0, none⟩), .slice A n c] w (PlaysPost B p L r order (nm + n) (playsP m ops) w) := by
  have H := Lib.hid h; clear h
  have HR := Lib.hid hr; clear hr
  have HFI := Lib.hid hfine; clear hfine
  go_enter Tryd.func66, Tryd.ntmps66
  go_wp2_with fail
  go_loopw [11] (PlaysRel B p L r order nm m ops n w) (fun v _ => n - (intOf v).toNat)
  case atStart => exact ⟨0, m, rfl, Nat.zero_le _, rfl, H.out, Fr.refl _ _⟩
  case round =>
    obtain ⟨j, mj, rfl, hj, hpj, hW, hfw⟩ := hrel
    have hbw : Below B w wr := hfw.below (fun i e => e ▸ H.out.hb) H.out.size
    have HPJ := Lib.hid hpj; clear hpj
    by_cases hlt : (j : Int) < n
    · obtain ⟨g, off, o, hA, hg, ho, k0, k1, k2, k3⟩ := (HR.out.below hbw).at_ (k := j) (by omega)
      subst hA
      have hof := HFI.out o (List.mem_of_getElem? ho)
      have hp3 := hW.c3
      have hpl := hW.blk.lt
      have hsz := hW.size
      have hgl : g < wr.heap.size := by omega
      obtain ⟨kd, key, val, found⟩ := o
      simp only at k0 k1 k2 k3
      have hlook : ∀ k, (Instr.lookup 100 (.map (some r.b)) (.string key) true).run Tryd.prog ((wr.alloc (.cells #[.int .i64 kd, .string key, .string val, .bool found] 110)).drewN k) = .ok (.tuple #[.string ((mj key).getD ⟨#[]⟩), .bool (mj key).isSome]) ((wr.alloc (.cells #[.int .i64 kd, .string key, .string val, .bool found] 110)).drewN k) := fun k => (((hW.map.alloc _).drewN k).look key hof.1)
      have HO := Lib.hid ho; clear ho
      have HOF := Lib.hid hof; clear hof
      have hWn : ∀ o k, WkS ((wr.alloc o).drewN k) B p L r order (nm + j) mj := fun o k => hW.below (below_drewN ((Below.refl _ _).alloc (Nat.le_refl _) o) k)
      have hbn : ∀ o k, Fr (fun k => k = r.b) w ((wr.alloc o).drewN k) := fun o k => (hfw.alloc o).drewN k
      have HWN := Lib.hid hWn; clear hWn
      have HBN := Lib.hid hbn; clear hbn
      have HW := Lib.hid hW; clear hW hbw hfw
      generalize hq : mj key = q at hlook
      have HQ := Lib.hid hq; clear hq
      by_cases h1 : kd = 1
      · have d1 : (kd == 1) = true := by simpa using h1
        have hop : op1 mj ⟨kd, key, val, found⟩ = if getOk mj ⟨kd, key, val, found⟩ then some mj else none := by unfold op1; rw [if_pos h1]
        have HOP := Lib.hid hop; clear hop h1
        have hgo : getOk mj ⟨kd, key, val, found⟩ ↔ (q.isSome = found ∧ ∀ v, q = some v → v = val) := by unfold getOk; rw [← HQ.out]
        have HGO := Lib.hid hgo; clear hgo
        have hgood : getOk mj ⟨kd, key, val, found⟩ → ∀ o k, PlaysRel B p L r order nm m ops n w (.int .i64 ((j : Int) + 1)) ((wr.alloc o).drewN k) := fun hg o k =>
          PlaysRel.step HPJ.out HO.out (by rw [HOP.out, if_pos hg]) (by omega) (HWN.out o k) (by omega) (HBN.out o k)
        have HGOOD := Lib.hid hgood; clear hgood
        have hbad : ¬ getOk mj ⟨kd, key, val, found⟩ → ∀ o k, PlaysPost B p L r order (nm + n) (playsP m ops) w (.returned (.bool false)) ((wr.alloc o).drewN k) := fun hg o k =>
          PlaysPost.fail HPJ.out HO.out (by rw [HOP.out, if_neg hg]) (HWN.out o k) (by omega) (HBN.out o k)
        have HBAD := Lib.hid hbad; clear hbad
        rcases q with _ | v
        · cases found
          · have hok := HGO.out.2 ⟨rfl, fun v h => by cases h⟩
            have HOK := Lib.hid hok; clear hok
            go_wp2_with fail
            go_quiet (fail)
            clear hlook
            go_wp2_with fail
            go_roundw
            case rel => exact HGOOD.out HOK.out _ _
            case measure => simp [intOf]; omega
          · have hok : ¬ getOk mj ⟨kd, key, val, true⟩ := fun h => by have := (HGO.out.1 h).1; simp at this
            have HOK := Lib.hid hok; clear hok
            go_wp2_with fail
            go_quiet (fail)
            clear hlook
            go_wp2_with fail
            go_ret
            exact HBAD.out HOK.out _ _
        · cases found
          · have hok : ¬ getOk mj ⟨kd, key, val, false⟩ := fun h => by have := (HGO.out.1 h).1; simp at this
            have HOK := Lib.hid hok; clear hok
            go_wp2_with fail
            go_quiet (fail)
            clear hlook
            go_wp2_with fail
            go_ret
            exact HBAD.out HOK.out _ _
          · by_cases hv : v = val
            · subst hv
              have hok := HGO.out.2 ⟨rfl, fun u h => by injection h with h; exact h.symm⟩
              have HOK := Lib.hid hok; clear hok
              go_wp2_with fail
              go_quiet (fail)
              clear hlook
              go_wp2_with fail
              go_roundw
              case rel => exact HGOOD.out HOK.out _ _
              case measure => simp [intOf]; omega
            · have hok : ¬ getOk mj ⟨kd, key, val, true⟩ := fun h => hv ((HGO.out.1 h).2 v rfl)
              have HOK := Lib.hid hok; clear hok
              have dv := str_ne hv
              have HV := Lib.hid hv; clear hv
              go_wp2_with fail
              go_quiet (fail)
              clear hlook
              go_wp2_with fail
              go_ret
              exact HBAD.out HOK.out _ _
      · have d1 : (kd == 1) = false := by simpa using h1
        by_cases h2 : kd = 2
        · have d2 : (kd == 2) = true := by simpa using h2
          have hop : op1 mj ⟨kd, key, val, found⟩ = some (mj.set key (some val)) := by unfold op1; rw [if_neg h1, if_pos h2]
          have HOP := Lib.hid hop; clear hop h1 h2
          go_wp2_with fail
          go_quiet (fail)
          clear hlook
          go_wp2_with fail
          refine wp_region_still_tail 8 (by kernel_rfl) (by kernel_rfl) ?_
          change wpStill _ _ (World.drew _) _ _ _
          simp only [List.take_succ_cons, List.take_zero, List.drop_succ_cons, List.drop_zero]
          repeat still_step
          refine wpStill_nil ?_
          have hm1 := HWN.out (.cells #[.int .i64 kd, .string key, .string val, .bool found] 110) nq
          refine wpList_setSS rfl (.tmp 47) (.tmp 49) (.tmp 51) rfl r.b (nm + j) mj rfl hm1.map.drew (by unfold maxLen; omega) key val rfl rfl HOF.out.1 HOF.out.2 ?_
          intro w1 hmv hfr
          have hW1 := hm1.fr (((Fr.refl _ _).drew).trans hfr) hmv
          have hb1 : Fr (fun k => k = r.b) w w1 := (HBN.out _ nq).trans (((Fr.refl _ _).drew).trans hfr)
          have hrel : PlaysRel B p L r order nm m ops n w (.int .i64 ((j : Int) + 1)) w1 := PlaysRel.step HPJ.out HO.out HOP.out (by omega) hW1 (by omega) hb1
          have HREL := Lib.hid hrel; clear hrel hm1 hmv hfr hW1 hb1
          go_wp2_with fail
          go_roundw
          case rel => exact HREL.out
          case measure => simp [intOf]; omega
        · have d2 : (kd == 2) = false := by simpa using h2
          by_cases h3 : kd = 3
          · have d3 : (kd == 3) = true := by simpa using h3
            have hop : op1 mj ⟨kd, key, val, found⟩ = some (mj.set key none) := by unfold op1; rw [if_neg h1, if_neg h2, if_pos h3]
            have HOP := Lib.hid hop; clear hop h1 h2 h3
            go_wp2_with fail
            go_quiet (fail)
            clear hlook
            go_wp2_with fail
            refine wp_region_still_tail 6 (by kernel_rfl) (by kernel_rfl) ?_
            change wpStill _ _ (World.drew _) _ _ _
            simp only [List.take_succ_cons, List.take_zero, List.drop_succ_cons, List.drop_zero]
            repeat still_step
            refine wpStill_nil ?_
            have hm1 := HWN.out (.cells #[.int .i64 kd, .string key, .string val, .bool found] 110) nq
            refine wpList_delSS rfl (.tmp 57) (.tmp 59) rfl r.b (nm + j) mj rfl hm1.map.drew key rfl HOF.out.1 ?_
            intro w1 hmv hfr
            have hW1 := hm1.fr (((Fr.refl _ _).drew).trans hfr) hmv
            have hb1 : Fr (fun k => k = r.b) w w1 := (HBN.out _ nq).trans (((Fr.refl _ _).drew).trans hfr)
            have hrel : PlaysRel B p L r order nm m ops n w (.int .i64 ((j : Int) + 1)) w1 := PlaysRel.step HPJ.out HO.out HOP.out (by omega) hW1 (by omega) hb1
            have HREL := Lib.hid hrel; clear hrel hm1 hmv hfr hW1 hb1
            go_wp2_with fail
            go_roundw
            case rel => exact HREL.out
            case measure => simp [intOf]; omega
          · have d3 : (kd == 3) = false := by simpa using h3
            have hop : op1 mj ⟨kd, key, val, found⟩ = some mj := by unfold op1; rw [if_neg h1, if_neg h2, if_neg h3]
            have hgood : ∀ o k, PlaysRel B p L r order nm m ops n w (.int .i64 ((j : Int) + 1)) ((wr.alloc o).drewN k) := fun o k =>
              PlaysRel.step HPJ.out HO.out hop (by omega) (HWN.out o k) (by omega) (HBN.out o k)
            have HGOOD := Lib.hid hgood; clear hgood hop h1 h2 h3
            go_wp2_with fail
            go_quiet (fail)
            clear hlook
            go_wp2_with fail
            go_roundw
            case rel => exact HGOOD.out _ _
            case measure => simp [intOf]; omega
    · have hjn : j = n := by omega
      go_wp2_with fail
      go_ret
      have : playsP m ops = some mj := by rw [← HPJ.out, List.take_of_length_le (by have := HR.out.1; omega)]
      rw [this]
      exact ⟨rfl, ⟨mj, (fun x hx => Option.some.inj hx), { hW with map := hW.map.mono (by omega) }⟩, hfw⟩
end Go.Proofs.YtnahkpfamocnfaaDoor
