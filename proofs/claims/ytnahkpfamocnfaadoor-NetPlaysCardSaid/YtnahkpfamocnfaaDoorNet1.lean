/- net.Send. -/
import Derived.Test.YtnahkpfamocnfaaDoorNetP
import Derived.Test.YtnahkpfamocnfaaDoorClone
import Derived.Test.YtnahkpfamocnfaaDoorHeldN
namespace Go.Proofs.YtnahkpfamocnfaaDoor
open Go.RowKit
theorem msg_info : (Tryd.prog.info? 26).map (fun i => (i.zero, i.size, i.bytes)) = some (some (.agg #[.int .i64 0, .int .i64 0, .int .i64 0, .int .i64 0, .int .i64 0, .int .i64 0, .int .i64 0, .int .i64 0, .slice none 0 0]), 9, 88) := by kernel_rfl
section
variable {w w' : World} {base g off nd : Nat} {T : TypeId} {cs : Array Value} {V : Value} {D : Option Nat} {L : List MsR} {dead : Int → Bool} {lost : Int}
/-- What the net's step does not write leaves the net. -/
theorem NetI.fr {S : Nat → Prop} (h : NetI w base g off T cs V D nd L dead lost) (hf : Fr S w w') (hg : ¬ S g) (hV : ∀ b, V.ownBlock = some b → ¬ S b) (hD : ∀ b, D = some b → ¬ S b) (hP : ∀ b t cs, Blk w b t cs → t = 123 → ¬ S b) : NetI w' base g off T cs V D nd L dead lost :=
  ⟨hf.blk h.blk hg, h.c0, h.c1, h.c2, hf.own h.row hV, fun x hx => ⟨hf.own (h.own x hx).1 (fun b hb e => by
    rcases (h.own x hx).1.2 with ⟨hv, _⟩ | ⟨g', cap, cur, hv, _, hh, _⟩
    · rw [hv] at hb; simp [Value.ownBlock] at hb
    · rw [hv] at hb
      have e2 : g' = b := by simpa [Value.ownBlock] using hb
      subst e2
      exact hP g' _ _ hh rfl e), (h.own x hx).2⟩, h.down.fr hf hD, h.len, h.lo, h.hi, h.ne, Nat.le_trans h.bg hf.size⟩
theorem NetI.vlt (h : NetI w base g off T cs V D nd L dead lost) {b : Nat} (hb : V.ownBlock = some b) : b < w.heap.size := (h.row.lt b hb).2
end
def SendPost (base g off nd : Nat) (T : TypeId) (cs : Array Value) (V : Value) (D : Option Nat) (L : List MsR) (dead : Int → Bool) (lost : Int) (l : List MsR) (w : World) (e : Ending) (w' : World) : Prop :=
  ∃ V' L' lost' d, e = .returned (.int .i64 d) ∧ lost' = lost + d ∧ NetI w' base g off T ((cs.setIfInBounds off V').setIfInBounds (off + 2) (.int .i64 lost')) V' D nd L' dead lost' ∧ sendsS ⟨msOf L, dead, lost⟩ (msOf l) = ⟨msOf L', dead, lost'⟩ ∧ Fr (NetB g V D) w w' ∧ (V'.ownBlock = V.ownBlock ∨ ∃ b, V'.ownBlock = some b ∧ w.heap.size ≤ b)
def SendRel (base g off nd : Nat) (T : TypeId) (cs : Array Value) (V : Value) (D : Option Nat) (L : List MsR) (dead : Int → Bool) (lost : Int) (l : List MsR) (n : Nat) (w : World) (i c : Value) (wr : World) : Prop :=
  ∃ (j k : Nat) (V' : Value) (L' : List MsR), i = .int .i64 j ∧ c = .int .i64 k ∧ j ≤ n ∧ k ≤ j ∧ NetI wr base g off T (cs.setIfInBounds off V') V' D nd L' dead lost ∧ sendsS ⟨msOf L, dead, lost⟩ (msOf (l.take j)) = ⟨msOf L', dead, lost + k⟩ ∧ Fr (NetB g V D) w wr ∧ (V'.ownBlock = V.ownBlock ∨ ∃ b, V'.ownBlock = some b ∧ w.heap.size ≤ b)
section
variable {w wr w2 : World} {base g off nd n : Nat} {T : TypeId} {cs : Array Value} {V V' : Value} {D : Option Nat} {L L' : List MsR} {dead : Int → Bool} {lost : Int} {l : List MsR} {j kk : Nat} {x : MsR}
theorem msOf_take (hx : l[j]? = some x) : msOf (l.take (j + 1)) = msOf (l.take j) ++ [x.m] := by
  rw [List.take_add_one, hx]; simp [msOf]
theorem send_stop (hI : NetI wr base g off T (cs.setIfInBounds off V') V' D nd L' dead lost) (hs : sendsS ⟨msOf L, dead, lost⟩ (msOf (l.take j)) = ⟨msOf L', dead, lost + kk⟩) (hf : Fr (NetB g V D) w wr)
    (hV : V'.ownBlock = V.ownBlock ∨ ∃ b, V'.ownBlock = some b ∧ w.heap.size ≤ b) (hx : l[j]? = some x) (hj : j < n) (hk : kk ≤ j) (hst : stopB ⟨msOf L', dead, lost + kk⟩ x.m = true) (h2 : Fr (fun _ => False) wr w2) :
    SendRel base g off nd T cs V D L dead lost l n w (.int .i64 ((j : Int) + 1)) (.int .i64 ((kk : Int) + 1)) w2 :=
  ⟨j + 1, kk + 1, V', L', rfl, rfl, hj, by omega, hI.fr h2 (fun h => h) (fun _ _ h => h) (fun _ _ h => h) (fun _ _ _ _ _ h => h), by
    rw [msOf_take hx, sendsS_snoc, hs]
    unfold sendS
    rw [hst, if_pos rfl]
    have e : lost + kk + 1 = lost + ((kk + 1 : Nat) : Int) := by omega
    dsimp only
    rw [e], hf.trans' h2 (fun _ _ h => h.elim), hV⟩
end
theorem setIf_setIf (cs : Array Value) (i : Nat) (u v : Value) : (cs.setIfInBounds i u).setIfInBounds i v = cs.setIfInBounds i v := by
  ext k h1 h2
  · simp
  · by_cases h : i = k <;> simp [h]
theorem setIf_same {cs : Array Value} {i : Nat} {v : Value} (h : cs[i]? = some v) : cs.setIfInBounds i v = cs := by
  ext k h1 h2
  · simp
  · by_cases e : i = k
    · subst e
      rw [Array.getElem?_eq_getElem h2] at h
      rw [Array.getElem_setIfInBounds_self]
      exact (Option.some.inj h).symm
    · exact Array.getElem_setIfInBounds_ne h2 e
section
variable {w wr w2 w4 : World} {base g off nd n : Nat} {T : TypeId} {cs : Array Value} {V V' V2 : Value} {D : Option Nat} {L L' : List MsR} {dead : Int → Bool} {lost : Int} {l : List MsR} {j kk : Nat} {x x2 : MsR}
/-- One more is under way: its writes a row of its own, it behind all others, the new slice laid in. -/
theorem send_put (hI : NetI wr base g off T (cs.setIfInBounds off V') V' D nd L' dead lost) (hs : sendsS ⟨msOf L, dead, lost⟩ (msOf (l.take j)) = ⟨msOf L', dead, lost + kk⟩) (hf : Fr (NetB g V D) w wr)
    (hV : V'.ownBlock = V.ownBlock ∨ ∃ b, V'.ownBlock = some b ∧ w.heap.size ≤ b) (hx : l[j]? = some x) (hj : j < n) (hk : kk ≤ j) (hst : stopB ⟨msOf L', dead, lost + kk⟩ x.m = false)
    (h3 : Fr (fun k => wr.heap.size ≤ k) wr w2) (hx2 : x2.m = x.m) (hown : OwnW w2 base x2) (hm : Moved w2 w4 V'.ownBlock V2.ownBlock) (hrow : w4.ownsRow base 26 9 V2 (L'.length + 1) (L'.flatMap mrCells ++ mrCells x2)) :
    SendRel base g off nd T cs V D L dead lost l n w (.int .i64 ((j : Int) + 1)) (.int .i64 (kk : Int)) (w4.setCell ⟨g, off, none⟩ V2) := by
  have hI2 : NetI w2 base g off T (cs.setIfInBounds off V') V' D nd L' dead lost := hI.fr h3 (fun h => by have := hI.blk.lt; omega) (fun b hb h => by have := hI.vlt hb; omega) (fun b hb h => by have := hI.down; rw [hb] at this; have := this.lt; omega) (fun b t cs hb _ h => by have := hb.lt; omega)
  have hoff : off < cs.size := by have := hI.c0; rw [Array.getElem?_setIfInBounds_self] at this; split at this <;> simp_all
  have hgV : ¬ some g = V'.ownBlock := fun e => own_blk_ne hI2.row hI2.blk (fun e => hI.ne.1 e.symm) e.symm
  have hb4 : Blk w4 g T (cs.setIfInBounds off V') := hm.1.blk hI2.blk hgV
  have hset : Fr (fun k => k = g) w4 (w4.setCell ⟨g, off, none⟩ V2) := Fr.set1 g w4 off V2
  have hb5 := hb4.set_ off V2
  rw [setIf_setIf] at hb5
  have hnP : ∀ b v m xs, w4.ownsRow base 123 3 v m xs → v.ownBlock = some b → ¬ b = g := fun b v m xs ho hb e => by subst e; exact own_blk_ne ho hb4 (fun e => hI.ne.2 e.symm) hb
  have hown4 : ∀ y, OwnW w2 base y → OwnW (w4.setCell ⟨g, off, none⟩ V2) base y := fun y hy => by
    have h4 := hm.1.own hy.1 (fun b hb e => own_apart hy.1 hI2.row (by decide) hb e.symm)
    exact ⟨hset.own h4 (fun b hb e => hnP b _ _ _ h4 hb e), hy.2⟩
  refine ⟨j + 1, kk, V2, L' ++ [x2], rfl, rfl, hj, by omega, ⟨hb5, ?_, ?_, ?_, ?_, fun y hy => ?_, ?_, ?_, hI.lo, hI.hi, hI.ne, ?_⟩, ?_, ?_, ?_⟩
  · simp [hoff]
  · have := hI.c1
    rwa [Array.getElem?_setIfInBounds_ne (by omega)] at this ⊢
  · have := hI.c2
    rwa [Array.getElem?_setIfInBounds_ne (by omega)] at this ⊢
  · rw [List.length_append, List.flatMap_append, List.flatMap_singleton]
    exact hset.own hrow (fun b hb e => by subst e; exact own_blk_ne hrow hb4 (fun e => hI.ne.1 e.symm) hb)
  · rcases List.mem_append.1 hy with hy | hy
    · exact hown4 y (hI2.own y hy)
    · rw [List.mem_singleton.1 hy]; exact hown4 x2 hown
  · refine (hI2.down.fr hm.1 (fun b hb e => ?_)).fr hset (fun b hb e => ?_)
    · exact hI2.down.notOwn hI2.row hb e.symm
    · subst e; exact hI2.down.notBlk hI2.blk hb
  · unfold stopB at hst
    simp only [Bool.or_eq_false_iff, decide_eq_false_iff_not] at hst
    have h1 := hI.len
    have h2 := hst.2
    simp [msOf] at h2 ⊢
    omega
  · exact Nat.le_trans hI2.bg (Nat.le_trans hm.1.size hset.size)
  · rw [msOf_take hx, sendsS_snoc, hs]
    unfold sendS
    rw [hst, if_neg (by simp)]
    simp [msOf, hx2]
  · refine (hf.trans' h3 (fun i hi h => ?_)).trans' ((hm.1.mono (T := fun k => some k = V'.ownBlock ∨ k = g) (fun i _ h => .inl h)).trans' hset (fun i _ h => .inr h)) (fun i hi h => ?_)
    · have := hf.size; omega
    · rcases h with h | h
      · rcases hV with hV | ⟨b, hb, hlb⟩
        · rw [hV] at h; exact .inr (.inl h)
        · rw [hb] at h; injection h with h; subst h; omega
      · exact .inl h
  · rcases hm.2 with h | ⟨b, hb, hlb⟩
    · rw [h]; exact hV
    · exact .inr ⟨b, hb, Nat.le_trans (Nat.le_trans hf.size h3.size) hlb⟩
end
set_option maxRecDepth 100000 in
set_option maxHeartbeats 4000000 in
theorem send_any (base g off nd n k : Nat) (T : TypeId) (cs : Array Value) (V : Value) (D : Option Nat) (L : List MsR) (dead : Int → Bool) (lost : Int) (A : Option Addr) (l : List MsR) (w : World)
    (hI : NetI w base g off T cs V D nd L dead lost) (hR : ReadsM w (NetB g V D) A n l) (hn : n ≤ 100000) (hl : lost + n ≤ 1099511627776) (hwf : ∀ x ∈ l, okI x.m.from_ ∧ okI x.m.to_ ∧ x.n ≤ 100000 ∧ (x.A = none → x.k = 0)) :
    Calls Tryd.prog 24 #[.pointer (some ⟨g, off, none⟩), .slice A n k] w (SendPost base g off nd T cs V D L dead lost l w) := by
  have HI := Lib.hid hI
  have HR := Lib.hid hR; clear hR
  have HWF := Lib.hid hwf; clear hwf
  go_enter Tryd.func24, Tryd.ntmps24
  go_wp2_with fail
  go_loopw [10, 5] (SendRel base g off nd T cs V D L dead lost l n w) (fun i _ _ => n - (intOf i).toNat)
  case atStart => exact ⟨0, 0, V, L, rfl, rfl, Nat.zero_le _, Nat.le_refl _, by rw [setIf_same HI.out.c0]; exact HI.out, by simp [msOf, sendsS], Fr.refl _ _, .inl rfl⟩
  case round =>
    obtain ⟨j, kk, V', L', rfl, rfl, hj, hk, hI', hs, hf, hV'⟩ := hrel
    by_cases hlt : (j : Int) < n
    · obtain ⟨ga, oa, x, hA, hga, hx, h0, h1, h2, h3, h4, h5, h6, h7, h8⟩ := HR.out.2.1.cells9 HR.out.1 (j := j) (by omega)
      subst hA
      have hav := HR.out.2.2.1 ga oa rfl (by omega)
      have hk : ∀ o, wr.cell? ⟨ga, o, none⟩ = w.cell? ⟨ga, o, none⟩ := fun o => hf.cell (p := ⟨ga, o, none⟩) hga hav
      have q0 := (hk _).trans h0
      have q1 := (hk _).trans h1
      have q2 := (hk _).trans h2
      have q3 := (hk _).trans h3
      have q4 := (hk _).trans h4
      have q5 := (hk _).trans h5
      have q6 := (hk _).trans h6
      have q7 := (hk _).trans h7
      have q8 := (hk _).trans h8
      have hgr : ga < wr.heap.size := Nat.lt_of_lt_of_le hga hf.size
      clear h0 h1 h2 h3 h4 h5 h6 h7 h8 hk hav
      have HI' := Lib.hid hI'; clear hI'
      have HS := Lib.hid hs; clear hs
      have HF := Lib.hid hf; clear hf
      have HV := Lib.hid hV'; clear hV'
      have HX := Lib.hid hx; clear hx
      have hI1 : NetI (wr.alloc (.cells (msgCells x.m x.A x.n x.k) 26)) base g off T (cs.setIfInBounds off V') V' D nd L' dead lost := HI'.out.fr ((Fr.refl (fun _ => False) _).alloc _) (fun h => h) (fun _ _ h => h) (fun _ _ h => h) (fun _ _ _ _ _ h => h)
      have hB1 : Blk (wr.alloc (.cells (msgCells x.m x.A x.n x.k) 26)) wr.heap.size 26 (msgCells x.m x.A x.n x.k) := Blk.new wr _ _
      obtain ⟨A', c', hV', hc', hA'⟩ := own_slice HI'.out.row
      have x0 := (hI1.blk.cell off).trans hI1.c0
      have x1 := (hI1.blk.cell (off + 1)).trans hI1.c1
      rw [hV'] at x0
      have y1 := hB1.cell 1
      have y2 := hB1.cell 2
      have hlk1 := fun K => (show DeadM ((wr.alloc (.cells (msgCells x.m x.A x.n x.k) 26)).drewN K) nd D dead from hI1.down).look (HWF.out x (List.mem_of_getElem? HX.out)).1
      have hlk2 := fun K => (show DeadM ((wr.alloc (.cells (msgCells x.m x.A x.n x.k) 26)).drewN K) nd D dead from hI1.down).look (HWF.out x (List.mem_of_getElem? HX.out)).2.1
      have hlen := HI'.out.len
      have HI1 := Lib.hid hI1; clear hI1
      have HB1 := Lib.hid hB1; clear hB1
      have HVV := Lib.hid hV'; clear hV'
      have HAA := Lib.hid hA'; clear hA'
      have hst : ∀ b1 b2, dead x.m.from_ = b1 → dead x.m.to_ = b2 → stopB ⟨msOf L', dead, lost + kk⟩ x.m = (b1 || b2 || decide (L'.length = 200)) := fun b1 b2 e1 e2 => by unfold stopB; dsimp only; rw [e1, e2]; simp [msOf]
      have HST := Lib.hid hst; clear hst
      rcases hd1 : dead x.m.from_ with _ | _
      · rcases hd2 : dead x.m.to_ with _ | _
        · rw [hd1] at hlk1
          rw [hd2] at hlk2
          by_cases hfull : L'.length = 200
          · have hz : ((L'.length : Int) == 200) = true := by rw [hfull]; rfl
            have hs2 : stopB ⟨msOf L', dead, lost + kk⟩ x.m = true := (HST.out _ _ hd1 hd2).trans (by simp [hfull])
            have HST2 := Lib.hid hs2; clear hs2
            clear hd1 hd2 hfull
            unfold msgCells at *
            go_wp2_with fail
            go_quiet (fail)
            go_wp2_with fail
            go_roundw
            case rel => exact send_stop HI'.out HS.out HF.out HV.out HX.out (by omega) hk HST2.out ((((Fr.refl _ wr).alloc _)).drewN _)
            case measure => simp [intOf]; omega
          · have hz : ((L'.length : Int) == 200) = false := by simpa using (by omega : ¬ (L'.length : Int) = 200)
            have hs2 : stopB ⟨msOf L', dead, lost + kk⟩ x.m = false := (HST.out _ _ hd1 hd2).trans (by simp [hfull])
            have HST2 := Lib.hid hs2; clear hs2
            have HLT := Lib.hid (show L'.length + 1 ≤ 200 by omega)
            clear hd1 hd2 hfull
            have hxl := HR.out.2.2.2 x (List.mem_of_getElem? HX.out)
            have hrp : ReadsP wr w.heap.size x.A x.n x.m.cmd.writes := hxl.1.fr HF.out (Nat.le_refl _) hxl.2
            have hwx := HWF.out x (List.mem_of_getElem? HX.out)
            have hcl := fun K => clone_any base w.heap.size x.n x.k x.A x.m.cmd.writes ((wr.alloc (.cells (msgCells x.m x.A x.n x.k) 26)).drewN K) ⟨hrp.1, hrp.2.below (below_dN (((Below.refl _ _).alloc (Nat.le_refl _) _).mono HF.out.size) K)⟩ (by have := HF.out.size; simp; omega) (by have := HI'.out.bg; simp; omega) hwx.2.2.1 hwx.2.2.2
            have HRPL := Lib.hid (show x.m.cmd.writes.length = x.n from hrp.1)
            have HCL := Lib.hid hcl; clear hcl hwx hrp hxl
            unfold msgCells at *
            go_wp2_with fail
            go_quiet (fail)
            go_wp2_with fail
            refine (HCL.out _).mono ?_
            rintro e w2 ⟨A2, k2, rfl, hown2, hb2⟩
            have hz2 := hb2.size
            simp only [size_dN, World.size_alloc] at hz2
            have hB2 : Blk w2 wr.heap.size 26 #[.int .i64 x.m.kind, .int .i64 x.m.from_, .int .i64 x.m.to_, .int .i64 x.m.epoch, .int .i64 x.m.n, .int .i64 x.m.cmd.kind, .int .i64 x.m.cmd.tx, .int .i64 x.m.cmd.time, .slice x.A x.n x.k] := (hb2.block wr.heap.size (by show wr.heap.size < (wr.alloc _).heap.size; simp)).trans HB1.out
            have z0 := hB2.cell 8
            have z1 := hB2.frozen 8
            have HB2 := Lib.hid hB2; clear hB2
            have HO2 := Lib.hid hown2; clear hown2
            have HBB := Lib.hid hb2; clear hb2
            go_wp2_with fail
            have hF2 : Fr (fun k => wr.heap.size ≤ k) wr w2 := (((Fr.refl _ wr).alloc _).drewN _).trans ((fr_of_below HBB.out).mono (fun i _ h => by
              have h' : (wr.alloc (.cells (msgCells x.m x.A x.n x.k) 26)).heap.size ≤ i := h
              simp at h'; omega))
            have hset8 := Fr.set1 wr.heap.size w2 8 (.slice A2 x.n k2)
            have hF3 := hF2.trans (hset8.mono (T := fun k => wr.heap.size ≤ k) (fun i _ h => Nat.le_of_eq h.symm))
            have hB3 := HB2.out.set_ 8 (.slice A2 x.n k2)
            simp only [List.setIfInBounds_toArray, List.set_cons_succ, List.set_cons_zero] at hB3
            have hne8 : ∀ b, Value.ownBlock (.slice A2 x.n k2) = some b → ¬ b = wr.heap.size := fun b hb e => by subst e; exact own_blk_ne HO2.out HB2.out (by decide) hb
            have hO3 := hset8.own HO2.out hne8
            generalize w2.setCell ⟨wr.heap.size, 8, none⟩ (.slice A2 x.n k2) = w3 at *
            have hg3 : g < wr.heap.size := HI'.out.blk.lt
            have n0 := (hF3.cell (p := ⟨g, off, none⟩) hg3 (fun h : wr.heap.size ≤ g => by omega)).trans ((HI'.out.blk.cell off).trans HI'.out.c0)
            rw [HVV.out] at n0
            have b0 := hB3.cell 0
            have b1 := hB3.cell 1
            have b2 := hB3.cell 2
            have b3 := hB3.cell 3
            have b4 := hB3.cell 4
            have b5 := hB3.cell 5
            have b6 := hB3.cell 6
            have b7 := hB3.cell 7
            have b8 := hB3.cell 8
            simp only [List.getElem?_toArray, List.getElem?_cons_succ, List.getElem?_cons_zero] at b0 b1 b2 b3 b4 b5 b6 b7 b8
            have hz3 := hF3.size
            have HF3 := Lib.hid hF3; clear hF3
            have HB3 := Lib.hid hB3; clear hB3
            have HO3 := Lib.hid hO3; clear hO3
            clear hset8 hF2 hne8 z0 z1
            refine wp_region_any (by kernel_rfl) ?_
            change wpAny _ _ _ _ _ _ _ (World.drew _)
            refine nplain (fun w' => w'.cell? ⟨g, off, none⟩ = some (.slice A' L'.length c') ∧ w'.cell? ⟨wr.heap.size, 0, none⟩ = some (.int .i64 x.m.kind) ∧ w'.cell? ⟨wr.heap.size, 1, none⟩ = some (.int .i64 x.m.from_) ∧ w'.cell? ⟨wr.heap.size, 2, none⟩ = some (.int .i64 x.m.to_) ∧ w'.cell? ⟨wr.heap.size, 3, none⟩ = some (.int .i64 x.m.epoch) ∧ w'.cell? ⟨wr.heap.size, 4, none⟩ = some (.int .i64 x.m.n) ∧ w'.cell? ⟨wr.heap.size, 5, none⟩ = some (.int .i64 x.m.cmd.kind) ∧ w'.cell? ⟨wr.heap.size, 6, none⟩ = some (.int .i64 x.m.cmd.tx) ∧ w'.cell? ⟨wr.heap.size, 7, none⟩ = some (.int .i64 x.m.cmd.time) ∧ w'.cell? ⟨wr.heap.size, 8, none⟩ = some (.slice A2 x.n k2)) 8 ?_
            have HCC := And.intro n0 (And.intro b0 (And.intro b1 (And.intro b2 (And.intro b3 (And.intro b4 (And.intro b5 (And.intro b6 (And.intro b7 b8))))))))
            refine ntake 0 rfl (by kernel_rfl) (by kernel_rfl) (by kernel_rfl) (by kernel_rfl) (fun _ _ _ h => h) (by kernel_rfl) HCC (fun w' hw' => by go_simp; rfl) ?_
            refine ntake 1 rfl (by kernel_rfl) (by kernel_rfl) (by kernel_rfl) (by kernel_rfl) (fun _ _ _ h => h) (by kernel_rfl) HCC (fun w' hw' => by go_simp; rfl) ?_
            refine ntake 2 rfl (by kernel_rfl) (by kernel_rfl) (by kernel_rfl) (by kernel_rfl) (fun _ _ _ h => h) (by kernel_rfl) HCC (fun w' hw' => by go_simp; rfl) ?_
            refine ntake 3 rfl (by kernel_rfl) (by kernel_rfl) (by kernel_rfl) (by kernel_rfl) (fun _ _ _ h => h) (by kernel_rfl) HCC (fun w' hw' => by go_simp; rfl) ?_
            refine ntake 4 rfl (by kernel_rfl) (by kernel_rfl) (by kernel_rfl) (by kernel_rfl) (fun _ _ _ h => h) (by kernel_rfl) HCC (fun w' hw' => by obtain ⟨c0, c1, c2, c3, c4, c5, c6, c7, c8, c9⟩ := hw'; go_simp; rfl) ?_
            refine ntake 5 rfl (by kernel_rfl) (by kernel_rfl) (by kernel_rfl) (by kernel_rfl) (fun _ _ _ h => h) (by kernel_rfl) HCC (fun w' hw' => by obtain ⟨c0, c1, c2, c3, c4, c5, c6, c7, c8, c9⟩ := hw'; go_simp; rfl) ?_
            have hkeep : ∀ o q p, q < w3.heap.size → (w3.alloc o).cell? ⟨q, p, none⟩ = w3.cell? ⟨q, p, none⟩ := fun o q p hq => World.cell?_alloc_lt w3 o ⟨q, p, none⟩ hq
            have hblt := HB3.out.lt
            have hrow3 : w3.ownsRow base 26 9 (.slice A' L'.length c') L'.length (L'.flatMap mrCells) := by
              rw [← HVV.out]
              exact HF3.out.own HI'.out.row (fun b hb (h : wr.heap.size ≤ b) => by have := HI'.out.vlt hb; omega)
            have HROW3 := Lib.hid hrow3; clear hrow3
            have hbase3 : base ≤ w3.heap.size := by have := HI'.out.bg; omega
            refine nonly 6 (by kernel_rfl) rfl (by kernel_rfl) (fun K hK => ?_)
            go_simp
            refine hK _ _ (fun _ => ⟨(hkeep _ _ _ (by omega)).trans n0, (hkeep _ _ _ hblt).trans b0, (hkeep _ _ _ hblt).trans b1, (hkeep _ _ _ hblt).trans b2, (hkeep _ _ _ hblt).trans b3, (hkeep _ _ _ hblt).trans b4, (hkeep _ _ _ hblt).trans b5, (hkeep _ _ _ hblt).trans b6, (hkeep _ _ _ hblt).trans b7, (hkeep _ _ _ hblt).trans b8⟩) ?_
            clear hK K HCC hkeep
            refine nonly 7 (by kernel_rfl) rfl (by kernel_rfl) (fun K hK => ?_)
            have hlt2 := HLT.out
            refine wp_append1 w3.drew w3.heap.size rfl _ (.tmp 50) (.tmp 52) 68 rfl base 26 _ 9 88 Tryd.underlying68 msg_info rfl (by decide) _ _ _ #[.int .i64 x.m.kind, .int .i64 x.m.from_, .int .i64 x.m.to_, .int .i64 x.m.epoch, .int .i64 x.m.n, .int .i64 x.m.cmd.kind, .int .i64 x.m.cmd.tx, .int .i64 x.m.cmd.time, .slice A2 x.n k2] rfl HROW3.out 1 rfl _ rfl rfl (by simp [Value.oneCell']) (by unfold maxLen; omega) (by omega) hbase3 ?_
            clear hlt2
            intro V2 w4 hrow4 hm4
            obtain ⟨A4, c4, rfl, _, _⟩ := own_slice hrow4
            have hm4' : Moved w3 w4 V'.ownBlock (Value.ownBlock (.slice A4 (L'.length + 1) c4)) := by rw [HVV.out]; exact ⟨⟨hm4.1.os, hm4.1.tape, hm4.1.output, hm4.1.size, hm4.1.block⟩, hm4.2⟩
            have hbg3 : Blk w3 g T (cs.setIfInBounds off V') := HF3.out.blk HI'.out.blk (fun h : wr.heap.size ≤ g => by omega)
            have hrowV : w3.ownsRow base 26 9 V' L'.length (L'.flatMap mrCells) := by rw [HVV.out]; exact HROW3.out
            have hgV : ¬ some g = V'.ownBlock := fun e => own_blk_ne hrowV hbg3 (fun e => HI'.out.ne.1 e.symm) e.symm
            have hxV : ¬ some wr.heap.size = V'.ownBlock := fun e => by have := HI'.out.vlt e.symm; omega
            have hb4 := hm4'.1.blk hbg3 hgV
            have hbx4 := hm4'.1.blk HB3.out hxV
            have y0 := hb4.cell off
            have y1 := hb4.frozen off
            have hc0 := HI'.out.c0
            rw [hc0, HVV.out] at y0
            have hC4 := And.intro y0 (And.intro (hbx4.cell 0) (And.intro (hbx4.cell 1) (And.intro (hbx4.cell 2) (And.intro (hbx4.cell 3) (And.intro (hbx4.cell 4) (And.intro (hbx4.cell 5) (And.intro (hbx4.cell 6) (And.intro (hbx4.cell 7) (hbx4.cell 8)))))))))
            have HC4 := Lib.hid hC4; clear hC4
            have hput := send_put (x2 := ⟨x.m, A2, x.n, k2⟩) HI'.out HS.out HF.out HV.out HX.out (by omega : j < n) hk HST2.out HF3.out rfl ⟨HO3.out, HRPL.out⟩ hm4' hrow4
            have HPUT := Lib.hid hput; clear hput hrow4 hm4 hm4' hb4 hbx4 hbg3 hrowV hgV hxV hc0
            go_simp
            refine hK _ _ (fun _ => HC4.out) ?_
            clear hK K
            refine nonly 8 (by kernel_rfl) rfl (by kernel_rfl) (fun K hK => ?_)
            go_simp
            refine hK _ _ (fun h => absurd h (by decide)) ?_
            clear hK K
            refine nonly 9 (by kernel_rfl) rfl (by kernel_rfl) (fun K hK => ?_)
            go_simp
            refine hK _ _ (fun h => absurd h (by decide)) ?_
            clear hK K
            refine nonly 10 (by kernel_rfl) rfl (by kernel_rfl) (fun K hK => ?_)
            go_simp
            refine hK _ _ (fun h => absurd h (by decide)) ?_
            clear hK K
            refine ndone (by kernel_rfl) ?_ _
            go_wp2_with fail
            go_roundw
            case rel => exact HPUT.out
            case measure => simp [intOf]; omega
        · rw [hd1] at hlk1
          rw [hd2] at hlk2
          have hs2 : stopB ⟨msOf L', dead, lost + kk⟩ x.m = true := (HST.out _ _ hd1 hd2).trans (by simp)
          have HST2 := Lib.hid hs2; clear hs2
          clear hd1 hd2
          unfold msgCells at *
          go_wp2_with fail
          go_quiet (fail)
          go_wp2_with fail
          go_roundw
          case rel => exact send_stop HI'.out HS.out HF.out HV.out HX.out (by omega) hk HST2.out ((((Fr.refl _ wr).alloc _)).drewN _)
          case measure => simp [intOf]; omega
      · rw [hd1] at hlk1
        have hs2 : stopB ⟨msOf L', dead, lost + kk⟩ x.m = true := (HST.out _ _ hd1 rfl).trans (by simp)
        have HST2 := Lib.hid hs2; clear hs2
        clear hd1 hlk2
        unfold msgCells at *
        go_wp2_with fail
        go_quiet (fail)
        go_wp2_with fail
        go_roundw
        case rel => exact send_stop HI'.out HS.out HF.out HV.out HX.out (by omega) hk HST2.out ((((Fr.refl _ wr).alloc _)).drewN _)
        case measure => simp [intOf]; omega
    · obtain rfl : j = n := by omega
      have hll : l.take j = l := List.take_of_length_le (by have := HR.out.1; omega)
      rw [hll] at hs
      have x2 := (hI'.blk.cell (off + 2)).trans hI'.c2
      have x3 := hI'.blk.frozen (off + 2)
      have hlo := hI'.lo
      have hfin : SendPost base g off nd T cs V D L dead lost l w (.returned (.int .i64 kk)) (wr.setCell ⟨g, off + 2, none⟩ (.int .i64 (lost + kk))) := by
        have hset := Fr.set1 g wr (off + 2) (.int .i64 (lost + kk))
        have hI2 : NetI (wr.setCell ⟨g, off + 2, none⟩ (.int .i64 (lost + kk))) base g off T ((cs.setIfInBounds off V').setIfInBounds (off + 2) (.int .i64 (lost + kk))) V' D nd L' dead (lost + kk) := by
          have hsz : off + 2 < cs.size := by
            have := hI'.c2
            rcases Nat.lt_or_ge (off + 2) cs.size with h | h
            · exact h
            · rw [Array.getElem?_eq_none (by simpa using h)] at this; cases this
          refine ⟨hI'.blk.set_ _ _, ?_, ?_, by simp [hsz], hset.own hI'.row (fun b hb e => by subst e; exact own_blk_ne hI'.row hI'.blk (fun e => hI'.ne.1 e.symm) hb), fun x hx => ⟨hset.own (hI'.own x hx).1 (fun b hb e => by subst e; exact own_blk_ne (hI'.own x hx).1 hI'.blk (fun e => hI'.ne.2 e.symm) hb), (hI'.own x hx).2⟩, hI'.down.fr hset (fun b hb e => by subst e; exact hI'.down.notBlk hI'.blk hb), hI'.len, by omega, by omega, hI'.ne, Nat.le_trans hI'.bg hset.size⟩
          · rw [Array.getElem?_setIfInBounds_ne (by omega)]; exact hI'.c0
          · rw [Array.getElem?_setIfInBounds_ne (by omega)]; exact hI'.c1
        exact ⟨V', L', _, kk, rfl, rfl, hI2, hs, hf.trans' hset (fun i _ h => .inl h), hV'⟩
      have HFIN := Lib.hid hfin; clear hfin hI' hs hf hV' hll hI
      go_wp2_with fail
      go_ret
      exact HFIN.out
end Go.Proofs.YtnahkpfamocnfaaDoor
