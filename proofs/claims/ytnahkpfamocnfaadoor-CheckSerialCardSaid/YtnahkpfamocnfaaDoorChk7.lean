/- check.Serial: its contract. -/
import Derived.Test.YtnahkpfamocnfaaDoorChk6
import Derived.Laws.MakeOwn
namespace Go.Proofs.YtnahkpfamocnfaaDoor
open Go.RowKit
theorem run_make_rowN {P : Program} (t e : TypeId) (i : TypeInfo) (z : Value) (ht : P.underlying t = some (.slice e)) (hi : P.info? e = some i) (hz : i.zero = some z)
    (kl kc : IntKind) (n c : Nat) (hnc : n ≤ c) (hbytes : i.bytes * c ≤ 281474976710656) (h63 : c ≤ 9223372036854775807) (w : World) :
    (Instr.makeSlice t (.int kl (n : Int)) (.int kc (c : Int))).run P w = .ok (.slice (some ⟨w.heap.size, 0, none⟩) n c) (w.alloc (.cells (madeCells z.cells (c * i.size)) e)) := by
  have hb : (i.bytes : Int) * (c : Int) ≤ 281474976710656 := by
    have h : ((i.bytes * c : Nat) : Int) ≤ 281474976710656 := by omega
    rwa [Int.natCast_mul] at h
  have hr := run_make (P := P) w t e i z ht hi hz kl kc n c (by omega) (by omega) hb (by omega)
  simp only [Int.toNat_natCast] at hr
  exact hr
theorem bool_info : (Tryd.prog.info? 4).map (fun i => (i.zero, i.size, i.bytes)) = some (some (.bool false), 1, 1) := by kernel_rfl
theorem made_used (n : Nat) : madeCells (Value.bool false).cells n = usedA n [] := by
  apply Array.ext_getElem?
  intro i
  rw [usedA_at]
  unfold madeCells
  by_cases hi : i < n <;> simp [Value.cells, hi, Nat.mod_one]
theorem make_used (n : Nat) (hn : n ≤ 1000) (w : World) : (Instr.makeSlice 99 (.int .i64 (n : Int)) (.int .i64 (n : Int))).run Tryd.prog w = .ok (.slice (some ⟨w.heap.size, 0, none⟩) n n) (w.alloc (.cells (usedA n []) 4)) := by
  obtain ⟨i, hi, hz, hs, hb⟩ := info_parts bool_info
  have h := run_make_rowN 99 4 i _ Tryd.underlying99 hi hz .i64 .i64 n n (Nat.le_refl _) (by rw [hb]; omega) (by omega) w
  rw [hs, Nat.mul_one, made_used] at h
  exact h
def SerPost (o : Option (List Nat)) (w : World) (e : Ending) (w' : World) : Prop :=
  ∃ A k c, e = .returned (.tuple #[.slice A k c, .bool o.isSome, .nilIface]) ∧ k = (o.getD []).length ∧ Rd w' w'.heap.size 1 A k (intsV (o.getD [])) ∧ Below w.heap.size w w'
def GreatRel (l : List TxR) (n : Nat) (w : World) (i : Value) (wr : World) : Prop :=
  ∃ j : Nat, i = .int .i64 j ∧ j ≤ n ∧ (∀ x ∈ l.take j, x.n ≤ 40) ∧ Below w.heap.size w wr
theorem newWk (L : List TxR) (B n c : Nat) (A : Option Addr) (w : World) (h : ReadsT w B A n L) (hB : B ≤ w.heap.size) :
    WkS (((w.alloc (.cells (usedA n []) 4)).alloc (.map #[] 0)).alloc (.cells #[.slice A n c, .slice (some ⟨w.heap.size, 0, none⟩) n n, .slice none 0 0, .map (some (w.heap.size + 1))] 102))
      w.heap.size (w.heap.size + 1 + 1) L ⟨A, n, c, w.heap.size, .slice none 0 0, w.heap.size + 1⟩ [] 0 Mp.empty := by
  have hb : Below w.heap.size w (((w.alloc (.cells (usedA n []) 4)).alloc (.map #[] 0)).alloc (.cells #[.slice A n c, .slice (some ⟨w.heap.size, 0, none⟩) n n, .slice none 0 0, .map (some (w.heap.size + 1))] 102)) :=
    (((Below.refl _ _).alloc (Nat.le_refl _) _).alloc (by simp) _).alloc (by simp; omega) _
  have e1 : (w.alloc (.cells (usedA n []) 4)).heap.size = w.heap.size + 1 := by simp
  have e2 : ((w.alloc (.cells (usedA n []) 4)).alloc (.map #[] 0)).heap.size = w.heap.size + 1 + 1 := by simp
  refine ⟨?_, ?_, ?_, ?_, ?_, by omega, Nat.le_refl _, by show w.heap.size ≤ w.heap.size + 1; omega, hb.size⟩
  · have := Blk.new ((w.alloc (.cells (usedA n []) 4)).alloc (.map #[] 0)) 102 #[.slice A n c, .slice (some ⟨w.heap.size, 0, none⟩) n n, .slice none 0 0, .map (some (w.heap.size + 1))]
    rw [e2] at this
    exact this
  · refine ⟨h.1, (h.2.1.below (hb.mono hB)).more hB, fun x hx => ⟨⟨(h.2.2 x hx).1.1, ((h.2.2 x hx).1.2.below (hb.mono hB)).more hB⟩, (h.2.2 x hx).2⟩⟩
  · exact ((Blk.new w _ _).alloc _).alloc _
  · exact World.ownsRow_nil _ _ _ _
  · have := (MapV.made (w.alloc (.cells (usedA n []) 4))).alloc (.cells #[.slice A n c, .slice (some ⟨w.heap.size, 0, none⟩) n n, .slice none 0 0, .map (some (w.heap.size + 1))] 102)
    rw [e1] at this
    exact this
set_option maxRecDepth 100000 in
set_option maxHeartbeats 1000000 in
theorem serial_any (L : List TxR) (B n c : Nat) (A : Option Addr) (w : World) (h : ReadsT w B A n L) (hB : B ≤ w.heap.size) (hn : n ≤ 8) (hs : ∀ x ∈ L, x.n ≤ 40) :
    Calls Tryd.prog 14 #[.slice A n c] w (SerPost (walkP (tsOf L) n [] Mp.empty) w) := by
  have H := Lib.hid h; clear h
  have HS := Lib.hid hs; clear hs
  have hmu := fun W => make_used n (by omega) W
  have HMU := Lib.hid hmu; clear hmu
  have hmm := @run_makeMap Tryd.prog
  have HMM := Lib.hid hmm; clear hmm
  go_enter Tryd.func14, Tryd.ntmps14
  go_wp2_with fail
  go_loopw [14] (GreatRel L n w) (fun v _ => n - (intOf v).toNat)
  case atStart => exact ⟨0, rfl, Nat.zero_le _, by simp, Below.refl _ _⟩
  case round =>
    obtain ⟨j, rfl, hj, hfew, hbw⟩ := hrel
    have HF := Lib.hid hfew; clear hfew
    have hr := H.out.below (hbw.mono hB)
    by_cases hlt : (j : Int) < n
    · obtain ⟨g, off, x, hA, hg, hx, k0, k1, k2, _⟩ := hr.at_ (k := j) (by omega)
      have hx40 := HS.out x (List.mem_of_getElem? hx)
      have hsz := hbw.size
      have hgl : g < wr.heap.size := by omega
      have HX := Lib.hid hx; clear hx hr
      rw [hA]
      clear hA
      go_wp2_with fail
      go_roundw
      case rel =>
        refine ⟨j + 1, rfl, by omega, fun y hy => ?_, hbw.alloc hbw.size _⟩
        rw [List.take_add_one, HX.out] at hy
        rcases List.mem_append.1 hy with hy | hy
        · exact HF.out y hy
        · simp at hy; subst hy; exact hx40
      case measure => simp [intOf]; omega
    · have hjn : j = n := by omega
      subst hjn
      have hmu := HMU.out
      have hmm := HMM.out
      have hk := newWk L B j c A wr hr (by have := hbw.size; omega)
      have HK := Lib.hid hk; clear hk hr HF
      go_wp2_with fail
      refine (walk_any wr.heap.size (wr.heap.size + 1 + 1) L (fun x hx => by have := HS.out x hx; omega) j _ [] 0 Mp.empty _ HK.out List.nodup_nil (by simp) (by simp) (by show j ≤ 1000; omega) (by omega)).mono ?_
      rintro e w2 ⟨rfl, r2, nm2, m2, hn2, hW2, hF2, _⟩
      have hb2 : Below w.heap.size w w2 := (((hbw.alloc hbw.size _).alloc (by simp; have := hbw.size; omega) _).alloc (by simp; have := hbw.size; omega) _).trans (hF2.below (fun i hi => by have := (HK.out.lt i hi).1; have := hbw.size; omega) (by simp; have := hbw.size; omega))
      clear hmu hmm HMU HMM
      generalize hq : walkP (tsOf L) j [] Mp.empty = q at hW2
      have HQ := Lib.hid hq; clear hq
      rcases q with _ | o
      · clear hW2 hF2 hn2 HK
        go_wp2_with fail
        go_ret3
        rw [HQ.out]
        exact ⟨none, 0, 0, rfl, rfl, Rd.none_ _ _ _ _, hb2⟩
      · have hW2 : WkS w2 wr.heap.size (wr.heap.size + 1 + 1) L r2 o nm2 m2 := hW2
        obtain ⟨A3, c3, hv, _, _⟩ := own_slice hW2.row
        have hp2 := hW2.c2
        have hrow := hW2.row
        rw [hv] at hp2 hrow
        have hrd := Rd.of_own hrow
        have HRD := Lib.hid hrd; clear hrd hrow hW2 hF2 hn2 HK hv
        go_wp2_with fail
        go_ret3
        rw [HQ.out]
        exact ⟨A3, _, c3, rfl, rfl, HRD.out, hb2⟩
end Go.Proofs.YtnahkpfamocnfaaDoor
