/- chainmailref.without. -/
import Derived.Test.YtopmehbncidpnaaGreatDoorRt5
import Derived.Laws.StructEq
namespace Go.Proofs.YtopmehbncidpnaaGreatDoor
open Go.RowKit
theorem eqAsk (a b c d : Int) (k k' : ByteArray) (w : World) : (Op.equalIn 10000 37 (.agg #[.int .i64 a, .string k, .int .i64 b]) (.agg #[.int .i64 c, .string k', .int .i64 d])).run Tryz.prog w = .ok (a == c && (k.toList == k'.toList) && b == d) w := by
  have u3 := Tryz.underlying3
  have u9 := Tryz.underlying9
  have hS : Tryz.prog.underlying 37 = some (.struct (Tryz.prog.fieldsOf 37)) := by kernel_rfl
  have hp : Tryz.prog.stoodInHeld 37 = false := by kernel_rfl
  rw [show (10000 : Nat) = 9999 + 1 from rfl, run_equalIn_agg w 9999 37 _ _ hS hp]
  simp only [Program.fieldsOf, Tryz.underlying37]
  go_simp
  by_cases h1 : a = c <;> by_cases h2 : b = d <;> by_cases h3 : (k.toList == k'.toList) = true <;> simp_all
def WoRel (L : List Ak) (x : Ak) (w : World) (v5 v10 : Value) (wr : World) : Prop :=
  ∃ i : Nat, v10 = .int .i64 i ∧ i ≤ L.length ∧ wr.ownsRow w.heap.size 37 3 v5 ((L.take i).filter (fun b => !decide (b = x))).length (((L.take i).filter (fun b => !decide (b = x))).flatMap akCells) ∧ Below w.heap.size w wr
def WoPost (l : List Ak) (w : World) (e : Ending) (w' : World) : Prop := ∃ V, e = .returned V ∧ w'.ownsRow w.heap.size 37 3 V l.length (l.flatMap akCells) ∧ Below w.heap.size w w'
theorem wo_size {p : Ak → Bool} {L : List Ak} {i : Nat} (hi : i ≤ L.length) : ((L.take i).filter p).length ≤ i := Nat.le_trans (List.length_filter_le _ _) (by simp; omega)
theorem wo_step {p : Ak → Bool} {L : List Ak} {i : Nat} {a : Ak} (ha : L[i]? = some a) : (L.take (i + 1)).filter p = if p a then (L.take i).filter p ++ [a] else (L.take i).filter p := by
  rw [List.take_add_one, ha, List.filter_append]
  cases h : p a <;> simp [h]
set_option maxRecDepth 100000 in
set_option maxHeartbeats 4000000 in
theorem without_any (x : Ak) (L : List Ak) (n k : Nat) (A : Option Addr) (w : World) (hr : Rd w w.heap.size 3 A n (L.flatMap akCells)) (hl : L.length = n) (hn : n ≤ 1000000) :
    Calls Tryz.prog 28 #[.slice A n k, .agg #[.int .i64 x.tx, .string ⟨x.key.toArray⟩, .int .i64 x.mode]] w (WoPost (L.filter (fun b => !decide (b = x))) w) := by
  subst hl
  have hbx0 : Below w.heap.size w (w.alloc (.cells #[.int .i64 x.tx, .string ⟨x.key.toArray⟩, .int .i64 x.mode] 37)) := (Below.refl _ _).alloc (Nat.le_refl _) _
  have hB : Blk (w.alloc (.cells #[.int .i64 x.tx, .string ⟨x.key.toArray⟩, .int .i64 x.mode] 37)) w.heap.size 37 #[.int .i64 x.tx, .string ⟨x.key.toArray⟩, .int .i64 x.mode] := Blk.new w _ _
  have HRD := Lib.hid ((hr.below hbx0).more hbx0.size); clear hr
  have HB := Lib.hid hB; clear hB
  have HBX := Lib.hid hbx0; clear hbx0
  go_enter Tryz.func28, Tryz.ntmps28
  go_upto_region 2 with (fail)
  generalize hw0 : w.alloc (.cells #[.int .i64 x.tx, .string ⟨x.key.toArray⟩, .int .i64 x.mode] 37) = w0 at *
  have HZ0 := Lib.hid HBX.out.size
  clear hw0
  go_wp2_with fail
  go_loopw [5, 10] (WoRel L x w0) (fun _ v _ => L.length - (intOf v).toNat)
  case atStart => exact ⟨0, rfl, Nat.zero_le _, World.ownsRow_nil _ _ _ _, Below.refl _ _⟩
  case round =>
    obtain ⟨i, rfl, hi, hown, hb⟩ := hrel
    by_cases hlt : (i : Int) < L.length
    · obtain ⟨g', o', a, rfl, hga, hx, h0, h1, h2⟩ := (HRD.out.below hb).cellsA rfl (j := i) (by omega)
      have hgw : g' < wr.heap.size := Nat.lt_of_lt_of_le hga hb.size
      have hbl : Below wr.heap.size wr (wr.alloc (.cells #[.int .i64 a.tx, .string ⟨a.key.toArray⟩, .int .i64 a.mode] 37)) := (Below.refl _ _).alloc (Nat.le_refl _) _
      have hown1 := own_belowK hown hbl
      have hb1 := hb.trans (hbl.mono hb.size)
      have hsz := wo_size (p := fun b => !decide (b = x)) hi
      have hbk := HB.out.below hb1 HB.out.lt
      have ha1 : Blk (wr.alloc (.cells #[.int .i64 a.tx, .string ⟨a.key.toArray⟩, .int .i64 a.mode] 37)) wr.heap.size 37 #[.int .i64 a.tx, .string ⟨a.key.toArray⟩, .int .i64 a.mode] := Blk.new _ _ _
      have HB1 := Lib.hid hb1; clear hb1 hbl
      have HX := Lib.hid hx; clear hx
      have HO1 := Lib.hid hown1; clear hown1 hown
      have HSZ := Lib.hid hb.size; clear hb
      have HSL := Lib.hid hsz; clear hsz
      have HBK := Lib.hid hbk; clear hbk
      have HA1 := Lib.hid ha1; clear ha1
      go_upto_region 5 with (fail)
      clear h0 h1 h2
      generalize hw1 : wr.alloc (.cells #[.int .i64 a.tx, .string ⟨a.key.toArray⟩, .int .i64 a.mode] 37) = w1 at *
      have hs1 : w1.heap.size = wr.heap.size + 1 := by rw [← hw1]; simp
      clear hw1
      have HS1 := Lib.hid hs1; clear hs1
      have k0 := HBK.out.cell 0
      have k1 := HBK.out.cell 1
      have k2 := HBK.out.cell 2
      have a0 := HA1.out.cell 0
      have a1 := HA1.out.cell 1
      have a2 := HA1.out.cell 2
      have kl := HBK.out.lt
      have al := HA1.out.lt
      simp only [List.getElem?_toArray, List.getElem?_cons_zero, List.getElem?_cons_succ] at k0 k1 k2 a0 a1 a2
      have heq := fun W => eqAsk a.tx a.mode x.tx x.mode ⟨a.key.toArray⟩ ⟨x.key.toArray⟩ W
      have hval : (a.tx == x.tx && ((⟨a.key.toArray⟩ : ByteArray).toList == (⟨x.key.toArray⟩ : ByteArray).toList) && a.mode == x.mode) = decide (a = x) := by
        obtain ⟨at1, ak1, am1⟩ := a
        obtain ⟨xt1, xk1, xm1⟩ := x
        by_cases h1 : at1 = xt1 <;> by_cases h2 : ak1 = xk1 <;> by_cases h3 : am1 = xm1 <;> simp [h1, h2, h3]
      rw [hval] at heq
      clear hval
      rcases hm : decide (a = x) with _ | _
      · rw [hm] at heq
        have htf := (wo_step (p := fun b => !decide (b = x)) HX.out).trans (if_pos (by simp [hm]))
        have HTF := Lib.hid htf; clear htf
        go_wp2_with (at_builtin; refine stop ?_)
        refine back ?_
        refine wpList_append1 _ _ rfl (.tmp 17) (.tmp 19) 27 rfl w0.heap.size 37 (.agg #[.int .i64 0, .string ⟨#[]⟩, .int .i64 0]) 3 32 Tryz.underlying27 a_info rfl (by decide) _ _ _ #[.int .i64 a.tx, .string ⟨a.key.toArray⟩, .int .i64 a.mode] rfl HO1.out 1 rfl _ rfl rfl (by simp [Value.oneCell']) ?_ ?_ ?_ ?_
        · have := HSL.out; unfold maxLen; omega
        · have := HSL.out; omega
        · have := HSZ.out; have := HS1.out; omega
        intro v' w9 hown9 hmv
        have hrel9 : WoRel L x w0 v' (.int .i64 ((i + 1 : Nat) : Int)) w9 := by
          refine ⟨i + 1, rfl, by omega, ?_, HB1.out.trans (hmv.below (fun b hb => (HO1.out.lt b hb).1) (by have := HSZ.out; have := HS1.out; omega))⟩
          rw [HTF.out, List.length_append, List.flatMap_append, List.flatMap_singleton]
          exact hown9
        have HR := Lib.hid hrel9; clear hrel9 hown9 hmv heq
        go_wp2_with fail
        go_roundw
        case rel => exact HR.out
        case measure => simp [intOf]; omega
      · rw [hm] at heq
        have htf := (wo_step (p := fun b => !decide (b = x)) HX.out).trans (if_neg (by simp [hm]))
        have hrel9 : WoRel L x w0 u5 (.int .i64 ((i + 1 : Nat) : Int)) w1 := by
          refine ⟨i + 1, rfl, by omega, ?_, HB1.out⟩
          rw [htf]
          exact HO1.out
        have HR := Lib.hid hrel9; clear hrel9 htf
        go_wp2_with fail
        go_roundw
        case rel => exact HR.out
        case measure => simp [intOf]; omega
    · obtain rfl : i = L.length := by omega
      rw [List.take_length] at hown
      have hfin : WoPost (L.filter (fun b => !decide (b = x))) w (.returned u5) wr := ⟨u5, rfl, own_base hown HZ0.out, HBX.out.trans (hb.mono HZ0.out)⟩
      have HF := Lib.hid hfin; clear hfin hown hb
      go_wp2_with fail
      go_ret
      exact HF.out
end Go.Proofs.YtopmehbncidpnaaGreatDoor
