/- wire's reader: num, text, truth, by walks. -/
import Derived.Test.YtnahkpfamocnfaaDoorBits
import Derived.Test.YtnahkpfamocnfaaDoorRegion
namespace Go.Proofs.YtnahkpfamocnfaaDoor
open Go.RowKit
/-- A reader at block p: the bytes that are left (they lie below B), and whether they were not so. -/
def Rdr (T : TypeId) (w : World) (B p : Nat) (A : Option Addr) (n c : Nat) (s : RS) : Prop :=
  Blk w p T #[.slice A n c, .bool s.2] ∧ Rd w B 1 A n (s.1.map bv) ∧ n ≤ c ∧ B ≤ p ∧ Bytes s.1
def RPost (T : TypeId) (B p : Nat) (val : Value) (s : RS) (w : World) (e : Ending) (w' : World) : Prop :=
  ∃ A n c, e = .returned val ∧ Rdr T w' B p A n c s ∧ Fr (fun k => k = p) w w'
def ScanRel (k : Bool) (l : List Nat) (n : Nat) (w : World) (u i : Value) (wr : World) : Prop :=
  ∃ (j acc : Nat), u = .int .i64 acc ∧ i = .int .i64 j ∧ j ≤ n ∧ j ≤ 6 ∧ acc < 128 ^ j ∧ scan k 0 0 l = scan k j acc (l.drop j) ∧ wr = w
/-- Where a slice begins that leaves so many out. -/
def dropA (A : Option Addr) (v c : Nat) : Option Addr := if c = v then A else A.map (·.add v)
theorem elem_byte : Tryd.prog.elem 28 = 5 := by kernel_rfl
theorem size_byte (w : World) : (sizeOf (Tryd.prog.elem 28)).run Tryd.prog w = .ok 1 w := by rw [elem_byte]; kernel_rfl
theorem und_bytes : Tryd.prog.underlying 28 = some (.slice (Tryd.prog.elem 28)) := by rw [elem_byte]; exact Tryd.underlying28
theorem slice_from (w : World) (A : Option Addr) (n c v : Nat) (h : Int) (hh : h = v) (hv : v ≤ n) : (Instr.slice 28 (.slice A n c) (some (.int .i64 h)) none none).run Tryd.prog w = .ok (.slice (dropA A v c) (n - v) (c - v)) w := by
  subst hh
  rw [run_slice_l w _ A n c und_bytes .i64 (v : Int) (by omega) (by omega), size_byte]
  simp [Result.andThen, sliced, dropA]
theorem add_zero_addr (a : Addr) : a.add 0 = a := by unfold Addr.add; rw [if_pos rfl]
theorem slice_to (w : World) (A : Option Addr) (n c v : Nat) (hv : v ≤ c) : (Instr.slice 28 (.slice A n c) none (some (.int .i64 (v : Int))) none).run Tryd.prog w = .ok (.slice A v c) w := by
  rw [run_slice_h w _ A n c und_bytes .i64 (v : Int) (by omega) (by omega), size_byte]
  simp only [Result.andThen, sliced, Int.toNat_natCast, Nat.zero_mul, Nat.sub_zero]
  congr 2
  split
  · rfl
  · cases A <;> simp [add_zero_addr]
theorem Rd.dropped {w : World} {B n c v : Nat} {A : Option Addr} {l : List Nat} (h : Rd w B 1 A n (l.map bv)) (hv : v ≤ n) (hc : n ≤ c) : Rd w B 1 (dropA A v c) (n - v) ((l.drop v).map bv) := by
  have hl : l.length = n := by have := h.1; simpa using this
  refine ⟨by simp [hl], fun h0 => ?_⟩
  obtain ⟨g, off, rfl, hg, hcell⟩ := h.2 (by omega)
  refine ⟨g, off + v, ?_, hg, fun i u hu => ?_⟩
  · unfold dropA
    rw [if_neg (by omega)]
    simp only [Option.map_some, Option.some.injEq]
    unfold Addr.add
    split
    · rename_i h; subst h; rfl
    · rfl
  · rw [List.map_drop, List.getElem?_drop] at hu
    have := hcell _ _ hu
    rwa [← Nat.add_assoc] at this
theorem Rd.taken {w : World} {B n v : Nat} {A : Option Addr} {l : List Nat} (h : Rd w B 1 A n (l.map bv)) (hv : v ≤ n) : Rd w B 1 A v ((l.take v).map bv) := by
  have hl : l.length = n := by have := h.1; simpa using this
  refine ⟨by simp; omega, fun h0 => ?_⟩
  obtain ⟨g, off, rfl, hg, hcell⟩ := h.2 (by omega)
  refine ⟨g, off, rfl, hg, fun i u hu => hcell i u ?_⟩
  rw [List.map_take, List.getElem?_take] at hu
  split at hu
  · exact hu
  · cases hu
theorem Rdr.bad {T : TypeId} {w : World} {B p : Nat} {A : Option Addr} {n c : Nat} {s : RS} (h : Rdr T w B p A n c s) (b : Bool) : Rdr T (w.setCell ⟨p, 1, none⟩ (.bool b)) B p A n c (s.1, b) :=
  ⟨h.1.set_ 1 (.bool b), h.2.1.fr (Fr.set1 p w 1 (.bool b)) (by have := h.1.lt; have := h.2.2.2.1; omega) (fun g' off' e h0 e2 => by
    obtain ⟨g2, off2, e3, hg, _⟩ := h.2.1.2 h0
    rw [e] at e3; injection e3 with e3; injection e3 with e3 _
    have := h.2.2.2.1; omega), h.2.2.1, h.2.2.2.1, h.2.2.2.2⟩
theorem Rdr.rest {T : TypeId} {w : World} {B p : Nat} {A : Option Addr} {n c v : Nat} {s : RS} (h : Rdr T w B p A n c s) (hv : v ≤ n) : Rdr T (w.setCell ⟨p, 0, none⟩ (.slice (dropA A v c) (n - v) (c - v))) B p (dropA A v c) (n - v) (c - v) (s.1.drop v, s.2) :=
  ⟨h.1.set_ 0 _, (h.2.1.dropped hv h.2.2.1).fr (Fr.set1 p w 0 _) (by have := h.1.lt; have := h.2.2.2.1; omega) (fun g' off' e h0 e2 => by
    obtain ⟨g2, off2, e3, hg, _⟩ := (h.2.1.dropped hv h.2.2.1).2 h0
    rw [e] at e3; injection e3 with e3; injection e3 with e3 _
    have := h.2.2.2.1; omega), by have := h.2.2.1; omega, h.2.2.2.1, fun y hy => h.2.2.2.2 y (List.mem_of_mem_drop hy)⟩
set_option maxRecDepth 100000 in
set_option maxHeartbeats 1000000 in
theorem rnum_any (B p : Nat) (A : Option Addr) (n c : Nat) (s : RS) (w : World) (hW : Rdr 118 w B p A n c s) :
    Calls Tryd.prog 47 #[.pointer (some ⟨p, 0, none⟩)] w (RPost 118 B p (.int .i64 (numR true s).1) (numR true s).2 w) := by
  have HW := Lib.hid hW
  obtain ⟨hb, hr, hnc, hBp, hby⟩ := hW
  have hc0 := hb.cell 0
  have hc1 := hb.cell 1
  have hf0 := hb.frozen 0
  have hf1 := hb.frozen 1
  have hlen : s.1.length = n := by have := hr.1; simpa using this
  go_enter Tryd.func47, Tryd.ntmps47
  go_wp2_with fail
  go_loopw [3, 11] (ScanRel true s.1 n w) (fun _ i _ => n - (intOf i).toNat)
  case atStart => exact ⟨0, 0, rfl, rfl, by omega, by omega, by simp, rfl, rfl⟩
  case round =>
    obtain ⟨j, acc, rfl, rfl, hj, hj6, hacc, hsc, rfl⟩ := hrel
    by_cases hlt : (j : Int) < n
    · obtain ⟨g, off, u, rfl, hab, hx, hc⟩ := hr.at1 (k := j) (by omega)
      obtain ⟨x, hx1, rfl⟩ : ∃ x, s.1[j]? = some x ∧ u = bv x := by
        rw [List.getElem?_map] at hx
        rcases hh : s.1[j]? with _ | x
        · rw [hh] at hx; simp at hx
        · rw [hh] at hx; simp at hx; exact ⟨x, rfl, hx.symm⟩
      unfold bv at hc
      have hxb : x < 256 := hby x (List.mem_of_getElem? hx1)
      have hv := scan_bits hxb hj6 hacc
      have hst := scan_step (k := true) (acc := acc) hx1
      have hp := part_small (x := x) hj6
      have hq := pow_small hj6
      have hal := acc_lt (x := x) hacc
      generalize acc + x % 128 * 128 ^ j = V at hv hst hal
      rw [← hsc] at hst
      have HV := Lib.hid hv; clear hv
      have HST := Lib.hid hst; clear hst hsc hp hq
      have HB := Lib.hid hb; clear hb
      have HR := Lib.hid hr; clear hr
      have HX := Lib.hid hx1; clear hx1 hx
      have HBY := Lib.hid hby; clear hby
      have HL := Lib.hid hlen; clear hlen
      have HAL := Lib.hid hal; clear hal
      have hfail : (5 < j ∨ (1099511627776 < V ∨ (x = 0 ∧ 0 < j))) → RPost 118 B p (.int .i64 (numR true s).1) (numR true s).2 wr (.returned (.int .i64 0)) (wr.setCell ⟨p, 1, none⟩ (.bool true)) := fun hf => by
        have hsn : scan true 0 0 s.1 = none := by rw [HST.out, if_pos (by simpa using hf)]
        rw [numR_none hsn]
        exact ⟨_, n, c, rfl, HW.out.bad true, Fr.set1 p wr _ _⟩
      have HFAIL := Lib.hid hfail; clear hfail
      have hgood : ¬ (5 < j ∨ (1099511627776 < V ∨ (x = 0 ∧ 0 < j))) → x < 128 → RPost 118 B p (.int .i64 (numR true s).1) (numR true s).2 wr (.returned (.int .i64 V)) (wr.setCell ⟨p, 0, none⟩ (.slice (dropA (some ⟨g, off, none⟩) (j + 1) c) (n - (j + 1)) (c - (j + 1)))) := fun hf h128 => by
        have hsn : scan true 0 0 s.1 = some (V, s.1.drop (j + 1)) := by rw [HST.out, if_neg (by simpa using hf), if_pos h128]
        rw [numR_some hsn]
        exact ⟨_, _, _, rfl, HW.out.rest (by omega), Fr.set1 p wr _ _⟩
      have HGOOD := Lib.hid hgood; clear hgood
      have hrel1 : ¬ (5 < j ∨ (1099511627776 < V ∨ (x = 0 ∧ 0 < j))) → ¬ x < 128 → ScanRel true s.1 n wr (.int .i64 V) (.int .i64 ((j : Int) + 1)) wr := fun hf h128 =>
        ⟨j + 1, V, rfl, rfl, by omega, by omega, HAL.out, by rw [HST.out, if_neg (by simpa using hf), if_neg h128], rfl⟩
      have HREL := Lib.hid hrel1; clear hrel1
      have hsl := fun W => slice_from W (some ⟨g, off, none⟩) n c (j + 1) ((j : Int) + 1) (by omega) (by omega)
      have HSL := Lib.hid hsl; clear hsl
      clear HST HB HR HX HBY HL HAL HW
      have hv := HV.out
      by_cases c1 : (j : Int) > 5
      · have hp := HFAIL.out (.inl (by omega))
        have HP := Lib.hid hp; clear hp HFAIL HGOOD HREL
        go_wp2_with fail
        go_ret
        exact HP.out
      · by_cases c2 : (V : Int) > 1099511627776
        · have hp := HFAIL.out (.inr (.inl (by omega)))
          have HP := Lib.hid hp; clear hp HFAIL HGOOD HREL
          go_wp2_with fail
          go_ret
          exact HP.out
        · by_cases c3 : x = 0
          · have hv0 : bits .or .i64 (acc : Int) (wrap64 (wrap64 (bits .and .u8 (0 : Int) 127) * 2 ^ (7 * j))) = V := by
              have h := hv
              rw [c3] at h
              exact h
            have hc0' : wr.cell? ⟨g, off + j, none⟩ = some (.int .u8 (0 : Int)) := by rw [hc, c3]; rfl
            have h128 : x < 128 := by omega
            have hpf : 0 < j → _ := fun h => HFAIL.out (.inr (.inr ⟨c3, h⟩))
            have HPF := Lib.hid hpf; clear hpf
            have hpg : ¬ 0 < j → _ := fun h => HGOOD.out (by omega) h128
            have HPG := Lib.hid hpg; clear hpg
            clear HFAIL HGOOD HREL hc hv HV c3 h128 hxb
            by_cases c4 : (j : Int) > 0
            · have hp := HPF.out (by omega)
              have HP := Lib.hid hp; clear hp HPF HPG
              go_wp2_with fail
              go_ret
              exact HP.out
            · have hp := HPG.out (by omega)
              have HP := Lib.hid hp; clear hp HPF HPG
              have hsl := HSL.out
              go_wp2_with fail
              go_ret
              exact HP.out
          · have c5 : ((x : Int) == 0) = false := by simpa using c3
            by_cases c6 : (x : Int) < 128
            · have hp := HGOOD.out (by omega) (by omega)
              have HP := Lib.hid hp; clear hp HFAIL HGOOD HREL
              have hsl := HSL.out
              go_wp2_with fail
              go_ret
              exact HP.out
            · have hp := HREL.out (by omega) (by omega)
              have HP := Lib.hid hp; clear hp HFAIL HGOOD HREL
              go_wp2_with fail
              go_roundw
              case rel => exact HP.out
              case measure => simp [intOf]; omega
    · have hjn : j = n := by omega
      have hsn : scan true 0 0 s.1 = none := by rw [hsc]; exact scan_end (by omega)
      have hpost : RPost 118 B p (.int .i64 (numR true s).1) (numR true s).2 wr (.returned (.int .i64 0)) (wr.setCell ⟨p, 1, none⟩ (.bool true)) := by
        rw [numR_none hsn]
        exact ⟨_, n, c, rfl, HW.out.bad true, Fr.set1 p wr _ _⟩
      have HP := Lib.hid hpost; clear hpost hsn hsc hb hr hby HW
      go_wp2_with fail
      go_ret
      exact HP.out
end Go.Proofs.YtnahkpfamocnfaaDoor
