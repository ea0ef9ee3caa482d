/- locks: (*key).free. -/
import Derived.Test.YtopmehbncidpnaaGreatDoorLk2
import Derived.Deep.CutBlock
namespace Go.Proofs.YtopmehbncidpnaaGreatDoor
open Go.RowKit
theorem enters_w {P : Program} {f : FuncId} {fn : Func} {c : Code} (hf : P.funcs[f]? = some fn) (hname : (fn.name == "runtime.NumGoroutine") = false) (hb : fn.body = some c) : ∀ (args : Array Value) (w : World), (callFunc f args).run P w = .ok (.enter f args) w := by
  intro args w
  have h1 : fn.name ≠ "runtime.NumGoroutine" := by simpa using hname
  simp [callFunc, hf, h1, hb, mark]
theorem hM_look {w : World} {hb n : Nat} {h : Int → Option Int} (hm : MapG kI w hb n (hM h)) {tx : Int} (hx : okN tx) : (Instr.lookup 63 (.map (some hb)) (.int .i64 tx) false).run Tryz.prog w = .ok (.int .i64 (holdK h tx)) w := by
  have hz : (zeroValue 3).run Tryz.prog w = .ok (.int .i64 0) w := by kernel_rfl
  have := (hm.look Tryz.underlying63 hz (x := tx) hx).2
  rw [show kI.val tx = Value.int .i64 tx from rfl] at this
  rw [this]
  unfold hM holdK
  cases h tx <;> rfl
set_option maxRecDepth 100000 in
set_option maxHeartbeats 4000000 in
theorem free_any (g hb n nn kk : Nat) (V : Value) (h : Int → Option Int) (tx mode : Int) (A : Option Addr) (ws : List (Int × Int)) (w : World) (hblk : Blk w g 65 #[.map (some hb), V]) (hm : MapG kI w hb n (hM h)) (hok : ∀ o m, h o = some m → okN o ∧ okN m)
    (htx : okN tx) (hr : Rd w w.heap.size 2 A nn (ws.flatMap wtCells)) (hl : ws.length = nn) (hn : nn ≤ 100000) :
    Calls Tryz.prog 22 #[.pointer (some ⟨g, 0, none⟩), .int .i64 tx, .int .i64 mode, .slice A nn kk] w fun e w' => e = .returned (.bool (freeB h tx mode ws)) ∧ Below w.heap.size w w' := by
  have hb1 : Below w.heap.size w ((w.alloc (.cells #[.int .i64 tx] 3)).alloc (.cells #[.int .i64 mode] 3)) := ((Below.refl _ _).alloc (Nat.le_refl _) _).alloc (by simp) _
  have hB1 : Blk ((w.alloc (.cells #[.int .i64 tx] 3)).alloc (.cells #[.int .i64 mode] 3)) w.heap.size 3 #[.int .i64 tx] := (Blk.new w _ _).alloc _
  have hB2 : Blk ((w.alloc (.cells #[.int .i64 tx] 3)).alloc (.cells #[.int .i64 mode] 3)) (w.heap.size + 1) 3 #[.int .i64 mode] := by
    have := Blk.new (w.alloc (.cells #[.int .i64 tx] 3)) 3 #[.int .i64 mode]
    simpa using this
  have hz1 : w.heap.size + 2 = ((w.alloc (.cells #[.int .i64 tx] 3)).alloc (.cells #[.int .i64 mode] 3)).heap.size := by simp
  have hgl := hblk.lt
  have hcar : ∀ w', Below (w.heap.size + 2) ((w.alloc (.cells #[.int .i64 tx] 3)).alloc (.cells #[.int .i64 mode] 3)) w' →
      w'.cell? ⟨g, 0, none⟩ = some (.map (some hb)) ∧ w'.cell? ⟨w.heap.size, 0, none⟩ = some (.int .i64 tx) ∧ w'.cell? ⟨w.heap.size + 1, 0, none⟩ = some (.int .i64 mode) ∧ MapG kI w' hb n (hM h) := fun w' hb' => by
    have c0 := (((hblk.below hb1 hgl).below hb' (by omega)).cell 0)
    have c1 := ((hB1.below hb' (by omega)).cell 0)
    have c2 := ((hB2.below hb' (by omega)).cell 0)
    exact ⟨c0, c1, c2, (hm.below hb1 hm.lt).below hb' (by have := hm.lt; omega)⟩
  have hft := fun w' (hb' : Below w.heap.size w w') => fits_any g hb n V h tx mode w' (hblk.below hb' hgl) (hm.below hb' hm.lt) hok
  have hall : ∀ w', Below (w.heap.size + 2) ((w.alloc (.cells #[.int .i64 tx] 3)).alloc (.cells #[.int .i64 mode] 3)) w' → Below w.heap.size w w' := fun w' hb' => hb1.trans (hb'.mono (by omega))
  have hct := fun w' (hb' : Below (w.heap.size + 2) ((w.alloc (.cells #[.int .i64 tx] 3)).alloc (.cells #[.int .i64 mode] 3)) w') => wcontains_any 37 #[.pointer (some ⟨w.heap.size, 0, none⟩), .pointer (some ⟨w.heap.size + 1, 0, none⟩)] (elP tx mode) A nn kk ws w' (enters_w Tryz.func37 (by kernel_rfl) rfl)
      (free1_any w.heap.size (w.heap.size + 1) tx mode w' (hcar w' hb').2.1 (hcar w' hb').2.2.1) ((hr.below (hall w' hb')).more (hall w' hb').size) hl hn
  have HCAR := Lib.hid hcar; clear hcar
  have HFT := Lib.hid hft; clear hft
  have HCT := Lib.hid hct; clear hct
  have HALL := Lib.hid hall; clear hall
  have HTX := Lib.hid htx; clear htx
  clear hblk hm hok hr hB1 hB2 hgl
  have HB0 := Lib.hid (Below.refl (w.heap.size + 2) ((w.alloc (.cells #[.int .i64 tx] 3)).alloc (.cells #[.int .i64 mode] 3)))
  by_cases h1 : mode ≤ holdK h tx
  · have d1 : decide (mode ≤ holdK h tx) = true := decide_eq_true h1
    have HF := Lib.hid (freeB_true.2 (show FreeK h tx mode ws from .inl h1)); clear h1
    go_enter Tryz.func22, Tryz.ntmps22
    go_upto_region 1 with (fail)
    have HZ := Lib.hid hz1; clear hb1 hz1
    generalize (w.alloc (.cells #[.int .i64 tx] 3)).alloc (.cells #[.int .i64 mode] 3) = w1 at *
    refine wp_region_any (by kernel_rfl) ?_
    change wpAny _ _ _ _ _ _ _ (World.drew _)
    refine nplain (fun w' => w'.cell? ⟨g, 0, none⟩ = some (.map (some hb)) ∧ w'.cell? ⟨w.heap.size, 0, none⟩ = some (.int .i64 tx) ∧ w'.cell? ⟨w.heap.size + 1, 0, none⟩ = some (.int .i64 mode) ∧ MapG kI w' hb n (hM h)) 21 ?_
    have HCC := HCAR.out w1.drew HB0.out.drew
    refine ntake 0 rfl (by kernel_rfl) (by kernel_rfl) (by kernel_rfl) (by kernel_rfl) (fun _ _ _ h => h) (by kernel_rfl) HCC (fun w' hw' => by go_simp; rfl) ?_
    refine ntake 1 rfl (by kernel_rfl) (by kernel_rfl) (by kernel_rfl) (by kernel_rfl) (fun _ _ _ h => h) (by kernel_rfl) HCC (fun w' hw' => by go_simp; rfl) ?_
    refine ntake 2 rfl (by kernel_rfl) (by kernel_rfl) (by kernel_rfl) (by kernel_rfl) (fun _ _ _ h => h) (by kernel_rfl) HCC (fun w' hw' => by go_simp; rfl) ?_
    refine ntake 3 rfl (by kernel_rfl) (by kernel_rfl) (by kernel_rfl) (by kernel_rfl) (fun _ _ _ h => h) (by kernel_rfl) HCC (fun w' hw' => by obtain ⟨h0, h1, h2, h3⟩ := hw'; go_simp; rfl) ?_
    refine ntake 4 rfl (by kernel_rfl) (by kernel_rfl) (by kernel_rfl) (by kernel_rfl) (fun _ _ _ h => h) (by kernel_rfl) HCC (fun w' hw' => by obtain ⟨h0, h1, h2, h3⟩ := hw'; go_simp; rfl) ?_
    refine ntake 5 rfl (by kernel_rfl) (by kernel_rfl) (by kernel_rfl) (by kernel_rfl) (fun _ _ _ h => h) (by kernel_rfl) HCC (fun w' hw' => by obtain ⟨h0, h1, h2, h3⟩ := hw'; have hlk := hM_look h3 HTX.out; go_simp; rfl) ?_
    refine ntake 6 rfl (by kernel_rfl) (by kernel_rfl) (by kernel_rfl) (by kernel_rfl) (fun _ _ _ h => h) (by kernel_rfl) HCC (fun w' hw' => by obtain ⟨h0, h1, h2, h3⟩ := hw'; go_simp; rfl) ?_
    refine ntake 7 rfl (by kernel_rfl) (by kernel_rfl) (by kernel_rfl) (by kernel_rfl) (fun _ _ _ h => h) (by kernel_rfl) HCC (fun w' hw' => by go_simp; rfl) ?_
    refine ntake 8 rfl (by kernel_rfl) (by kernel_rfl) (by kernel_rfl) (by kernel_rfl) (fun _ _ _ h => h) (by kernel_rfl) HCC (fun w' hw' => by go_simp; rfl) ?_
    refine nskip 9 rfl (by kernel_rfl) (by kernel_rfl) (by kernel_rfl) (by kernel_rfl) (fun _ _ _ h => h) (by kernel_rfl) HCC ?_
    refine nskip 10 rfl (by kernel_rfl) (by kernel_rfl) (by kernel_rfl) (by kernel_rfl) (fun _ _ _ h => h) (by kernel_rfl) HCC ?_
    refine nskip 11 rfl (by kernel_rfl) (by kernel_rfl) (by kernel_rfl) (by kernel_rfl) (fun _ _ _ h => h) (by kernel_rfl) HCC ?_
    refine nskip 12 rfl (by kernel_rfl) (by kernel_rfl) (by kernel_rfl) (by kernel_rfl) (fun _ _ _ h => h) (by kernel_rfl) HCC ?_
    refine nskip 13 rfl (by kernel_rfl) (by kernel_rfl) (by kernel_rfl) (by kernel_rfl) (fun _ _ _ h => h) (by kernel_rfl) HCC ?_
    refine nskip 14 rfl (by kernel_rfl) (by kernel_rfl) (by kernel_rfl) (by kernel_rfl) (fun _ _ _ h => h) (by kernel_rfl) HCC ?_
    refine nskip 15 rfl (by kernel_rfl) (by kernel_rfl) (by kernel_rfl) (by kernel_rfl) (fun _ _ _ h => h) (by kernel_rfl) HCC ?_
    refine nskip 16 rfl (by kernel_rfl) (by kernel_rfl) (by kernel_rfl) (by kernel_rfl) (fun _ _ _ h => h) (by kernel_rfl) HCC ?_
    refine nskip 17 rfl (by kernel_rfl) (by kernel_rfl) (by kernel_rfl) (by kernel_rfl) (fun _ _ _ h => h) (by kernel_rfl) HCC ?_
    refine nskip 18 rfl (by kernel_rfl) (by kernel_rfl) (by kernel_rfl) (by kernel_rfl) (fun _ _ _ h => h) (by kernel_rfl) HCC ?_
    refine ntake 19 rfl (by kernel_rfl) (by kernel_rfl) (by kernel_rfl) (by kernel_rfl) (fun _ _ _ h => h) (by kernel_rfl) HCC (fun w' hw' => by go_simp; rfl) ?_
    refine nonly 20 (by kernel_rfl) rfl (by kernel_rfl) (fun K hK => ?_)
    go_simp
    refine hK _ _ (fun _ => HCC) ?_
    clear hK K
    refine ndone (by kernel_rfl) ?_ _
    clear HCC
    go_wp2_with fail
    go_ret
    rw [HF.out]
    exact ⟨rfl, HALL.out _ HB0.out.drew⟩
  · have d1 : decide (mode ≤ holdK h tx) = false := decide_eq_false h1
    have HN := Lib.hid h1; clear h1
    go_enter Tryz.func22, Tryz.ntmps22
    go_upto_region 1 with (fail)
    have HZ := Lib.hid hz1; clear hb1 hz1
    generalize (w.alloc (.cells #[.int .i64 tx] 3)).alloc (.cells #[.int .i64 mode] 3) = w1 at *
    refine wp_region_any (by kernel_rfl) ?_
    change wpAny _ _ _ _ _ _ _ (World.drew _)
    refine nplain (fun w' => w'.cell? ⟨g, 0, none⟩ = some (.map (some hb)) ∧ w'.cell? ⟨w.heap.size, 0, none⟩ = some (.int .i64 tx) ∧ w'.cell? ⟨w.heap.size + 1, 0, none⟩ = some (.int .i64 mode) ∧ MapG kI w' hb n (hM h)) 21 ?_
    have HCC := HCAR.out w1.drew HB0.out.drew
    refine ntake 0 rfl (by kernel_rfl) (by kernel_rfl) (by kernel_rfl) (by kernel_rfl) (fun _ _ _ h => h) (by kernel_rfl) HCC (fun w' hw' => by go_simp; rfl) ?_
    refine ntake 1 rfl (by kernel_rfl) (by kernel_rfl) (by kernel_rfl) (by kernel_rfl) (fun _ _ _ h => h) (by kernel_rfl) HCC (fun w' hw' => by go_simp; rfl) ?_
    refine ntake 2 rfl (by kernel_rfl) (by kernel_rfl) (by kernel_rfl) (by kernel_rfl) (fun _ _ _ h => h) (by kernel_rfl) HCC (fun w' hw' => by go_simp; rfl) ?_
    refine ntake 3 rfl (by kernel_rfl) (by kernel_rfl) (by kernel_rfl) (by kernel_rfl) (fun _ _ _ h => h) (by kernel_rfl) HCC (fun w' hw' => by obtain ⟨h0, h1, h2, h3⟩ := hw'; go_simp; rfl) ?_
    refine ntake 4 rfl (by kernel_rfl) (by kernel_rfl) (by kernel_rfl) (by kernel_rfl) (fun _ _ _ h => h) (by kernel_rfl) HCC (fun w' hw' => by obtain ⟨h0, h1, h2, h3⟩ := hw'; go_simp; rfl) ?_
    refine ntake 5 rfl (by kernel_rfl) (by kernel_rfl) (by kernel_rfl) (by kernel_rfl) (fun _ _ _ h => h) (by kernel_rfl) HCC (fun w' hw' => by obtain ⟨h0, h1, h2, h3⟩ := hw'; have hlk := hM_look h3 HTX.out; go_simp; rfl) ?_
    refine ntake 6 rfl (by kernel_rfl) (by kernel_rfl) (by kernel_rfl) (by kernel_rfl) (fun _ _ _ h => h) (by kernel_rfl) HCC (fun w' hw' => by obtain ⟨h0, h1, h2, h3⟩ := hw'; go_simp; rfl) ?_
    refine ntake 7 rfl (by kernel_rfl) (by kernel_rfl) (by kernel_rfl) (by kernel_rfl) (fun _ _ _ h => h) (by kernel_rfl) HCC (fun w' hw' => by go_simp; rfl) ?_
    refine ntake 8 rfl (by kernel_rfl) (by kernel_rfl) (by kernel_rfl) (by kernel_rfl) (fun _ _ _ h => h) (by kernel_rfl) HCC (fun w' hw' => by go_simp; rfl) ?_
    refine ntake 9 rfl (by kernel_rfl) (by kernel_rfl) (by kernel_rfl) (by kernel_rfl) (fun _ _ _ h => h) (by kernel_rfl) HCC (fun w' hw' => by go_simp; rfl) ?_
    refine ntake 10 rfl (by kernel_rfl) (by kernel_rfl) (by kernel_rfl) (by kernel_rfl) (fun _ _ _ h => h) (by kernel_rfl) HCC (fun w' hw' => by obtain ⟨h0, h1, h2, h3⟩ := hw'; go_simp; rfl) ?_
    refine ntake 11 rfl (by kernel_rfl) (by kernel_rfl) (by kernel_rfl) (by kernel_rfl) (fun _ _ _ h => h) (by kernel_rfl) HCC (fun w' hw' => by obtain ⟨h0, h1, h2, h3⟩ := hw'; go_simp; rfl) ?_
    refine nonly 12 (by kernel_rfl) rfl (by kernel_rfl) (fun K hK => ?_)
    go_simp
    refine (HFT.out w1.drew (HALL.out _ HB0.out.drew)).mono ?_
    rintro e w2 ⟨b, rfl, hbt, hb2⟩
    have hB2 : Below (w.heap.size + 2) w1 w2 := HB0.out.drew.trans (hb2.mono (by have := HZ.out; simp; omega))
    have HCC2 := HCAR.out w2 hB2
    have HB2 := Lib.hid hB2; clear hB2 hb2
    have HBT := Lib.hid hbt; clear hbt
    go_simp
    refine hK _ _ (fun _ => HCC2) ?_
    clear hK K HCC
    have HCC := HCC2
    clear HCC2
    rcases b with _ | _
    · have HF : Hid (freeB h tx mode ws = false) := Lib.hid (freeB_false.2 (fun hf => by
        rcases hf with hf | hf
        · exact HN.out hf
        · exact absurd (HBT.out.2 hf.1) (by simp)))
      refine ntake 13 rfl (by kernel_rfl) (by kernel_rfl) (by kernel_rfl) (by kernel_rfl) (fun _ _ _ h => h) (by kernel_rfl) HCC (fun w' hw' => by go_simp; rfl) ?_
      refine nskip 14 rfl (by kernel_rfl) (by kernel_rfl) (by kernel_rfl) (by kernel_rfl) (fun _ _ _ h => h) (by kernel_rfl) HCC ?_
      refine nskip 15 rfl (by kernel_rfl) (by kernel_rfl) (by kernel_rfl) (by kernel_rfl) (fun _ _ _ h => h) (by kernel_rfl) HCC ?_
      refine nskip 16 rfl (by kernel_rfl) (by kernel_rfl) (by kernel_rfl) (by kernel_rfl) (fun _ _ _ h => h) (by kernel_rfl) HCC ?_
      refine nskip 17 rfl (by kernel_rfl) (by kernel_rfl) (by kernel_rfl) (by kernel_rfl) (fun _ _ _ h => h) (by kernel_rfl) HCC ?_
      refine ntake 18 rfl (by kernel_rfl) (by kernel_rfl) (by kernel_rfl) (by kernel_rfl) (fun _ _ _ h => h) (by kernel_rfl) HCC (fun w' hw' => by go_simp; rfl) ?_
      refine ntake 19 rfl (by kernel_rfl) (by kernel_rfl) (by kernel_rfl) (by kernel_rfl) (fun _ _ _ h => h) (by kernel_rfl) HCC (fun w' hw' => by go_simp; rfl) ?_
      refine nonly 20 (by kernel_rfl) rfl (by kernel_rfl) (fun K hK => ?_)
      go_simp
      refine hK _ _ (fun _ => HCC) ?_
      clear hK K
      refine ndone (by kernel_rfl) ?_ _
      clear HCC
      go_wp2_with fail
      go_ret
      rw [HF.out]
      exact ⟨rfl, HALL.out _ HB2.out⟩
    · have hF : freeB h tx mode ws = !(ws.any (elP tx mode)) := by
        rw [Bool.eq_iff_iff, freeB_true]
        have hfit := HBT.out.1 rfl
        have hnn := HN.out
        have hbb := behind_el ws tx mode
        unfold FreeK
        rw [hbb]
        cases ws.any (elP tx mode) <;> simp [hfit, hnn]
      have HF := Lib.hid hF; clear hF
      refine ntake 13 rfl (by kernel_rfl) (by kernel_rfl) (by kernel_rfl) (by kernel_rfl) (fun _ _ _ h => h) (by kernel_rfl) HCC (fun w' hw' => by go_simp; rfl) ?_
      refine ntake 14 rfl (by kernel_rfl) (by kernel_rfl) (by kernel_rfl) (by kernel_rfl) (fun _ _ _ h => h) (by kernel_rfl) HCC (fun w' hw' => by go_simp; rfl) ?_
      refine ntake 15 rfl (by kernel_rfl) (by kernel_rfl) (by kernel_rfl) (by kernel_rfl) (fun _ _ _ h => h) (by kernel_rfl) HCC (fun w' hw' => by go_simp; rfl) ?_
      refine nonly 16 (by kernel_rfl) rfl (by kernel_rfl) (fun K hK => ?_)
      go_simp
      refine (HCT.out w2 HB2.out).mono ?_
      rintro e w3 ⟨rfl, hb3⟩
      have hB3 : Below (w.heap.size + 2) w1 w3 := HB2.out.trans (hb3.mono (by have := HB2.out.size; have := HZ.out; omega))
      have HCC3 := HCAR.out w3 hB3
      have HB3 := Lib.hid hB3; clear hB3 hb3
      go_simp
      refine hK _ _ (fun _ => HCC3) ?_
      clear hK K HCC
      have HCC := HCC3
      clear HCC3
      have hFb : freeB h tx mode ws = !(ws.any (elP tx mode)) := HF.out
      generalize ws.any (elP tx mode) = q at hFb ⊢
      have HFB := Lib.hid hFb; clear hFb
      refine ntake 17 rfl (by kernel_rfl) (by kernel_rfl) (by kernel_rfl) (by kernel_rfl) (fun _ _ _ h => h) (by kernel_rfl) HCC (fun w' hw' => by go_simp; rfl) ?_
      refine ntake 18 rfl (by kernel_rfl) (by kernel_rfl) (by kernel_rfl) (by kernel_rfl) (fun _ _ _ h => h) (by kernel_rfl) HCC (fun w' hw' => by go_simp; rfl) ?_
      refine ntake 19 rfl (by kernel_rfl) (by kernel_rfl) (by kernel_rfl) (by kernel_rfl) (fun _ _ _ h => h) (by kernel_rfl) HCC (fun w' hw' => by go_simp; rfl) ?_
      refine nonly 20 (by kernel_rfl) rfl (by kernel_rfl) (fun K hK => ?_)
      go_simp
      refine hK _ _ (fun _ => HCC) ?_
      clear hK K
      refine ndone (by kernel_rfl) ?_ _
      clear HCC
      go_wp2_with fail
      go_ret
      rw [HFB.out]
      exact ⟨rfl, HALL.out _ HB3.out⟩
end Go.Proofs.YtopmehbncidpnaaGreatDoor
