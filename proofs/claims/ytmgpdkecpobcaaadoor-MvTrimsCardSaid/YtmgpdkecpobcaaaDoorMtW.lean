/- chainmailkeep.MvTrims: the walk. -/
import Derived.Test.YtmgpdkecpobcaaaDoorMt1
namespace Go.Proofs.YtmgpdkecpobcaaaDoor
open Go.RowKit Go.Maps Go.WideMaps
def SnRel (W : World) (L : List SeX) (n : Nat) (v : Value) (wr : World) : Prop := ∃ (i : Nat) (m : {v : Value // (keyOf Tryd.prog 31 v).isSome} → Option Value), v = .int .i64 i ∧ i ≤ n ∧ MapG setC wr (W.heap.size + 2) i m ∧ SeenM (L.take i) m ∧
  Blk wr W.heap.size 25 #[.map none, .int .i64 0] ∧ Blk wr (W.heap.size + 1) 25 #[.map none, .int .i64 0] ∧ Below W.heap.size W wr
def PtRel (W : World) (L : List SeX) (n : Nat) (v : Value) (wr : World) : Prop := ∃ (i : Nat) (ma mb : Option Nat) (la lb : Sx → Value) (A B : Kp), v = .int .i64 i ∧ i ≤ n ∧ MtI wr W.heap.size i W.heap.size (W.heap.size + 1) ma mb la lb A B 0 ∧
  PutR ((L.take i).map rxOf) A ∧ PutR ((L.reverse.take i).map rxOf) B ∧ Below W.heap.size W wr
def CmpRel (n : Nat) (w : World) (v : Value) (wr : World) : Prop := ∃ j : Nat, v = .int .i64 j ∧ j ≤ n ∧ Below w.heap.size w wr
theorem seen_at {w : World} {b n : Nat} {m} (h : MapG setC w b n m) {x : SeX} (y : {v : Value // (keyOf Tryd.prog 31 v).isSome}) (hy : y.1 = kvV x) :
    (Instr.lookup 26 (.map (some b)) (.agg #[.int .i64 (pickN x.tt 50 : Nat), .string x.key, .string ⟨#[]⟩, .bool false]) false).run Tryd.prog w = .ok ((m y).getD (.bool false)) w := by
  have hz : (zeroValue 4).run Tryd.prog w = .ok (.bool false) w := by kernel_rfl
  have := (h.look Tryd.underlying26 hz (x := y) trivial).2
  rw [show setC.val y = y.1 from rfl, hy] at this
  exact this
theorem sn_start (W : World) : SnRel W [] 0 (.int .i64 (0 : Nat)) (((W.alloc (.cells #[.map none, .int .i64 0] 25)).alloc (.cells #[.map none, .int .i64 0] 25)).alloc (.map #[] 0)) := by
  refine ⟨0, fun _ => none, rfl, Nat.le_refl _, ?_, SeenM.nil, ?_, ?_, ((Below.refl _ _).alloc (Nat.le_refl _) _).alloc (by simp) _ |>.alloc (by simp; omega) _⟩
  · have := MapG.made setC ((W.alloc (.cells #[.map none, .int .i64 0] 25)).alloc (.cells #[.map none, .int .i64 0] 25))
    simpa using this
  · exact ((Blk.new W _ _).alloc _).alloc _
  · have := (Blk.new (W.alloc (.cells #[.map none, .int .i64 0] 25)) 25 #[.map none, .int .i64 0]).alloc (.map #[] 0)
    simpa using this
theorem sn_zero {W wr : World} (h : SnRel W [] 0 (.int .i64 (0 : Nat)) wr) (L : List SeX) (n : Nat) : SnRel W L n (.int .i64 (0 : Nat)) wr := by
  obtain ⟨i, m, e, hi, h1, h2, h3⟩ := h
  obtain rfl : i = 0 := by omega
  exact ⟨0, m, e, by omega, h1, by simpa using h2, h3⟩
theorem blk_new2 (w : World) (o : Obj) (t : TypeId) (cs : Array Value) : Blk ((w.alloc o).alloc (.cells cs t)).drew (w.heap.size + 1) t cs := by
  have := Blk.new (w.alloc o) t cs
  rw [show (w.alloc o).heap.size = w.heap.size + 1 by simp] at this
  exact this
theorem st_row {w w' : World} {base n g : Nat} {mb : Option Nat} {loc : Sx → Value} {K : Kp} {low : Int} (m : StI w base n g mb loc K low) {base' size k : Nat} {e : TypeId} {v : Value} {xs : List Value} (h : w.ownsRow base' e size v k xs) (h1 : e ≠ 25) (h2 : e ≠ 67) (hf : Fr (SFr g mb loc K) w w') : w'.ownsRow base' e size v k xs :=
  hf.own h (fun b hb hs => by
    rcases h.2 with ⟨rfl, _⟩ | ⟨g1, cap, cur, rfl, _, hh, _⟩
    · cases hb
    · have hb' : g1 = b := by injection hb
      subst hb'
      exact m.notBlk (show Blk w g1 e cur from hh) h1 h2 hs)
theorem at_len (K : Kp) (ks : List Sx) (t : Int) : (atK K ks t).length ≤ ks.length := List.length_filterMap_le _ _
theorem take_apart {L : List SeX} (hd : L.Pairwise (fun a b => kvV a ≠ kvV b)) {j : Nat} {x : SeX} (hx : L[j]? = some x) : ∀ q ∈ (L.take j).map rxOf, ¬ (q.key = (rxOf x).key ∧ q.t = (rxOf x).t) := by
  intro q hq
  obtain ⟨a, ha, rfl⟩ := List.mem_map.1 hq
  have h1 : (L.take (j + 1)).Pairwise (fun a b => kvV a ≠ kvV b) := hd.sublist (List.take_sublist _ _)
  rw [List.take_add_one, hx] at h1
  exact kv_ne ((List.pairwise_append.1 h1).2.2 a ha x (by simp))
theorem pt_step {L : List SeX} {K : Kp} {j : Nat} {t : Int} {s v : ByteArray} {b : Bool} (hd : L.Pairwise (fun a b => kvV a ≠ kvV b)) (p : PutR ((L.take j).map rxOf) K) (hx : L[j]? = some ⟨t, s, v, b⟩) :
    PutR ((L.take (j + 1)).map rxOf) (putS K 0 ⟨sx s, sx v, b, (pickN t 50 : Nat)⟩).2 := by
  have h1 := put_step p (take_apart hd hx) (by unfold rxOf; simp) (by have := pickN_lt t (n := 50) (by omega); unfold rxOf; simp only; omega)
  rw [List.take_add_one, hx, List.map_append]
  exact h1
set_option maxRecDepth 100000 in
set_option maxHeartbeats 40000000 in
theorem mvTrims_walk (L : List SeX) (n kc : Nat) (A : Option Addr) (tz ask : Int) (W : World) (hr : Rd W W.heap.size 4 A n (L.flatMap sxCells)) (hl : L.length = n) (hok : ∀ x ∈ L, SxOk x) (hld : Laid W) :
    Calls Tryd.prog 3 #[.slice A n kc, .int .i64 tz, .int .i64 ask] W fun e w' => e = .returned (.bool true) ∧ Below W.heap.size W w' := by
  have HR := Lib.hid hr; clear hr
  have HOK := Lib.hid hok; clear hok
  have HLD := Lib.hid hld; clear hld
  by_cases h60 : (n : Int) > 60
  · go_enter Tryd.func3, Tryd.ntmps3
    go_wp2_with fail
    go_ret
    exact ⟨rfl, Below.refl _ _⟩
  have HST := Lib.hid (sn_zero (sn_start W) L n)
  have hmm := @run_makeMap Tryd.prog
  go_enter Tryd.func3, Tryd.ntmps3
  go_wp2_with fail
  clear hmm
  go_loopw [10] (SnRel W L n) (fun v _ => n - (intOf v).toNat)
  case atStart => exact HST.out
  case round =>
    clear HST
    obtain ⟨i, m, rfl, hi, hmap, hseen, hba, hbb, hB⟩ := hrel
    by_cases hlt : (i : Int) < n
    · --{one
      obtain ⟨gA, oA, x, rfl, hgA, hx, c0, c1, c2, c3⟩ := (HR.out.below hB).cellsSx hl (j := i) (by omega)
      have hgw : gA < wr.heap.size := Nat.lt_of_lt_of_le hgA hB.size
      have hxo := HOK.out x (List.mem_of_getElem? hx)
      obtain ⟨tt, key, val, gone⟩ := x
      simp only at c0 c1
      have hcar : ∀ W', Below wr.heap.size wr W' → W'.cell? ⟨gA, oA + i * 4, none⟩ = some (.int .i64 tt) ∧ W'.cell? ⟨gA, oA + i * 4 + 1, none⟩ = some (.string key) := fun W' hW => ⟨(hW.cell (p := ⟨gA, oA + i * 4, none⟩) hgw).trans c0, (hW.cell (p := ⟨gA, oA + i * 4 + 1, none⟩) hgw).trans c1⟩
      have HX := Lib.hid hx; clear hx
      have HXO := Lib.hid hxo; clear hxo
      have HCAR := Lib.hid hcar; clear hcar c2 c3
      have HMAP := Lib.hid hmap; clear hmap
      have HSEEN := Lib.hid hseen; clear hseen
      have HBA := Lib.hid hba; clear hba
      have HBB := Lib.hid hbb; clear hbb
      have HB := Lib.hid hB; clear hB
      have HPK := Lib.hid (fun w => pick_any tt 50 (by omega) (by omega) w)
      generalize hpk : pickN tt 50 = pk at *
      go_upto_region 8 with (fail)
      clear c0 c1
      go_cut [11] (fun v11 wx => ∃ g, v11 = .pointer (some ⟨g, 0, none⟩) ∧ wr.heap.size ≤ g ∧ Blk wx g 31 #[.int .i64 pk, .string key, .string ⟨#[]⟩, .bool false] ∧ Below wr.heap.size wr wx)
      case first =>
        refine wp_region_any (by kernel_rfl) ?_
        change wpAny _ _ _ _ _ _ _ (World.drew _)
        refine nplainQ (fun w' => w'.cell? ⟨gA, oA + i * 4, none⟩ = some (.int .i64 tt) ∧ w'.cell? ⟨gA, oA + i * 4 + 1, none⟩ = some (.string key)) 15 (fun _ _ _ _ _ h => h) (fun HQP => ?_)
        have HCC := HCAR.out wr.drew (Below.refl _ _).drew
        refine ntakeW 0 rfl rfl (by kernel_rfl) (by kernel_rfl) (by kernel_rfl) (by kernel_rfl) (fun _ _ _ h => HQP _ _ _ _ _ h) (by kernel_rfl) HCC (fun w' hw' => by go_simp; rfl) ?_
        refine ntakeW 1 rfl rfl (by kernel_rfl) (by kernel_rfl) (by kernel_rfl) (by kernel_rfl) (fun _ _ _ h => HQP _ _ _ _ _ h) (by kernel_rfl) HCC (fun w' hw' => by go_simp; rfl) ?_
        refine ntakeW 2 rfl rfl (by kernel_rfl) (by kernel_rfl) (by kernel_rfl) (by kernel_rfl) (fun _ _ _ h => HQP _ _ _ _ _ h) (by kernel_rfl) HCC (fun w' hw' => by go_simp; rfl) ?_
        refine ntakeW 3 rfl rfl (by kernel_rfl) (by kernel_rfl) (by kernel_rfl) (by kernel_rfl) (fun _ _ _ h => HQP _ _ _ _ _ h) (by kernel_rfl) HCC (fun w' hw' => by go_simp; rfl) ?_
        refine ntakeW 4 rfl rfl (by kernel_rfl) (by kernel_rfl) (by kernel_rfl) (by kernel_rfl) (fun _ _ _ h => HQP _ _ _ _ _ h) (by kernel_rfl) HCC (fun w' hw' => by obtain ⟨q0, q1⟩ := hw'; go_simp; rfl) ?_
        refine ntakeW 6 rfl rfl (by kernel_rfl) (by kernel_rfl) (by kernel_rfl) (by kernel_rfl) (fun _ _ _ h => HQP _ _ _ _ _ h) (by kernel_rfl) HCC (fun w' hw' => by go_simp; rfl) ?_
        refine ntakeW 7 rfl rfl (by kernel_rfl) (by kernel_rfl) (by kernel_rfl) (by kernel_rfl) (fun _ _ _ h => HQP _ _ _ _ _ h) (by kernel_rfl) HCC (fun w' hw' => by go_simp; rfl) ?_
        refine ntakeW 8 rfl rfl (by kernel_rfl) (by kernel_rfl) (by kernel_rfl) (by kernel_rfl) (fun _ _ _ h => HQP _ _ _ _ _ h) (by kernel_rfl) HCC (fun w' hw' => by go_simp; rfl) ?_
        refine ntakeW 9 rfl rfl (by kernel_rfl) (by kernel_rfl) (by kernel_rfl) (by kernel_rfl) (fun _ _ _ h => HQP _ _ _ _ _ h) (by kernel_rfl) HCC (fun w' hw' => by go_simp; rfl) ?_
        refine ntakeW 10 rfl rfl (by kernel_rfl) (by kernel_rfl) (by kernel_rfl) (by kernel_rfl) (fun _ _ _ h => HQP _ _ _ _ _ h) (by kernel_rfl) HCC (fun w' hw' => by go_simp; rfl) ?_
        refine ntakeW 11 rfl rfl (by kernel_rfl) (by kernel_rfl) (by kernel_rfl) (by kernel_rfl) (fun _ _ _ h => HQP _ _ _ _ _ h) (by kernel_rfl) HCC (fun w' hw' => by obtain ⟨q0, q1⟩ := hw'; go_simp; rfl) ?_
        refine ntakeW 12 rfl rfl (by kernel_rfl) (by kernel_rfl) (by kernel_rfl) (by kernel_rfl) (fun _ _ _ h => HQP _ _ _ _ _ h) (by kernel_rfl) HCC (fun w' hw' => by go_simp; rfl) ?_
        refine ntwo 5 14 (by kernel_rfl) rfl rfl (by kernel_rfl) (by kernel_rfl) (fun KK hK => ?_) (fun KK hK => ?_)
        · go_simp
          refine (HPK.out _).mono ?_
          rintro e w2 ⟨rfl, rfl⟩
          go_simp
          refine hK _ _ (fun _ => HCC) ?_
          clear hK KK
          refine ntakeW 13 rfl rfl (by kernel_rfl) (by kernel_rfl) (by kernel_rfl) (by kernel_rfl) (fun _ _ _ h => HQP _ _ _ _ _ h) (by kernel_rfl) HCC (fun w' hw' => by go_simp; rfl) ?_
          refine nonly 14 (by kernel_rfl) rfl (by kernel_rfl) (fun KK hK => ?_)
          go_simp
          refine hK _ _ (fun _ => HCAR.out _ ((Below.refl _ _).drew.alloc (Nat.le_refl _) _)) ?_
          clear hK KK
          refine nonly 15 (by kernel_rfl) rfl (by kernel_rfl) (fun KK hK => ?_)
          go_simp
          refine hK _ _ (fun h => absurd h (by omega)) ?_
          clear hK KK
          refine ndone (by kernel_rfl) ?_ _
          go_wp2_with fail
          go_meet
          exact ⟨_, rfl, Nat.le_refl _, Blk.new wr _ _, ((Below.refl _ _).alloc (Nat.le_refl _) _).drew⟩
        · go_simp
          have HCC := HCAR.out _ ((Below.refl wr.heap.size wr).drew.alloc (Nat.le_refl _) (.cells #[.int .i64 0, .string ⟨#[]⟩, .string ⟨#[]⟩, .bool false] 31))
          refine hK _ _ (fun _ => HCC) ?_
          clear hK KK
          refine nonly 5 (by kernel_rfl) rfl (by kernel_rfl) (fun KK hK => ?_)
          go_simp
          refine (HPK.out _).mono ?_
          rintro e w2 ⟨rfl, rfl⟩
          go_simp
          refine hK _ _ (fun _ => HCC) ?_
          clear hK KK
          refine nonly 13 (by kernel_rfl) rfl (by kernel_rfl) (fun KK hK => ?_)
          go_simp
          refine hK _ _ (fun _ => HCC) ?_
          clear hK KK
          refine nonly 15 (by kernel_rfl) rfl (by kernel_rfl) (fun KK hK => ?_)
          go_simp
          refine hK _ _ (fun h => absurd h (by omega)) ?_
          clear hK KK
          refine ndone (by kernel_rfl) ?_ _
          go_wp2_with fail
          go_meet
          exact ⟨_, rfl, Nat.le_refl _, Blk.new wr _ _, ((Below.refl _ _).alloc (Nat.le_refl _) _).drew⟩
      case rest =>
        obtain ⟨g, rfl, hg, hbk, hb⟩ := hcut
        rename World => wx
        obtain ⟨y, hy⟩ : ∃ y : {v : Value // (keyOf Tryd.prog 31 v).isSome}, y.1 = .agg #[.int .i64 pk, .string key, .string ⟨#[]⟩, .bool false] := ⟨⟨kvV ⟨tt, key, val, gone⟩, kv_ok HXO.out⟩, by unfold kvV setV; simp only [hpk]⟩
        have hkv : y.1 = kvV ⟨tt, key, val, gone⟩ := by rw [hy]; unfold kvV setV; simp only [hpk]
        have hmap2 := HMAP.out.below hb HMAP.out.lt
        have hlk := seen_at hmap2 y hkv
        simp only [hpk] at hlk
        have hba2 := HBA.out.below hb HBA.out.lt
        have hbb2 := HBB.out.below hb HBB.out.lt
        have HB2 := Lib.hid (HB.out.trans (hb.mono HB.out.size))
        have k0 := hbk.cell 0
        have k1 := hbk.cell 1
        have k2 := hbk.cell 2
        have k3 := hbk.cell 3
        have kl := hbk.lt
        simp only [List.getElem?_toArray, List.getElem?_cons_zero, List.getElem?_cons_succ] at k0 k1 k2 k3
        rcases hm : m y with _ | v
        · rw [hm] at hlk
          simp only [Option.getD_none] at hlk
          have hsn := HSEEN.out.put (x := ⟨tt, key, val, gone⟩) y hkv hm
          have htk : L.take (i + 1) = L.take i ++ [⟨tt, key, val, gone⟩] := by rw [List.take_add_one, HX.out]; rfl
          rw [← htk] at hsn
          have HSN := Lib.hid hsn; clear hsn htk hm
          have HMAP2 := Lib.hid hmap2; clear hmap2
          have HBA2 := Lib.hid hba2; clear hba2
          have HBB2 := Lib.hid hbb2; clear hbb2
          have HY := Lib.hid hy; clear hy hkv
          have HBK := Lib.hid hbk; clear hbk hb
          go_wp2_with (at_mapUpdate; refine stop ?_)
          refine back ?_
          refine wpList_setG (C := setC) rfl 26 4 Tryd.underlying26 (.tmp 49) (.tmp 50) _ rfl rfl HMAP2.out (by unfold maxLen; omega) y (.bool true) (HY.out ▸ rfl) rfl trivial ?_
          intro w6 hm6 hf6
          have hfin : SnRel W L n (.int .i64 ((i + 1 : Nat) : Int)) w6 := ⟨i + 1, _, rfl, by omega, hm6, HSN.out, hf6.blk HBA2.out (by omega), hf6.blk HBB2.out (by omega), HB2.out.trans (hf6.below (fun k e => by omega) HB2.out.size)⟩
          have HF := Lib.hid hfin; clear hfin hm6 hf6 hlk k0 k1 k2 k3 kl
          go_wp2_with fail
          go_roundw
          case rel => exact HF.out
          case measure => simp [intOf]; omega
        · obtain rfl := HSEEN.out.1 y v hm
          rw [hm] at hlk
          simp only [Option.getD_some] at hlk
          clear hm hmap2 hba2 hbb2 hy hkv
          have HBK := Lib.hid hbk; clear hbk hb
          go_wp2_with fail
          go_ret
          exact ⟨rfl, HB2.out⟩
      --}one
    · --{fill
      have hin : i = n := by omega
      subst hin
      rw [show L.take i = L from by rw [← hl]; exact List.take_length] at hseen
      have HD := Lib.hid hseen.2.2
      have hst : PtRel W L i (.int .i64 (0 : Nat)) wr := ⟨0, none, none, fun _ => .slice none 0 0, fun _ => .slice none 0 0, fun _ => [], fun _ => [], rfl, Nat.zero_le _, ⟨st_new hba (Nat.le_refl _), st_new hbb (by omega), fun q h1 h2 => by have := sfr_new h1; have := sfr_new h2; omega⟩, by simpa using PutR.empty, by simpa using PutR.empty, hB⟩
      have HST := Lib.hid hst; clear hst hseen hmap hba hbb hB hlt hi
      go_wp2_with fail
      go_loopw [12] (PtRel W L i) (fun v _ => i - (intOf v).toNat)
      case atStart => exact HST.out
      case round =>
        clear HST
        rename World => wq
        obtain ⟨j, ma, mb, la, lb, KA, KB, rfl, hj, hM, hpa, hpb, hB⟩ := hrel
        by_cases hltj : (j : Int) < i
        · --{puts
          obtain ⟨gx, ox, x, rfl, hgx, hx, c0, c1, c2, c3⟩ := (HR.out.below hB).cellsSx hl (j := j) (by omega)
          obtain ⟨gy, oy, y, hA2, _, hy, d0, d1, d2, d3⟩ := (HR.out.below hB).cellsSx hl (j := i - 1 - j) (by omega)
          injection hA2 with hA2
          injection hA2 with h1 h2
          subst h1 h2
          have hgw : gx < wq.heap.size := Nat.lt_of_lt_of_le hgx hB.size
          generalize hk : i - 1 - j = k at *
          have hkz : (i : Int) - 1 - j = (k : Int) := by omega
          have hk0 : ¬ (k : Int) < 0 := by omega
          have hwk : IntKind.i64.wrap (IntKind.i64.wrap ((i : Int) - 1) - j) = (k : Int) := by
            rw [IntWalk.i64_in ((i : Int) - 1) ⟨by omega, by omega⟩, IntWalk.i64_in _ ⟨by omega, by omega⟩]
            exact hkz
          have hki : (k : Int) < i := by omega
          obtain ⟨t1, s1, v1, b1⟩ := x
          obtain ⟨t2, s2, v2, b2⟩ := y
          simp only at c0 c1 c2 c3 d0 d1 d2 d3
          have HX := Lib.hid hx; clear hx
          have HY := Lib.hid hy; clear hy
          have hcar : ∀ W', Below wq.heap.size wq W' → W'.cell? ⟨gx, ox + j * 4, none⟩ = some (.int .i64 t1) ∧ W'.cell? ⟨gx, ox + j * 4 + 1, none⟩ = some (.string s1) ∧ W'.cell? ⟨gx, ox + j * 4 + 2, none⟩ = some (.string v1) ∧ W'.cell? ⟨gx, ox + j * 4 + 3, none⟩ = some (.bool b1) ∧
              W'.cell? ⟨gx, ox + k * 4, none⟩ = some (.int .i64 t2) ∧ W'.cell? ⟨gx, ox + k * 4 + 1, none⟩ = some (.string s2) ∧ W'.cell? ⟨gx, ox + k * 4 + 2, none⟩ = some (.string v2) ∧ W'.cell? ⟨gx, ox + k * 4 + 3, none⟩ = some (.bool b2) := fun W' hW =>
            ⟨(hW.cell (p := ⟨gx, ox + j * 4, none⟩) hgw).trans c0, (hW.cell (p := ⟨gx, ox + j * 4 + 1, none⟩) hgw).trans c1, (hW.cell (p := ⟨gx, ox + j * 4 + 2, none⟩) hgw).trans c2, (hW.cell (p := ⟨gx, ox + j * 4 + 3, none⟩) hgw).trans c3,
             (hW.cell (p := ⟨gx, ox + k * 4, none⟩) hgw).trans d0, (hW.cell (p := ⟨gx, ox + k * 4 + 1, none⟩) hgw).trans d1, (hW.cell (p := ⟨gx, ox + k * 4 + 2, none⟩) hgw).trans d2, (hW.cell (p := ⟨gx, ox + k * 4 + 3, none⟩) hgw).trans d3⟩
          have HCAR := Lib.hid hcar; clear hcar c0 c1 c2 c3 d0 d1 d2 d3
          have HM := Lib.hid hM; clear hM
          have HPA := Lib.hid hpa; clear hpa
          have HPB := Lib.hid hpb; clear hpb
          have HB := Lib.hid hB; clear hB
          go_upto_region 15 with (fail)
          go_cut [13, 14] (fun v13 v14 wx => ∃ g1 g2, v13 = .pointer (some ⟨g1, 0, none⟩) ∧ v14 = .pointer (some ⟨g2, 0, none⟩) ∧ wq.heap.size ≤ g1 ∧ wq.heap.size ≤ g2 ∧ Blk wx g1 31 #[.int .i64 t1, .string s1, .string v1, .bool b1] ∧
            Blk wx g2 31 #[.int .i64 t2, .string s2, .string v2, .bool b2] ∧ Below wq.heap.size wq wx)
          case first =>
            refine wp_region_any (by kernel_rfl) ?_
            change wpAny _ _ _ _ _ _ _ (World.drew _)
            refine nplainQ (fun W' => W'.cell? ⟨gx, ox + j * 4, none⟩ = some (.int .i64 t1) ∧ W'.cell? ⟨gx, ox + j * 4 + 1, none⟩ = some (.string s1) ∧ W'.cell? ⟨gx, ox + j * 4 + 2, none⟩ = some (.string v1) ∧ W'.cell? ⟨gx, ox + j * 4 + 3, none⟩ = some (.bool b1) ∧
              W'.cell? ⟨gx, ox + k * 4, none⟩ = some (.int .i64 t2) ∧ W'.cell? ⟨gx, ox + k * 4 + 1, none⟩ = some (.string s2) ∧ W'.cell? ⟨gx, ox + k * 4 + 2, none⟩ = some (.string v2) ∧ W'.cell? ⟨gx, ox + k * 4 + 3, none⟩ = some (.bool b2)) 15 (fun _ _ _ _ _ h => h) (fun HQP => ?_)
            have HCC := HCAR.out wq.drew (Below.refl _ _).drew
            refine ntakeW 0 rfl rfl (by kernel_rfl) (by kernel_rfl) (by kernel_rfl) (by kernel_rfl) (fun _ _ _ h => HQP _ _ _ _ _ h) (by kernel_rfl) HCC (fun w' hw' => by go_simp; rfl) ?_
            refine ntakeW 1 rfl rfl (by kernel_rfl) (by kernel_rfl) (by kernel_rfl) (by kernel_rfl) (fun _ _ _ h => HQP _ _ _ _ _ h) (by kernel_rfl) HCC (fun w' hw' => by go_simp; rfl) ?_
            refine ntakeW 2 rfl rfl (by kernel_rfl) (by kernel_rfl) (by kernel_rfl) (by kernel_rfl) (fun _ _ _ h => HQP _ _ _ _ _ h) (by kernel_rfl) HCC (fun w' hw' => by go_simp; rfl) ?_
            refine ntakeW 3 rfl rfl (by kernel_rfl) (by kernel_rfl) (by kernel_rfl) (by kernel_rfl) (fun _ _ _ h => HQP _ _ _ _ _ h) (by kernel_rfl) HCC (fun w' hw' => by obtain ⟨q0, q1, q2, q3, q4, q5, q6, q7⟩ := hw'; go_simp; rfl) ?_
            refine ntakeW 4 rfl rfl (by kernel_rfl) (by kernel_rfl) (by kernel_rfl) (by kernel_rfl) (fun _ _ _ h => HQP _ _ _ _ _ h) (by kernel_rfl) HCC (fun w' hw' => by go_simp; rfl) ?_
            refine ntakeW 5 rfl rfl (by kernel_rfl) (by kernel_rfl) (by kernel_rfl) (by kernel_rfl) (fun _ _ _ h => HQP _ _ _ _ _ h) (by kernel_rfl) HCC (fun w' hw' => by go_simp; rfl) ?_
            refine ntakeW 6 rfl rfl (by kernel_rfl) (by kernel_rfl) (by kernel_rfl) (by kernel_rfl) (fun _ _ _ h => HQP _ _ _ _ _ h) (by kernel_rfl) HCC (fun w' hw' => by go_simp; rfl) ?_
            refine ntakeW 7 rfl rfl (by kernel_rfl) (by kernel_rfl) (by kernel_rfl) (by kernel_rfl) (fun _ _ _ h => HQP _ _ _ _ _ h) (by kernel_rfl) HCC (fun w' hw' => by go_simp; rfl) ?_
            refine ntakeW 8 rfl rfl (by kernel_rfl) (by kernel_rfl) (by kernel_rfl) (by kernel_rfl) (fun _ _ _ h => HQP _ _ _ _ _ h) (by kernel_rfl) HCC (fun w' hw' => by go_simp; rfl) ?_
            refine ntakeW 9 (v := .int .i64 ((k : Nat) : Int)) rfl rfl (by kernel_rfl) (by kernel_rfl) (by kernel_rfl) (by kernel_rfl) (fun _ _ _ h => HQP _ _ _ _ _ h) (by kernel_rfl) HCC (fun w' hw' => by go_simp) ?_
            refine ntakeW 10 rfl rfl (by kernel_rfl) (by kernel_rfl) (by kernel_rfl) (by kernel_rfl) (fun _ _ _ h => HQP _ _ _ _ _ h) (by kernel_rfl) HCC (fun w' hw' => by go_simp; rfl) ?_
            refine ntakeW 11 rfl rfl (by kernel_rfl) (by kernel_rfl) (by kernel_rfl) (by kernel_rfl) (fun _ _ _ h => HQP _ _ _ _ _ h) (by kernel_rfl) HCC (fun w' hw' => by obtain ⟨q0, q1, q2, q3, q4, q5, q6, q7⟩ := hw'; go_simp; rfl) ?_
            refine ntwo 12 13 (by kernel_rfl) rfl rfl (by kernel_rfl) (by kernel_rfl) (fun KK hK => ?_) (fun KK hK => ?_)
            · go_simp
              refine hK _ _ (fun _ => HCAR.out _ ((Below.refl _ _).drew.alloc (Nat.le_refl _) _)) ?_
              clear hK KK
              refine nonly 13 (by kernel_rfl) rfl (by kernel_rfl) (fun KK hK => ?_)
              go_simp
              refine hK _ _ (fun _ => HCAR.out _ (((Below.refl _ _).drew.alloc (Nat.le_refl _) _).alloc (by simp) _)) ?_
              clear hK KK
              refine nonly 14 (by kernel_rfl) rfl (by kernel_rfl) (fun KK hK => ?_)
              go_simp
              refine hK _ _ (fun _ => HCAR.out _ (((Below.refl _ _).alloc (Nat.le_refl _) _).alloc (by simp) _).drew) ?_
              clear hK KK
              refine nonly 15 (by kernel_rfl) rfl (by kernel_rfl) (fun KK hK => ?_)
              go_simp
              refine hK _ _ (fun h => absurd h (by omega)) ?_
              clear hK KK
              refine ndone (by kernel_rfl) ?_ _
              go_wp2_with fail
              go_meet
              exact ⟨_, _, rfl, rfl, Nat.le_refl _, Nat.le_succ _, (Blk.new wq _ _).alloc _, blk_new2 _ _ _ _, (((Below.refl _ _).alloc (Nat.le_refl _) _).alloc (by simp) _).drew⟩
            · go_simp
              refine hK _ _ (fun _ => HCAR.out _ ((Below.refl _ _).drew.alloc (Nat.le_refl _) _)) ?_
              clear hK KK
              refine nonly 12 (by kernel_rfl) rfl (by kernel_rfl) (fun KK hK => ?_)
              go_simp
              refine hK _ _ (fun _ => HCAR.out _ (((Below.refl _ _).drew.alloc (Nat.le_refl _) _).alloc (by simp) _)) ?_
              clear hK KK
              refine nonly 14 (by kernel_rfl) rfl (by kernel_rfl) (fun KK hK => ?_)
              go_simp
              refine hK _ _ (fun _ => HCAR.out _ (((Below.refl _ _).alloc (Nat.le_refl _) _).alloc (by simp) _).drew) ?_
              clear hK KK
              refine nonly 15 (by kernel_rfl) rfl (by kernel_rfl) (fun KK hK => ?_)
              go_simp
              refine hK _ _ (fun h => absurd h (by omega)) ?_
              clear hK KK
              refine ndone (by kernel_rfl) ?_ _
              go_wp2_with fail
              go_meet
              exact ⟨_, _, rfl, rfl, Nat.le_succ _, Nat.le_refl _, blk_new2 _ _ _ _, (Blk.new wq _ _).alloc _, (((Below.refl _ _).alloc (Nat.le_refl _) _).alloc (by simp) _).drew⟩
          case rest =>
            obtain ⟨g1, g2, rfl, rfl, hg1, hg2, hk1, hk2, hb⟩ := hcut
            rename World => wx
            have HM1 := Lib.hid (HM.out.tall hb)
            have HB1 := Lib.hid (HB.out.trans (hb.mono HB.out.size))
            have HK1 := Lib.hid hk1; clear hk1
            have HK2 := Lib.hid hk2; clear hk2 hb
            have cells : ∀ (W' : World) (q : Nat) (t : Int) (s v : ByteArray) (b : Bool), Blk W' q 31 #[.int .i64 t, .string s, .string v, .bool b] → W'.cell? ⟨q, 0, none⟩ = some (.int .i64 t) ∧ W'.cell? ⟨q, 1, none⟩ = some (.string s) ∧ W'.cell? ⟨q, 2, none⟩ = some (.string v) ∧ W'.cell? ⟨q, 3, none⟩ = some (.bool b) := fun W' q t s v b hk => by
              have k0 := hk.cell 0
              have k1 := hk.cell 1
              have k2 := hk.cell 2
              have k3 := hk.cell 3
              simp only [List.getElem?_toArray, List.getElem?_cons_zero, List.getElem?_cons_succ] at k0 k1 k2 k3
              exact ⟨k0, k1, k2, k3⟩
            have CELLS := Lib.hid cells; clear cells
            have HP1 := Lib.hid (fun w => pick_any t1 50 (by omega) (by omega) w)
            have HP2 := Lib.hid (fun w => pick_any t2 50 (by omega) (by omega) w)
            have hpa2 := pt_step HD.out HPA.out HX.out
            have hpb2 := pt_step (List.pairwise_reverse.2 (HD.out.imp (fun {a b} h e => h e.symm))) HPB.out (show L.reverse[j]? = some ⟨t2, s2, v2, b2⟩ by rw [List.getElem?_reverse (by omega), hl, hk]; exact HY.out)
            have HPA2 := Lib.hid hpa2; clear hpa2
            have HPB2 := Lib.hid hpb2; clear hpb2
            have hq1 := pickN_lt t1 (n := 50) (by omega)
            have hq2 := pickN_lt t2 (n := 50) (by omega)
            generalize pickN t1 50 = p1 at *
            generalize pickN t2 50 = p2 at *
            have HPUT := Lib.hid (put_any W.heap.size j W.heap.size ma la KA 0 s1 v1 b1 p1 wx.drew (HM1.out.a.tall (Below.refl _ _).drew) (by omega))
            go_wp2_with fail
            refine wp_region_any (by kernel_rfl) ?_
            change wpAny _ _ _ _ _ _ _ (World.drew _)
            refine nplainQ (fun W' => W'.cell? ⟨g1, 0, none⟩ = some (.int .i64 t1) ∧ W'.cell? ⟨g1, 1, none⟩ = some (.string s1) ∧ W'.cell? ⟨g1, 2, none⟩ = some (.string v1) ∧ W'.cell? ⟨g1, 3, none⟩ = some (.bool b1)) 6 (fun _ _ _ _ _ h => h) (fun HQP => ?_)
            have HCC := CELLS.out wx.drew g1 t1 s1 v1 b1 HK1.out
            refine ntakeW 0 rfl rfl (by kernel_rfl) (by kernel_rfl) (by kernel_rfl) (by kernel_rfl) (fun _ _ _ h => HQP _ _ _ _ _ h) (by kernel_rfl) HCC (fun w' hw' => by go_simp; rfl) ?_
            refine ntakeW 1 rfl rfl (by kernel_rfl) (by kernel_rfl) (by kernel_rfl) (by kernel_rfl) (fun _ _ _ h => HQP _ _ _ _ _ h) (by kernel_rfl) HCC (fun w' hw' => by obtain ⟨q0, q1, q2, q3⟩ := hw'; go_simp; rfl) ?_
            refine ntakeW 3 rfl rfl (by kernel_rfl) (by kernel_rfl) (by kernel_rfl) (by kernel_rfl) (fun _ _ _ h => HQP _ _ _ _ _ h) (by kernel_rfl) HCC (fun w' hw' => by go_simp; rfl) ?_
            refine ntakeW 4 rfl rfl (by kernel_rfl) (by kernel_rfl) (by kernel_rfl) (by kernel_rfl) (fun _ _ _ h => HQP _ _ _ _ _ h) (by kernel_rfl) HCC (fun w' hw' => by obtain ⟨q0, q1, q2, q3⟩ := hw'; go_simp; rfl) ?_
            refine nonly 2 (by kernel_rfl) rfl (by kernel_rfl) (fun KK hK => ?_)
            go_simp
            refine (HP1.out _).mono ?_
            rintro e w2 ⟨rfl, rfl⟩
            go_simp
            refine hK _ _ (fun _ => HCC) ?_
            clear hK KK HCC
            refine nonly 5 (by kernel_rfl) rfl (by kernel_rfl) (fun KK hK => ?_)
            go_simp
            refine HPUT.out.mono ?_
            rintro e w3 ⟨rfl, ma2, la2, hI2, hf2, hft2⟩
            have hf2' : Fr (SFr W.heap.size ma la KA) wx w3 := (Fr.refl _ wx).drew.trans hf2
            have hk1' := hf2'.blk HK1.out (HM1.out.a.notBlk HK1.out (by decide) (by decide))
            have hk2' := hf2'.blk HK2.out (HM1.out.a.notBlk HK2.out (by decide) (by decide))
            have hsb := HM1.out.b.fr hf2' (fun q h1 h2 => HM1.out.dis q h2 h1)
            have HM2 := Lib.hid (HM1.out.stepA (n' := j + 1) (by omega) hI2 hf2' hft2)
            have HB2 := Lib.hid (HM1.out.belowA (Nat.le_refl _) HB1.out hf2')
            have HSB := Lib.hid hsb; clear hsb hI2 hf2 hf2' hft2 HPUT
            have HK3 := Lib.hid hk2'; clear hk2'
            have HCC := CELLS.out w3 g1 t1 s1 v1 b1 hk1'
            clear hk1'
            generalize erV (putS KA 0 ⟨sx s1, sx v1, b1, p1⟩).1 = er
            go_simp
            refine hK _ _ (fun _ => HCC) ?_
            clear hK KK
            refine ndone (by kernel_rfl) ?_ _
            clear HQP HCC
            have HPUT := Lib.hid (put_any W.heap.size j (W.heap.size + 1) mb lb KB 0 s2 v2 b2 p2 w3.drew (HSB.out.tall (Below.refl _ _).drew) (by omega))
            go_wp2_with fail
            refine wp_region_any (by kernel_rfl) ?_
            change wpAny _ _ _ _ _ _ _ (World.drew _)
            refine nplainQ (fun W' => W'.cell? ⟨g2, 0, none⟩ = some (.int .i64 t2) ∧ W'.cell? ⟨g2, 1, none⟩ = some (.string s2) ∧ W'.cell? ⟨g2, 2, none⟩ = some (.string v2) ∧ W'.cell? ⟨g2, 3, none⟩ = some (.bool b2)) 6 (fun _ _ _ _ _ h => h) (fun HQP => ?_)
            have HCC := CELLS.out w3.drew g2 t2 s2 v2 b2 HK3.out
            refine ntakeW 0 rfl rfl (by kernel_rfl) (by kernel_rfl) (by kernel_rfl) (by kernel_rfl) (fun _ _ _ h => HQP _ _ _ _ _ h) (by kernel_rfl) HCC (fun w' hw' => by go_simp; rfl) ?_
            refine ntakeW 1 rfl rfl (by kernel_rfl) (by kernel_rfl) (by kernel_rfl) (by kernel_rfl) (fun _ _ _ h => HQP _ _ _ _ _ h) (by kernel_rfl) HCC (fun w' hw' => by obtain ⟨q0, q1, q2, q3⟩ := hw'; go_simp; rfl) ?_
            refine ntakeW 3 rfl rfl (by kernel_rfl) (by kernel_rfl) (by kernel_rfl) (by kernel_rfl) (fun _ _ _ h => HQP _ _ _ _ _ h) (by kernel_rfl) HCC (fun w' hw' => by go_simp; rfl) ?_
            refine ntakeW 4 rfl rfl (by kernel_rfl) (by kernel_rfl) (by kernel_rfl) (by kernel_rfl) (fun _ _ _ h => HQP _ _ _ _ _ h) (by kernel_rfl) HCC (fun w' hw' => by obtain ⟨q0, q1, q2, q3⟩ := hw'; go_simp; rfl) ?_
            refine nonly 2 (by kernel_rfl) rfl (by kernel_rfl) (fun KK hK => ?_)
            go_simp
            refine (HP2.out _).mono ?_
            rintro e w4 ⟨rfl, rfl⟩
            go_simp
            refine hK _ _ (fun _ => HCC) ?_
            clear hK KK HCC
            refine nonly 5 (by kernel_rfl) rfl (by kernel_rfl) (fun KK hK => ?_)
            go_simp
            refine HPUT.out.mono ?_
            rintro e w5 ⟨rfl, mb2, lb2, hI3, hf3, hft3⟩
            have hf3' : Fr (SFr (W.heap.size + 1) mb lb KB) w3 w5 := (Fr.refl _ w3).drew.trans hf3
            have hk3' := hf3'.blk HK3.out (HSB.out.notBlk HK3.out (by decide) (by decide))
            have hM3 := HM2.out.stepB (Nat.le_refl _) hI3 hf3' hft3
            have hfin : PtRel W L i (.int .i64 ((j + 1 : Nat) : Int)) w5 := ⟨j + 1, _, _, _, _, _, _, rfl, by omega, hM3, HPA2.out, HPB2.out, HM2.out.belowB (Nat.le_refl _) HB2.out hf3'⟩
            have HF := Lib.hid hfin; clear hfin hM3 hI3 hf3 hf3' hft3 HPUT
            have HCC := CELLS.out w5 g2 t2 s2 v2 b2 hk3'
            clear hk3'
            generalize erV (putS KB 0 ⟨sx s2, sx v2, b2, p2⟩).1 = er2
            go_simp
            refine hK _ _ (fun _ => HCC) ?_
            clear hK KK
            refine ndone (by kernel_rfl) ?_ _
            clear HQP HCC
            go_wp2_with fail
            go_roundw
            case rel => exact HF.out
            case measure => simp [intOf]; omega
          --}puts
        · --{tail
          have hji : j = i := by omega
          subst hji
          rw [show L.take j = L from by rw [← hl]; exact List.take_length] at hpa
          rw [show L.reverse.take j = L.reverse from by rw [← hl, ← List.length_reverse]; exact List.take_length] at hpb
          obtain rfl : KA = KB := hpa.same hpb (fun r => by simp)
          obtain ⟨ks, hks, hkl⟩ := hpa.keysK
          rw [List.length_map, hl] at hkl
          obtain ⟨ks', hks', hkl'⟩ := hks.trim (pickN tz 60 : Nat)
          have HP1 := Lib.hid (fun w => pick_any tz 60 (by omega) (by omega) w)
          have HP2 := Lib.hid (fun w => pick_any ask 20 (by omega) (by omega) w)
          have hq1 := pickN_lt tz (n := 60) (by omega)
          have hq2 := pickN_lt ask (n := 20) (by omega)
          generalize pickN tz 60 = tm at *
          generalize pickN ask 20 = dk at *
          have hsum := sumK_trim hks hks'
          have hs1 : sumK KA ks ≤ 3600 := Nat.le_trans (sumK_le hM.a.len ks) (Nat.mul_le_mul (show ks.length ≤ 60 by omega) (show j ≤ 60 by omega))
          have hatr := atK_trim (t := (tm : Int) + dk) hM.a.sorted hks hks' (by omega)
          have hlen := at_len KA ks ((tm : Int) + dk)
          have htr : trimS KA 0 tm = (0, fun x => trimV tm (KA x), (tm : Int)) := by unfold trimS; rw [if_neg (by omega), if_neg (by omega)]
          have HTR := Lib.hid htr; clear htr
          have HATR := Lib.hid hatr; clear hatr
          have HKS := Lib.hid hks; clear hks
          have HKS' := Lib.hid hks'; clear hks'
          have HM := Lib.hid hM; clear hM hpa hpb
          have HB0 := Lib.hid hB; clear hB
          generalize hsa : sumK (fun x => trimV tm (KA x)) ks' = sa at *
          generalize hsb : sumK KA ks = sb at *
          have HSA := Lib.hid hsa; clear hsa
          have HSB := Lib.hid hsb; clear hsb
          have HAT1 := Lib.hid (at_any W.heap.size j (W.heap.size + 1) mb lb KA 0 ks ((tm : Int) + dk) wq HM.out.b HKS.out (by omega) (by omega) (by omega))
          generalize hl0 : atK KA ks ((tm : Int) + dk) = l0 at *
          have HL0 := Lib.hid hl0; clear hl0
          have hl60 : l0.length ≤ 60 := by omega
          clear hlen hkl hkl'
          go_wp2_with fail
          refine (HP1.out _).mono ?_
          rintro e w1 ⟨rfl, rfl⟩
          go_wp2_with fail
          refine (HP2.out _).mono ?_
          rintro e w1 ⟨rfl, rfl⟩
          go_wp2_with fail
          refine HAT1.out.mono ?_
          rintro e w2 ⟨A2, c2, rfl, hrow2, hb2⟩
          have HM2 := Lib.hid (HM.out.tall hb2)
          have HB2 := Lib.hid (HB0.out.trans (hb2.mono HB0.out.size))
          have HROW2 := Lib.hid hrow2; clear hrow2 hb2 HAT1
          have hat2 := at_any W.heap.size j W.heap.size ma la KA 0 ks ((tm : Int) + dk) w2 HM2.out.a HKS.out (by omega) (by omega) (by omega)
          rw [HL0.out] at hat2
          have HAT2 := Lib.hid hat2; clear hat2
          go_wp2_with fail
          refine HAT2.out.mono ?_
          rintro e w3 ⟨A3, c3, rfl, hrow3, hb3⟩
          have HM3 := Lib.hid (HM2.out.tall hb3)
          have HB3 := Lib.hid (HB2.out.trans (hb3.mono HB2.out.size))
          have HROW2 := Lib.hid (own_belowV HROW2.out hb3)
          have HROW3 := Lib.hid hrow3; clear hrow3 hb3 HAT2
          go_wp2_with fail
          refine (timed_any w3).mono ?_
          rintro e w4 ⟨rfl, hb4⟩
          have HM4 := Lib.hid (HM3.out.tall hb4)
          have HB4 := Lib.hid (HB3.out.trans (hb4.mono HB3.out.size))
          have HROW2 := Lib.hid (own_belowV HROW2.out (hb4))
          have HROW3 := Lib.hid (own_belowV HROW3.out hb4)
          clear hb4
          have htr := trim_any W.heap.size j W.heap.size ma la KA 0 tm w4 HM4.out.a (by omega)
          unfold TrPost at htr
          rw [HTR.out] at htr
          simp only at htr
          have HTRM := Lib.hid htr; clear htr
          go_wp2_with fail
          refine HTRM.out.mono ?_
          rintro e w5 ⟨rfl, ma5, la5, hI5, hf5, hft5⟩
          have HM5 := Lib.hid (HM4.out.stepA (Nat.le_refl _) hI5 hf5 hft5)
          have HB5 := Lib.hid (HM4.out.belowA (Nat.le_refl _) HB4.out hf5)
          have HROW2 := Lib.hid (st_row HM4.out.a HROW2.out (by decide) (by decide) hf5)
          have HROW3 := Lib.hid (st_row HM4.out.a HROW3.out (by decide) (by decide) hf5)
          clear hI5 hf5 hft5 HTRM
          rw [show erV 0 = Value.nilIface from rfl]
          have hma := many_any W.heap.size j W.heap.size ma5 la5 (fun x => trimV tm (KA x)) tm ks' w5 HM5.out.a HKS'.out (by rw [HSA.out]; omega)
          rw [HSA.out] at hma
          have HMA := Lib.hid hma; clear hma
          go_wp2_with fail
          refine HMA.out.mono ?_
          rintro e w6 ⟨rfl, hb6⟩
          have HM6 := Lib.hid (HM5.out.tall hb6)
          have HB6 := Lib.hid (HB5.out.trans (hb6.mono HB5.out.size))
          have HROW2 := Lib.hid (own_belowV HROW2.out hb6)
          have HROW3 := Lib.hid (own_belowV HROW3.out hb6)
          clear hb6 HMA
          have hmb := many_any W.heap.size j (W.heap.size + 1) mb lb KA 0 ks w6 HM6.out.b HKS.out (by rw [HSB.out]; omega)
          rw [HSB.out] at hmb
          have HMB := Lib.hid hmb; clear hmb
          go_wp2_with fail
          refine HMB.out.mono ?_
          rintro e w7 ⟨rfl, hb7⟩
          have HM7 := Lib.hid (HM6.out.tall hb7)
          have HB7 := Lib.hid (HB6.out.trans (hb7.mono HB6.out.size))
          have HROW2 := Lib.hid (own_belowV HROW2.out hb7)
          have HROW3 := Lib.hid (own_belowV HROW3.out hb7)
          clear hb7 HMB
          have hat3 := at_any W.heap.size j W.heap.size ma5 la5 (fun x => trimV tm (KA x)) tm ks' ((tm : Int) + dk) w7 HM7.out.a HKS'.out (by omega) (by omega) (by omega)
          rw [HATR.out] at hat3
          have HAT3 := Lib.hid hat3; clear hat3
          go_wp2_with fail
          refine HAT3.out.mono ?_
          rintro e w8 ⟨A8, c8, rfl, hrow8, hb8⟩
          have HM8 := Lib.hid (HM7.out.tall hb8)
          have HB8 := Lib.hid (HB7.out.trans (hb8.mono HB7.out.size))
          have HROW2 := Lib.hid (own_belowV HROW2.out hb8)
          have HROW3 := Lib.hid (own_belowV HROW3.out hb8)
          have HROW8 := Lib.hid hrow8; clear hrow8 hb8 HAT3
          have HRD2 := Lib.hid (Rd.of_own HROW2.out)
          have HRD3 := Lib.hid (Rd.of_own HROW3.out)
          have HRD8 := Lib.hid (Rd.of_own HROW8.out)
          go_wp2_with fail
          go_loopw [21] (CmpRel l0.length w8) (fun v _ => l0.length - (intOf v).toNat)
          case atStart => exact ⟨0, rfl, Nat.zero_le _, Below.refl _ _⟩
          case round =>
            rename World => wc
            obtain ⟨q, rfl, hqq, hbq⟩ := hrel
            by_cases hltq : (q : Int) < l0.length
            · --{same
              obtain ⟨g2, o2, p2, hA2, hg2, hp2, r0, r1, r2⟩ := (HRD2.out.below hbq).cellsPr rfl (j := q) (by omega)
              obtain ⟨g3, o3, p3, hA3, hg3, hp3, s0, s1, s2⟩ := (HRD3.out.below hbq).cellsPr rfl (j := q) (by omega)
              obtain ⟨g8, o8, p8, hA8, hg8, hp8, t0, t1, t2⟩ := (HRD8.out.below hbq).cellsPr rfl (j := q) (by omega)
              rw [hp2] at hp3 hp8
              obtain rfl : p2 = p3 := Option.some.inj hp3
              obtain rfl : p2 = p8 := Option.some.inj hp8
              subst hA2 hA3 hA8
              have hz := hbq.size
              have hgl2 : g2 < wc.heap.size := by omega
              have hgl3 : g3 < wc.heap.size := by omega
              have hgl8 : g8 < wc.heap.size := by omega
              have HBQ := Lib.hid hbq; clear hbq hp2 hp3 hp8 hz
              have heq := fun W => eqPair ⟨p2.1.toArray⟩ ⟨p2.2.toArray⟩ ⟨p2.1.toArray⟩ ⟨p2.2.toArray⟩ false false W
              simp only [beq_self_eq_true, Bool.and_self] at heq
              go_wp2_with fail
              go_quiet (fail)
              go_wp2_with fail
              go_roundw
              case rel => exact ⟨q + 1, rfl, by omega, ⟨HBQ.out.os, HBQ.out.tape, HBQ.out.output, HBQ.out.size, HBQ.out.block⟩⟩
              case measure => simp [intOf]; omega
              --}same
            · --{end
              have HM9 := Lib.hid (HM8.out.tall hbq)
              have HB9 := Lib.hid (HB8.out.trans (hbq.mono HB8.out.size)); clear hbq
              by_cases htm : (tm : Int) > 0
              · have HGL := Lib.hid (get_low W.heap.size j W.heap.size ma5 la5 (fun x => trimV tm (KA x)) tm ⟨#[97]⟩ ((tm : Int) - 1) wc HM9.out.a (by omega))
                go_wp2_with fail
                refine HGL.out.mono ?_
                rintro e w10 ⟨rfl, rfl⟩
                go_wp2_with fail
                refine (tell_err 8 _ (HLD.out.below HB9.out HLD.out.pos)).mono ?_
                rintro e w11 ⟨rfl, hb11⟩
                have HB11 := Lib.hid (HB9.out.trans (hb11.mono HB9.out.size)); clear hb11
                go_wp2_with fail
                go_ret
                exact ⟨rfl, HB11.out⟩
              · go_wp2_with fail
                go_ret
                exact ⟨rfl, HB9.out⟩
              --}end
          --}tail
      --}fill
end Go.Proofs.YtmgpdkecpobcaaaDoor
