/- chainmailkeep.CheckFits: the walk. -/
import Derived.Test.YtnahkpfamocnfaaCheckFits4
import Derived.Deep.CutBlock
import Derived.Test.YtnahkpfamocnfaaHeldN
namespace Go.Proofs.Ytnahkpfamocnfaa
open Go.RowKit
theorem opc_one (l : List OpP) : ∀ u ∈ l.flatMap opCells, u.oneCell' = true := by
  intro u hu
  obtain ⟨x, _, hx⟩ := List.mem_flatMap.1 hu
  simp [opCells] at hx
  rcases hx with rfl | rfl | rfl | rfl <;> rfl
theorem txc_one (l : List TxR) : ∀ u ∈ l.flatMap txCells, u.oneCell' = true := by
  intro u hu
  obtain ⟨x, _, hx⟩ := List.mem_flatMap.1 hu
  simp [txCells] at hx
  rcases hx with rfl | rfl | rfl <;> rfl
set_option maxRecDepth 100000 in
set_option maxHeartbeats 8000000 in
theorem checkFits_walk (L0 : List TxR) (made : Bool) (B n c : Nat) (A : Option Addr) (w : World) (h : ReadsT w B A n L0) (hB : B ≤ w.heap.size) :
    Calls Try.prog 4 #[.slice A n c, .bool made] w (BoolPost true w) := by
  by_cases hn : (n : Int) ≤ 8
  · have d0 : decide ((8 : Int) < n) = false := by simp; omega
    have H := Lib.hid h; clear h
    have hmm := @run_makeMap Try.prog
    go_enter Try.func4, Try.ntmps4
    go_wp2_with fail
    refine (ordered_any w).mono ?_
    rintro e w1 ⟨rfl, hb1⟩
    go_wp2_with (at_builtin; refine stop ?_)
    refine back ?_
    have hz1 : (w1.alloc (.map #[] 0)).heap.size = w1.heap.size + 1 := by simp
    have hbm : Below w.heap.size w ((w1.alloc (.map #[] 0)).alloc (.cells #[] 32)) := (hb1.alloc hb1.size _).alloc (by have := hb1.size; simp; omega) _
    have how : ((w1.alloc (.map #[] 0)).alloc (.cells #[] 32)).ownsRow w.heap.size 32 3 (.slice (some ⟨w1.heap.size + 1, 0, none⟩) 0 0) 0 [] := by
      have := World.ownsRow_lit (base := w.heap.size) (e := 32) (size := 3) (w1.alloc (.map #[] 0)) #[] 0 (by have := hb1.size; simp; omega) (by unfold maxLen; omega) rfl
      rw [hz1] at this
      exact this
    have hrd := H.out.2.1.below (hbm.mono hB)
    refine wpList_appendR _ rfl (.tmp 23) (.tmp 24) 26 rfl w.heap.size 32 _ 3 40 Try.underlying26 tx_info rfl (by decide) _ 0 [] rfl how B A n c (L0.flatMap txCells) rfl hrd.reads (txc_one L0) (by unfold maxLen; omega) (by omega) (by have := hb1.size; simp; omega) ?_
    intro v7 w2 ho2 hm2
    have hb2 : Below w.heap.size w w2 := hbm.trans (hm2.below (fun g hg => by have e : w1.heap.size + 1 = g := Option.some.inj hg; have := hb1.size; omega) (by have := hb1.size; simp; omega))
    obtain ⟨gx, hgx⟩ : ∃ gx, v7.ownBlock = some gx := by
      rcases hm2.2 with e | ⟨g, e, _⟩
      · exact ⟨_, e⟩
      · exact ⟨g, e⟩
    obtain ⟨cx, rfl⟩ := own_some ho2 hgx
    have hst : OutI w w2 L0 made n cx gx w1.heap.size 0 L0 [] (.slice none 0 0) := by
      refine ⟨?_, H.out.1, rfl, rfl, (fun y hy => by cases hy), World.ownsRow_nil _ _ _ _, rfl, (fun y hy => by cases hy), ?_, (fun y hy => by cases hy), hb1.size, hb2⟩
      · simpa using ho2
      · have := ((MapV.made w1).alloc (.cells #[] 32)).fr hm2.1 (fun e => by
          have : w1.heap.size = w1.heap.size + 1 := by injection e
          omega)
        exact this
    have HST := Lib.hid hst; clear hst how hrd ho2 hm2 hbm hmm hgx hz1
    simp only [Nat.zero_add]
    go_wp2_with fail
    go_loopw [5, 8] (OutRel w L0 made n cx gx w1.heap.size) (fun _ i _ => n - (intOf i).toNat)
    case atStart => exact ⟨0, L0, [], rfl, Nat.zero_le _, HST.out⟩
    case round =>
      clear HST
      obtain ⟨j, X, W, rfl, hj, hI⟩ := hrel
      obtain ⟨wo, rfl⟩ : ∃ wo : World, wo = wr := ⟨_, rfl⟩
      by_cases hlt : (j : Int) < n
      · have hjn : j < n := by omega
        obtain ⟨x, hx⟩ : ∃ x, L0[j]? = some x := ⟨_, List.getElem?_eq_getElem (by rw [H.out.1]; exact hjn)⟩
        have hXj : X[j]? = some x := by
          have h1 := congrArg (fun l => l[0]?) hI.dropX
          simp only [List.getElem?_drop, Nat.add_zero] at h1
          rw [h1]; exact hx
        have hfl := flat_at 3 txCells (fun _ => rfl) X j x hXj
        have hk0 : wo.cell? ⟨gx, j * 3, none⟩ = some (.slice x.A x.n x.c) := (hI.rowX.cellAt (j * 3) (by omega)).trans (hfl 0 (by omega))
        have hk1 : wo.cell? ⟨gx, j * 3 + 1, none⟩ = some (.int .i64 x.t.from_) := (hI.rowX.cellAt (j * 3 + 1) (by omega)).trans (hfl 1 (by omega))
        have hk2 : wo.cell? ⟨gx, j * 3 + 2, none⟩ = some (.int .i64 x.t.to_) := (hI.rowX.cellAt (j * 3 + 2) (by omega)).trans (hfl 2 (by omega))
        have hgl : gx < wo.heap.size := (hI.rowX.lt gx rfl).2
        have hsz := hI.below.size
        obtain ⟨hro, hfine⟩ := H.out.2.2 x (List.mem_of_getElem? hx)
        have HX := Lib.hid hx; clear hx
        have HXJ := Lib.hid hXj; clear hXj
        have HRO := Lib.hid hro; clear hro
        have HFINE := Lib.hid hfine; clear hfine hfl
        have HI := Lib.hid hI; clear hI
        by_cases h12 : (12 : Int) < x.n
        · go_wp2_with fail
          go_ret
          exact ⟨rfl, HI.out.below⟩
        · have d12 : decide ((12 : Int) < x.n) = false := by simpa using h12
          go_wp2_with fail
          refine wp_region_any (by kernel_rfl) ?_
          change wpAny _ _ _ _ _ _ _ (World.drew _)
          refine rheld (fun w' => w'.cell? ⟨gx, j * 3 + 1, none⟩ = some (.int .i64 x.t.from_) ∧ w'.cell? ⟨gx, j * 3 + 2, none⟩ = some (.int .i64 x.t.to_)) ?_
          refine rtakeH 0 rfl (by kernel_rfl) (by kernel_rfl) (by kernel_rfl) (fun _ _ _ h => h) (by kernel_rfl) ⟨hk1, hk2⟩ (fun w' hw' => by go_simp; rfl) ?_
          refine rtakeH 1 rfl (by kernel_rfl) (by kernel_rfl) (by kernel_rfl) (fun _ _ _ h => h) (by kernel_rfl) ⟨hk1, hk2⟩ (fun w' hw' => by go_simp; rfl) ?_
          refine rtakeH 2 rfl (by kernel_rfl) (by kernel_rfl) (by kernel_rfl) (fun _ _ _ h => h) (by kernel_rfl) ⟨hk1, hk2⟩ (fun w' hw' => by go_simp; rfl) ?_
          refine rtakeH 3 rfl (by kernel_rfl) (by kernel_rfl) (by kernel_rfl) (fun _ _ _ h => h) (by kernel_rfl) ⟨hk1, hk2⟩ (fun w' hw' => by go_simp; rfl) ?_
          refine rtakeH 4 rfl (by kernel_rfl) (by kernel_rfl) (by kernel_rfl) (fun _ _ _ h => h) (by kernel_rfl) ⟨hk1, hk2⟩ (fun w' hw' => by obtain ⟨h1, h2⟩ := hw'; go_simp; rfl) ?_
          refine rtakeH 5 rfl (by kernel_rfl) (by kernel_rfl) (by kernel_rfl) (fun _ _ _ h => h) (by kernel_rfl) ⟨hk1, hk2⟩ (fun w' hw' => by go_simp; rfl) ?_
          refine rtakeH 6 rfl (by kernel_rfl) (by kernel_rfl) (by kernel_rfl) (fun _ _ _ h => h) (by kernel_rfl) ⟨hk1, hk2⟩ (fun w' hw' => by go_simp; rfl) ?_
          refine rtakeH 7 rfl (by kernel_rfl) (by kernel_rfl) (by kernel_rfl) (fun _ _ _ h => h) (by kernel_rfl) ⟨hk1, hk2⟩ (fun w' hw' => by go_simp; rfl) ?_
          refine rtakeH 8 rfl (by kernel_rfl) (by kernel_rfl) (by kernel_rfl) (fun _ _ _ h => h) (by kernel_rfl) ⟨hk1, hk2⟩ (fun w' hw' => by go_simp; rfl) ?_
          refine rtakeH 9 rfl (by kernel_rfl) (by kernel_rfl) (by kernel_rfl) (fun _ _ _ h => h) (by kernel_rfl) ⟨hk1, hk2⟩ (fun w' hw' => by obtain ⟨h1, h2⟩ := hw'; go_simp; rfl) ?_
          refine rtakeH 10 rfl (by kernel_rfl) (by kernel_rfl) (by kernel_rfl) (fun _ _ _ h => h) (by kernel_rfl) ⟨hk1, hk2⟩ (fun w' hw' => by go_simp; rfl) ?_
          refine ronlyH 11 (by kernel_rfl) rfl (by kernel_rfl) (fun K hK => ?_)
          go_simp
          have hq1 : ∀ o, ((wo.alloc o).drew).cell? ⟨gx, j * 3 + 1, none⟩ = some (.int .i64 x.t.from_) := fun o => (World.cell?_alloc_lt wo o ⟨gx, j * 3 + 1, none⟩ hgl).trans hk1
          have hq2 : ∀ o, ((wo.alloc o).drew).cell? ⟨gx, j * 3 + 2, none⟩ = some (.int .i64 x.t.to_) := fun o => (World.cell?_alloc_lt wo o ⟨gx, j * 3 + 2, none⟩ hgl).trans hk2
          refine hK _ _ ⟨hq1 _, hq2 _⟩ ?_
          clear hK K
          refine ronlyH 12 (by kernel_rfl) rfl (by kernel_rfl) (fun K hK => ?_)
          go_simp
          refine hK _ _ ⟨hq1 _, hq2 _⟩ ?_
          clear hK K hq1 hq2
          refine wpAnyH_done (by kernel_rfl) ?_ _
          go_wp2_with (at_builtin; refine stop ?_)
          refine back ?_
          have hz2 : (wo.alloc (.cells #[.slice none 0 0, .int .i64 x.t.from_, .int .i64 x.t.to_] 35)).heap.size = wo.heap.size + 1 := by simp
          have how2 : (((wo.alloc (.cells #[.slice none 0 0, .int .i64 x.t.from_, .int .i64 x.t.to_] 35)).alloc (.cells #[] 38)).drew).ownsRow w.heap.size 38 4 (.slice (some ⟨wo.heap.size + 1, 0, none⟩) 0 0) 0 [] := by
            have := World.ownsRow_lit (base := w.heap.size) (e := 38) (size := 4) (wo.alloc (.cells #[.slice none 0 0, .int .i64 x.t.from_, .int .i64 x.t.to_] 35)) #[] 0 (by simp; omega) (by unfold maxLen; omega) rfl
            rw [hz2] at this
            exact this
          have f2 : Fr (fun _ => False) wo (((wo.alloc (.cells #[.slice none 0 0, .int .i64 x.t.from_, .int .i64 x.t.to_] 35)).alloc (.cells #[] 38)).drew) := (((Fr.refl _ _).alloc _).alloc _).drew
          have hrd2 := (HRO.out.2.below ((HI.out.below.mono hB).trans (f2.none_below.mono (by omega))))
          have hbox2 : Blk (((wo.alloc (.cells #[.slice none 0 0, .int .i64 x.t.from_, .int .i64 x.t.to_] 35)).alloc (.cells #[] 38)).drew) wo.heap.size 35 #[.slice none 0 0, .int .i64 x.t.from_, .int .i64 x.t.to_] := ((Blk.new wo _ _).alloc _).drew
          refine wpList_appendR _ rfl (.tmp 52) (.tmp 57) 30 rfl w.heap.size 38 _ 4 48 Try.underlying30 op_info rfl (by decide) _ 0 [] rfl how2 B x.A x.n x.c (x.t.ops.flatMap opCells) rfl hrd2.reads (opc_one _) (by unfold maxLen; omega) (by omega) (by have := f2.size; omega) ?_
          intro vO w3 hoO hmO
          obtain ⟨AO, cO, rfl, hcO, _⟩ := own_slice hoO
          simp only [Nat.zero_add, List.nil_append] at hoO hcO
          have hnewO : ∀ g, (Value.slice AO x.n cO).ownBlock = some g → wo.heap.size ≤ g := fun g hg => by
            rcases hmO.2 with e | ⟨g2, e, h2⟩
            · have e2 : (Value.slice AO x.n cO).ownBlock = some (wo.heap.size + 1) := by cases AO <;> exact e
              rw [e2] at hg; injection hg; omega
            · have e2 : (Value.slice AO x.n cO).ownBlock = some g2 := by cases AO <;> exact e
              rw [e2] at hg; injection hg; simp at h2; omega
          have f3 : Fr (fun _ => False) wo w3 := f2.trans' hmO.1 (fun i hi e => by
            have : i = wo.heap.size + 1 := Option.some.inj e
            omega)
          have hbox3 := hmO.1.blk hbox2 (fun e => by
            have : wo.heap.size = wo.heap.size + 1 := Option.some.inj e
            omega)
          have hmid := mid0 HI.out HXJ.out f3 hbox3 hoO hnewO
          have hx3 := f3.own HI.out.rowX (fun _ _ e => e)
          have hfz3 := hx3.frozenAt (j * 3)
          have hc3 : w3.cell? ⟨gx, j * 3, none⟩ = some (.slice x.A x.n x.c) := (f3.cell (p := ⟨gx, j * 3, none⟩) hgl (fun e => e)).trans hk0
          have hgl3 : gx < w3.heap.size := by have := f3.size; omega
          have HMID := Lib.hid hmid; clear hmid hx3 f2 hrd2 hbox2 how2 hoO hmO hbox3 hz2
          have HF3 := Lib.hid f3; clear f3
          go_upto_if 61 with (fail)
          go_cut [] (fun wx => MidI w wo wx X x n cx gx j AO cO (if made then 2 * (j : Int) else x.t.from_) (if made then 2 * (j : Int) + 3 else x.t.to_))
          case first =>
            cases made
            · go_wp2_with fail
              go_meet
              exact HMID.out
            · obtain ⟨hq0, hq1, hq2, hql⟩ := HMID.out.cells (by rw [HI.out.lenX]; exact hjn) HI.out.lenX
              have hqf1 := HMID.out.rowX.frozenAt (j * 3 + 1)
              have hqf2 := HMID.out.rowX.frozenAt (j * 3 + 2)
              have hb1' := HMID.out.boxT.cell 1
              have hb2' := HMID.out.boxT.cell 2
              have hbf1 := HMID.out.boxT.frozen 1
              have hbf2 := HMID.out.boxT.frozen 2
              have hbl := HMID.out.boxT.lt
              simp only [List.getElem?_toArray, List.getElem?_cons_succ, List.getElem?_cons_zero] at hb1' hb2'
              have hne1 : gx ≠ wo.heap.size := by omega
              have hne2 : wo.heap.size ≠ gx := by omega
              generalize hw4 : w3.setCell ⟨gx, j * 3, none⟩ (.slice AO x.n cO) = w4 at hq0 hq1 hq2 hql hqf1 hqf2 hb1' hb2' hbf1 hbf2 hbl HMID
              go_wp2_with fail
              go_meet
              exact mid1 HMID.out (by rw [HI.out.lenX]; exact hjn) hgl _ _ _ rfl
          case rest =>
            obtain ⟨ff, hff⟩ : ∃ ff, ff = (if made then 2 * (j : Int) else x.t.from_) := ⟨_, rfl⟩
            obtain ⟨tt, htt⟩ : ∃ tt, tt = (if made then 2 * (j : Int) + 3 else x.t.to_) := ⟨_, rfl⟩
            rw [← hff, ← htt] at hcut
            have HFF := Lib.hid hff; clear hff
            have HTT := Lib.hid htt; clear htt HMID
            have hst : InI w wo wc made (accJ L0 made j).2 X x n cx gx w1.heap.size j AO cO ff tt 0 (.slice none 0 0) := by
              refine ⟨hcut.rowX, hcut.rowO, hcut.boxT, World.ownsRow_nil _ _ _ _, (fun g hg => by simp [Value.ownBlock] at hg), ?_, hcut.fr.mono (fun i _ e => .inl e)⟩
              exact HI.out.map.fr hcut.fr (fun e => HI.out.map.notOwn HI.out.rowX (by show some gx = some _; rw [e]))
            have HST := Lib.hid hst; clear hst hcut
            clear hk0 hk1 hk2 hc3 hfz3
            go_wp2_with fail
            go_loopw [10] (InRel w wo made (accJ L0 made j).2 X x n cx gx w1.heap.size j AO cO ff tt) (fun v _ => x.n - (intOf v).toNat)
            case atStart => exact ⟨0, _, rfl, Nat.zero_le _, HST.out⟩
            case round =>
              clear HST
              obtain ⟨k, tv, rfl, hk, hIn⟩ := hrel
              obtain ⟨hx0, hgx⟩ := hIn.cells (by rw [HI.out.lenX]; exact hjn) HI.out.lenX
              have hnx : x.t.ops.length = x.n := HRO.out.1
              by_cases hltk : (k : Int) < x.n
              · have hkn : k < x.n := by omega
                obtain ⟨o, ho⟩ : ∃ o, x.t.ops[k]? = some o := ⟨_, List.getElem?_eq_getElem (by omega)⟩
                obtain ⟨gO, hgO⟩ : ∃ gO, AO = some ⟨gO, 0, none⟩ := by
                  obtain ⟨g, cap, hv, _, _⟩ := hIn.rowO.form (by omega)
                  injection hv with h1
                  exact ⟨g, h1⟩
                subst hgO
                have hal := accK_len made (accJ L0 made j).2 x k (by omega)
                have hdr := drop_at ho
                have hrow := hIn.rowO
                rw [hdr] at hrow
                have hat := flat_at 4 opCells (fun _ => rfl) _ k o (mid_at (accK made (accJ L0 made j).2 x k).1 o (x.t.ops.drop (k + 1)) k hal)
                have hc0 : wr.cell? ⟨gO, k * 4, none⟩ = some (.int .i64 o.kind) := (hrow.cellAt (k * 4) (by omega)).trans (hat 0 (by omega))
                have hc1 : wr.cell? ⟨gO, k * 4 + 1, none⟩ = some (.string o.key) := (hrow.cellAt (k * 4 + 1) (by omega)).trans (hat 1 (by omega))
                have hc2 : wr.cell? ⟨gO, k * 4 + 2, none⟩ = some (.string o.val) := (hrow.cellAt (k * 4 + 2) (by omega)).trans (hat 2 (by omega))
                have hc3 : wr.cell? ⟨gO, k * 4 + 3, none⟩ = some (.bool o.found) := (hrow.cellAt (k * 4 + 3) (by omega)).trans (hat 3 (by omega))
                have hgOl : gO < wr.heap.size := (hrow.lt gO rfl).2
                have hof := HFINE.out o (List.mem_of_getElem? ho)
                have hlook := hIn.map.look o.key hof.1
                have HO := Lib.hid ho; clear ho
                have HIN := Lib.hid hIn; clear hIn
                have HROW := Lib.hid hrow; clear hrow hat hdr hal
                have HNX := Lib.hid hnx; clear hnx
                go_upto_block 4 with (fail)
                go_cut [] (fun wx => SwI w wr wx made (accJ L0 made j).2 x w1.heap.size j gO cO k o)
                case first =>
                  by_cases h1 : o.kind = 1
                  · have d1 : (o.kind == 1) = true := by simpa using h1
                    cases made
                    · have hsw := sw0 (j := j) HROW.out HIN.out.map (by simp) (by unfold transM; rw [if_pos h1])
                      have HSW := Lib.hid hsw; clear hsw h1
                      go_wp2_with fail
                      go_meet
                      exact HSW.out
                    · have hsw := sw2 (j := j) HROW.out HIN.out.map h1 (accK_len _ _ _ _ (by rw [HNX.out]; omega)) _ rfl
                      have HSW := Lib.hid hsw; clear hsw h1
                      have hf2 := HROW.out.frozenAt (k * 4 + 2)
                      have hf3 := HROW.out.frozenAt (k * 4 + 3)
                      go_wp2_with fail
                      go_meet
                      exact HSW.out
                  · have d1 : (o.kind == 1) = false := by simpa using h1
                    by_cases h2 : o.kind = 2
                    · have d2 : (o.kind == 2) = true := by simpa using h2
                      have ht : transM (accK made (accJ L0 made j).2 x k).2 o = (accK made (accJ L0 made j).2 x k).2.set o.key (some o.val) := by unfold transM; rw [if_neg h1, if_pos h2]
                      have HT := Lib.hid ht; clear ht h2
                      have H1 := Lib.hid h1; clear h1
                      go_wp2_with fail
                      clear hlook
                      refine wp_region_still_tail 9 (by kernel_rfl) (by kernel_rfl) ?_
                      change wpStill _ _ (World.drew _) _ _ _
                      simp only [List.take_succ_cons, List.take_zero, List.drop_succ_cons, List.drop_zero]
                      repeat still_step
                      refine wpStill_nil ?_
                      change wpList _ _ _ _ _ (World.drew _)
                      refine wpList_setSS rfl (.tmp 125) (.tmp 129) (.tmp 133) rfl w1.heap.size (100 * j + k) (accK made (accJ L0 made j).2 x k).2 rfl HIN.out.map.drew (by unfold maxLen; omega) o.key o.val rfl rfl hof.1 hof.2 ?_
                      intro w5 hmv hfr
                      have hsw := sw1 (j := j) HROW.out HIN.out.map (fun h => H1.out h.1) HT.out (((Fr.refl _ _).drew).trans hfr) hmv (by omega)
                      have HSW := Lib.hid hsw; clear hsw hmv hfr
                      go_wp2_with fail
                      go_meet
                      exact HSW.out
                    · have d2 : (o.kind == 2) = false := by simpa using h2
                      by_cases h3 : o.kind = 3
                      · have d3 : (o.kind == 3) = true := by simpa using h3
                        have ht : transM (accK made (accJ L0 made j).2 x k).2 o = (accK made (accJ L0 made j).2 x k).2.set o.key none := by unfold transM; rw [if_neg h1, if_neg h2, if_pos h3]
                        have HT := Lib.hid ht; clear ht h2 h3
                        have H1 := Lib.hid h1; clear h1
                        go_wp2_with (at_delete; refine stop ?_)
                        clear hlook
                        refine back ?_
                        refine wpList_delSS rfl (.tmp 136) (.tmp 140) rfl w1.heap.size (100 * j + k) (accK made (accJ L0 made j).2 x k).2 rfl HIN.out.map o.key rfl hof.1 ?_
                        intro w5 hmv hfr
                        have hsw := sw1 (j := j) HROW.out HIN.out.map (fun h => H1.out h.1) HT.out hfr hmv (by omega)
                        have HSW := Lib.hid hsw; clear hsw hmv hfr
                        go_wp2_with fail
                        go_meet
                        exact HSW.out
                      · have d3 : (o.kind == 3) = false := by simpa using h3
                        have hsw := sw0 (j := j) HROW.out HIN.out.map (fun h => h1 h.1) (by unfold transM; rw [if_neg h1, if_neg h2, if_neg h3])
                        have HSW := Lib.hid hsw; clear hsw h1 h2 h3
                        go_wp2_with fail
                        go_meet
                        exact HSW.out
                case rest =>
                  have hO : wo.heap.size ≤ gO := hnewO gO rfl
                  obtain ⟨hbx, hrT, hn1, hn2⟩ := in_box HIN.out hcut
                  have hal := accK_len made (accJ L0 made j).2 x k (by rw [HNX.out]; omega)
                  have hat := flat_at 4 opCells (fun _ => rfl) _ k _ (mid_at (accK made (accJ L0 made j).2 x k).1 (transO made (accK made (accJ L0 made j).2 x k).2 o) (x.t.ops.drop (k + 1)) k hal)
                  have hq0 := (hcut.rowO.cellAt (k * 4) (by omega)).trans (hat 0 (by omega))
                  have hq1 := (hcut.rowO.cellAt (k * 4 + 1) (by omega)).trans (hat 1 (by omega))
                  have hq2 := (hcut.rowO.cellAt (k * 4 + 2) (by omega)).trans (hat 2 (by omega))
                  have hq3 := (hcut.rowO.cellAt (k * 4 + 3) (by omega)).trans (hat 3 (by omega))
                  have hgOl2 : gO < wc.heap.size := (hcut.rowO.lt gO rfl).2
                  have hb0 := hbx.cell 0
                  have hbl := hbx.lt
                  simp only [opCells, List.getElem?_toArray, List.getElem?_cons_succ, List.getElem?_cons_zero] at hq0 hq1 hq2 hq3 hb0
                  have hstep := fun w6 tv' => in_step (w6 := w6) (tv' := tv') HIN.out hcut HO.out hO
                  have HSTEP := Lib.hid hstep; clear hstep
                  have HBX := Lib.hid hbx; clear hbx
                  have HRT := Lib.hid hrT; clear hrT
                  have HCUT := Lib.hid hcut; clear hcut hal hat
                  have hwb : w.heap.size ≤ wc.heap.size := by have := HIN.out.fr.size; have := HCUT.out.fr.size; omega
                  generalize transO made (accK made (accJ L0 made j).2 x k).2 o = o' at hq0 hq1 hq2 hq3 HSTEP
                  clear hc0 hc1 hc2 hc3 hlook
                  go_wp2_with fail
                  refine wp_region_any (by kernel_rfl) ?_
                  change wpAny _ _ _ _ _ _ _ (World.drew _)
                  refine nplain (fun w' => w'.cell? ⟨wo.heap.size, 0, none⟩ = some tv ∧ w'.cell? ⟨gO, k * 4, none⟩ = some (.int .i64 o'.kind) ∧ w'.cell? ⟨gO, k * 4 + 1, none⟩ = some (.string o'.key) ∧ w'.cell? ⟨gO, k * 4 + 2, none⟩ = some (.string o'.val) ∧ w'.cell? ⟨gO, k * 4 + 3, none⟩ = some (.bool o'.found)) 21 ?_
                  have HCC := And.intro hb0 (And.intro hq0 (And.intro hq1 (And.intro hq2 hq3)))
                  refine ntake 0 rfl (by kernel_rfl) (by kernel_rfl) (by kernel_rfl) (by kernel_rfl) (fun _ _ _ h => h) (by kernel_rfl) HCC (fun w' hw' => by go_simp; rfl) ?_
                  refine ntake 1 rfl (by kernel_rfl) (by kernel_rfl) (by kernel_rfl) (by kernel_rfl) (fun _ _ _ h => h) (by kernel_rfl) HCC (fun w' hw' => by obtain ⟨h0, h1, h2, h3, h4⟩ := hw'; go_simp; rfl) ?_
                  refine ntake 2 rfl (by kernel_rfl) (by kernel_rfl) (by kernel_rfl) (by kernel_rfl) (fun _ _ _ h => h) (by kernel_rfl) HCC (fun w' hw' => by go_simp; rfl) ?_
                  refine ntake 3 rfl (by kernel_rfl) (by kernel_rfl) (by kernel_rfl) (by kernel_rfl) (fun _ _ _ h => h) (by kernel_rfl) HCC (fun w' hw' => by go_simp; rfl) ?_
                  refine ntake 4 rfl (by kernel_rfl) (by kernel_rfl) (by kernel_rfl) (by kernel_rfl) (fun _ _ _ h => h) (by kernel_rfl) HCC (fun w' hw' => by go_simp; rfl) ?_
                  refine ntake 5 rfl (by kernel_rfl) (by kernel_rfl) (by kernel_rfl) (by kernel_rfl) (fun _ _ _ h => h) (by kernel_rfl) HCC (fun w' hw' => by obtain ⟨h0, h1, h2, h3, h4⟩ := hw'; go_simp; rfl) ?_
                  refine ntake 6 rfl (by kernel_rfl) (by kernel_rfl) (by kernel_rfl) (by kernel_rfl) (fun _ _ _ h => h) (by kernel_rfl) HCC (fun w' hw' => by go_simp; rfl) ?_
                  refine ntake 7 rfl (by kernel_rfl) (by kernel_rfl) (by kernel_rfl) (by kernel_rfl) (fun _ _ _ h => h) (by kernel_rfl) HCC (fun w' hw' => by go_simp; rfl) ?_
                  refine ntake 8 rfl (by kernel_rfl) (by kernel_rfl) (by kernel_rfl) (by kernel_rfl) (fun _ _ _ h => h) (by kernel_rfl) HCC (fun w' hw' => by go_simp; rfl) ?_
                  refine ntake 9 rfl (by kernel_rfl) (by kernel_rfl) (by kernel_rfl) (by kernel_rfl) (fun _ _ _ h => h) (by kernel_rfl) HCC (fun w' hw' => by obtain ⟨h0, h1, h2, h3, h4⟩ := hw'; go_simp; rfl) ?_
                  refine ntake 10 rfl (by kernel_rfl) (by kernel_rfl) (by kernel_rfl) (by kernel_rfl) (fun _ _ _ h => h) (by kernel_rfl) HCC (fun w' hw' => by go_simp; rfl) ?_
                  refine ntake 11 rfl (by kernel_rfl) (by kernel_rfl) (by kernel_rfl) (by kernel_rfl) (fun _ _ _ h => h) (by kernel_rfl) HCC (fun w' hw' => by go_simp; rfl) ?_
                  refine ntake 12 rfl (by kernel_rfl) (by kernel_rfl) (by kernel_rfl) (by kernel_rfl) (fun _ _ _ h => h) (by kernel_rfl) HCC (fun w' hw' => by go_simp; rfl) ?_
                  refine ntake 13 rfl (by kernel_rfl) (by kernel_rfl) (by kernel_rfl) (by kernel_rfl) (fun _ _ _ h => h) (by kernel_rfl) HCC (fun w' hw' => by obtain ⟨h0, h1, h2, h3, h4⟩ := hw'; go_simp; rfl) ?_
                  refine ntake 14 rfl (by kernel_rfl) (by kernel_rfl) (by kernel_rfl) (by kernel_rfl) (fun _ _ _ h => h) (by kernel_rfl) HCC (fun w' hw' => by go_simp; rfl) ?_
                  refine ntake 15 rfl (by kernel_rfl) (by kernel_rfl) (by kernel_rfl) (by kernel_rfl) (fun _ _ _ h => h) (by kernel_rfl) HCC (fun w' hw' => by go_simp; rfl) ?_
                  refine ntake 16 rfl (by kernel_rfl) (by kernel_rfl) (by kernel_rfl) (by kernel_rfl) (fun _ _ _ h => h) (by kernel_rfl) HCC (fun w' hw' => by go_simp; rfl) ?_
                  refine ntake 17 rfl (by kernel_rfl) (by kernel_rfl) (by kernel_rfl) (by kernel_rfl) (fun _ _ _ h => h) (by kernel_rfl) HCC (fun w' hw' => by obtain ⟨h0, h1, h2, h3, h4⟩ := hw'; go_simp; rfl) ?_
                  refine ntake 18 rfl (by kernel_rfl) (by kernel_rfl) (by kernel_rfl) (by kernel_rfl) (fun _ _ _ h => h) (by kernel_rfl) HCC (fun w' hw' => by go_simp; rfl) ?_
                  refine nonly 19 (by kernel_rfl) rfl (by kernel_rfl) (fun K hK => ?_)
                  go_simp
                  refine hK _ _ (fun _ => ⟨(World.cell?_alloc_lt wc _ ⟨wo.heap.size, 0, none⟩ hbl).trans hb0, (World.cell?_alloc_lt wc _ ⟨gO, k * 4, none⟩ hgOl2).trans hq0, (World.cell?_alloc_lt wc _ ⟨gO, k * 4 + 1, none⟩ hgOl2).trans hq1, (World.cell?_alloc_lt wc _ ⟨gO, k * 4 + 2, none⟩ hgOl2).trans hq2, (World.cell?_alloc_lt wc _ ⟨gO, k * 4 + 3, none⟩ hgOl2).trans hq3⟩) ?_
                  clear hK K HCC
                  have hneO : ¬ some gO = tv.ownBlock := fun e => own_own_ne HCUT.out.rowO HRT.out (by decide) rfl e.symm
                  have HNEO := Lib.hid hneO; clear hneO
                  refine nonly 20 (by kernel_rfl) rfl (by kernel_rfl) (fun K hK => ?_)
                  refine wp_append1 wc.drew wc.heap.size rfl _ (.tmp 142) (.tmp 160) 33 rfl w.heap.size 40 _ 4 48 Try.underlying33 rop_info rfl (by decide) _ _ _ #[.int .i64 o'.kind, .string o'.key, .string o'.val, .bool o'.found] rfl HRT.out 1 rfl _ rfl rfl (by simp [Value.oneCell']) (by unfold maxLen; omega) (by omega) hwb ?_
                  intro tv' w6 hT6 hm6
                  obtain ⟨AT, cT, rfl, _, _⟩ := own_slice hT6
                  have hb6 := hm6.1.blk HBX.out.drew (fun e => own_blk_ne HRT.out HBX.out (by decide) e.symm)
                  have hy0 := hb6.cell 0
                  have hy1 := hb6.frozen 0
                  have hin := HSTEP.out w6 _ hm6 hT6
                  have hC6 := And.intro hy0 (And.intro ((hm6.1.cell (p := ⟨gO, k * 4, none⟩) hgOl2 HNEO.out).trans hq0) (And.intro ((hm6.1.cell (p := ⟨gO, k * 4 + 1, none⟩) hgOl2 HNEO.out).trans hq1) (And.intro ((hm6.1.cell (p := ⟨gO, k * 4 + 2, none⟩) hgOl2 HNEO.out).trans hq2) ((hm6.1.cell (p := ⟨gO, k * 4 + 3, none⟩) hgOl2 HNEO.out).trans hq3))))
                  have HC6 := Lib.hid hC6; clear hC6
                  have HIN2 := Lib.hid hin; clear hin hT6 hm6 hb6
                  go_simp
                  refine hK _ _ (fun _ => HC6.out) ?_
                  clear hK K
                  refine nonly 21 (by kernel_rfl) rfl (by kernel_rfl) (fun K hK => ?_)
                  go_simp
                  refine hK _ _ (fun h => absurd h (by decide)) ?_
                  clear hK K
                  refine nonly 22 (by kernel_rfl) rfl (by kernel_rfl) (fun K hK => ?_)
                  go_simp
                  refine hK _ _ (fun h => absurd h (by decide)) ?_
                  clear hK K
                  refine ndone (by kernel_rfl) ?_ _
                  go_wp2_with fail
                  go_roundw
                  case rel => exact ⟨k + 1, _, rfl, by omega, HIN2.out⟩
                  case measure => simp [intOf]; omega
              · obtain rfl : k = x.n := by omega
                obtain ⟨AT, cT, rfl, _, _⟩ := own_slice hIn.rowT
                have hb0 := hIn.boxT.cell 0
                have hb1 := hIn.boxT.cell 1
                have hb2 := hIn.boxT.cell 2
                have hbl := hIn.boxT.lt
                simp only [List.getElem?_toArray, List.getElem?_cons_succ, List.getElem?_cons_zero] at hb0 hb1 hb2
                have hW : wr.ownsRow w.heap.size 35 3 u5 j (W.flatMap txCells) := hIn.fr.own HI.out.rowW (by
                  rintro g hg (e | e)
                  · subst e; exact own_own_ne HI.out.rowW HI.out.rowX (by decide) hg rfl
                  · subst e; exact HI.out.map.notOwn HI.out.rowW hg)
                have hwb : w.heap.size ≤ wr.heap.size := by have := hIn.fr.size; omega
                have HIN := Lib.hid hIn; clear hIn
                have HNX := Lib.hid hnx; clear hnx
                go_wp2_with (at_builtin; refine stop ?_)
                refine back ?_
                refine wpList_append1 wr _ rfl (.tmp 163) (.tmp 165) 28 rfl w.heap.size 35 _ 3 40 Try.underlying28 rtx_info rfl (by decide) _ _ _ #[.slice AT x.n cT, .int .i64 ff, .int .i64 tt] rfl hW 1 rfl _ rfl rfl (by simp [Value.oneCell']) (by unfold maxLen; omega) (by omega) hwb ?_
                intro v5' w8 hW8 hm8
                have hout := out_step HI.out hjn HX.out HNX.out (by omega) HIN.out HFF.out HTT.out hm8 hW8
                have HOUT := Lib.hid hout; clear hout hW hW8 hm8
                go_wp2_with fail
                go_roundw
                case rel => exact ⟨j + 1, _, _, rfl, by omega, HOUT.out⟩
                case measure => simp [intOf]; omega
      · have hjn : j = n := by omega
        subst hjn
        have hXt : X.take j = X := List.take_of_length_le (by rw [hI.lenX]; omega)
        have htsX : tsOf X = (accJ L0 made j).1 := by have := hI.tsX; rw [hXt] at this; exact this
        have hown := hI.ownX
        rw [hXt] at hown
        obtain ⟨rX, sX⟩ := out_reads H.out htsX hI.few hown
        obtain ⟨rW, sW⟩ := out_reads H.out hI.tsW hI.few hI.ownW
        have hlX := hI.lenX
        have hlW : W.length = j := by
          have h1 := hI.rowW.1
          rw [flat_len 3 txCells (fun _ => rfl)] at h1
          omega
        obtain ⟨A5, c5, rfl, _, _⟩ := own_slice hI.rowW
        have hRX : ReadsT wo wo.heap.size (some ⟨gx, 0, none⟩) j X := ⟨hlX, Rd.of_own hI.rowX, rX⟩
        have hRW : ReadsT wo wo.heap.size A5 j W := ⟨hlW, Rd.of_own hI.rowW, rW⟩
        have hbo := hI.below
        have htW := hI.tsW
        have hser := serial_any X wo.heap.size j cx (some ⟨gx, 0, none⟩) wo hRX (Nat.le_refl _) (by omega) (fun x hx => by have := sX x hx; omega)
        rw [htsX] at hser
        have hmade : made = true → (walkP (accJ L0 made j).1 j [] Mp.empty).isSome = true := fun hm => by
          subst hm
          have h1 := serial_made (trans_made ((tsOf L0).take j))
          have h2 : (accJ L0 true j).1.length = j := by rw [← htsX, tsOf_len, hlX]
          unfold accJ at h2
          rw [h2] at h1
          exact h1
        have hfits : ∀ o, walkP (accJ L0 made j).1 j [] Mp.empty = some o → FitsP (tsOf W) o ∧ o.length ≤ j := fun o ho => by
          have h2 : (accJ L0 made j).1.length = j := by rw [← htsX, tsOf_len, hlX]
          have h1 := serial_fits (l := (accJ L0 made j).1) (o := o) (by rw [h2]; exact ho)
          refine ⟨by rw [htW]; exact h1, nodup_le j o h1.1 (fun x hx => by have := h1.2.1 x hx; omega)⟩
        generalize walkP (accJ L0 made j).1 j [] Mp.empty = q at hser hmade hfits
        have HSER := Lib.hid hser; clear hser
        have HRW := Lib.hid hRW; clear hRW
        have HSW := Lib.hid sW; clear sW
        have HMADE := Lib.hid hmade; clear hmade
        have HFITS := Lib.hid hfits; clear hfits
        clear hI rX sX rW hown htsX hXt hRX htW hlX hlW
        go_wp2_with fail
        refine HSER.out.mono ?_
        rintro e w3 ⟨A3, k3, c3, rfl, hk3, hrd3, hb3⟩
        have hbf : Below w.heap.size w w3 := hbo.trans (hb3.mono hbo.size)
        rcases q with _ | o
        · cases made
          · have HK := Lib.hid hk3; clear hk3
            clear hrd3
            go_wp2_with fail
            go_ret
            exact ⟨rfl, hbf⟩
          · have := HMADE.out rfl
            cases this
        · obtain ⟨hf, hol⟩ := HFITS.out o rfl
          have hk3 : k3 = o.length := hk3
          subst hk3
          have hrd3' : Rd w3 w3.heap.size 1 A3 o.length (intsV o) := hrd3
          have hfa := fits_any W o w3.heap.size j c5 o.length c3 A5 A3 w3 ((HRW.out.below hb3).more hb3.size) (Nat.le_refl _) (by omega) (fun x hx => by have := HSW.out x hx; omega) hrd3' (by omega)
          have HFA := Lib.hid hfa; clear hfa
          have HF := Lib.hid hf; clear hf
          clear hrd3 hrd3'
          cases made
          all_goals
            go_wp2_with fail
            refine HFA.out.mono ?_
            rintro e w4 ⟨rfl, hb4⟩
            rw [decide_eq_true HF.out]
            have hbf4 := hbf.trans (hb4.mono hbf.size)
            go_wp2_with fail
            go_ret
            exact ⟨rfl, hbf4⟩
  · have d0 : decide ((8 : Int) < n) = true := by simp; omega
    go_enter Try.func4, Try.ntmps4
    go_wp2_with fail
    go_ret
    exact ⟨rfl, Below.refl _ _⟩
end Go.Proofs.Ytnahkpfamocnfaa
