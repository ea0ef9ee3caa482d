/- chainmaillaw.WireLogs: the walk. -/
import Derived.Test.YtnahkpfamocnfaaDoorLogR
import Derived.Test.YtnahkpfamocnfaaDoorMsgsW
namespace Go.Proofs.YtnahkpfamocnfaaDoor
open Go.RowKit
def lenOf : Value → Nat | .slice _ n _ => n | _ => 0
theorem cmd_info : (Tryd.prog.info? 24).map (fun i => (i.zero, i.size, i.bytes)) = some (some (.agg #[.int .i64 0, .int .i64 0, .int .i64 0, .slice none 0 0]), 4, 48) := by kernel_rfl
def FewRel (l : List CmR) (n : Nat) (w : World) (i : Value) (wr : World) : Prop :=
  ∃ j : Nat, i = .int .i64 j ∧ j ≤ n ∧ (∀ x ∈ l.take j, x.n ≤ 40) ∧ Below w.heap.size w wr
/-- What the second half takes: the log (lengthened or not), and a world behind. -/
def Ready (w : World) (u : Value) (wx : World) : Prop :=
  ∃ A n k l B, u = .slice A n k ∧ ReadsC wx B A n l ∧ B ≤ wx.heap.size ∧ n ≤ 600 ∧ (∀ x ∈ l, smallC x.c) ∧ Below w.heap.size w wx
def GrowRel (w : World) (u : Value) (wr : World) : Prop :=
  ∃ l' : List CmR, wr.ownsRow w.heap.size 24 4 u l'.length (l'.flatMap crCells) ∧ l'.length ≤ 502 ∧ (∀ x ∈ l', smallC x.c ∧ ReadsP wr w.heap.size x.A x.n x.c.writes) ∧ Below w.heap.size w wr
theorem target_le (x : Int) : wrap64 (499 + wrap64 ((IntKind.u64.wrap x).tmod 3)) ≤ 501 := by
  have h0 : 0 ≤ IntKind.u64.wrap x := by rw [IntKind.wrap_u64]; omega
  have h1 : (IntKind.u64.wrap x).tmod 3 = IntKind.u64.wrap x % 3 := Int.tmod_eq_emod_of_nonneg h0
  rw [h1, IntWalk.wrap64_in (IntKind.u64.wrap x % 3) ⟨by omega, by omega⟩, IntWalk.wrap64_in _ ⟨by omega, by omega⟩]
  omega
theorem cr_one (l : List CmR) : ∀ u ∈ l.flatMap crCells, u.oneCell' = true := by
  intro u hu
  obtain ⟨x, _, hx⟩ := List.mem_flatMap.1 hu
  simp [crCells] at hx
  rcases hx with rfl | rfl | rfl | rfl <;> rfl
set_option maxRecDepth 100000 in
set_option maxHeartbeats 1000000 in
theorem logs_walk (l : List CmR) (B : Nat) (A : Option Addr) (n k : Nat) (many : Int) (w : World) (hs : ∀ x ∈ l, ∀ p ∈ x.c.writes, small p) (hr : ReadsC w B A n l) (hB : B ≤ w.heap.size) (hL : Laid w) :
    Calls Tryd.prog 4 #[.slice A n k, .int .i64 many] w fun e w' => e = .returned (.bool true) ∧ Below w.heap.size w w' := by
  by_cases hn : (60 : Int) < n
  · go_enter Tryd.func4, Tryd.ntmps4
    go_wp2_with fail
    go_ret
    exact ⟨rfl, Below.refl _ _⟩
  · have hn60 : n ≤ 60 := by omega
    go_enter Tryd.func4, Tryd.ntmps4
    go_wp2_with fail
    go_loopw [5] (FewRel l n w) (fun i _ => n - (intOf i).toNat)
    case atStart => exact ⟨0, rfl, Nat.zero_le _, (fun x hx => by simp at hx), Below.refl _ _⟩
    case round =>
      obtain ⟨j, rfl, hj, hfew, hbw⟩ := hrel
      have HF := Lib.hid hfew; clear hfew
      by_cases hlt : (j : Int) < n
      · obtain ⟨g, off, x, rfl, hab, hx, hk0, hk1, hk2, hk3, hrp⟩ := hr.at_ (k := j) (by omega)
        have hcar : ∀ (o : Nat) (u : Value), w.cell? ⟨g, o, none⟩ = some u → wr.cell? ⟨g, o, none⟩ = some u := fun o u h => by
          rw [hbw.cell (p := ⟨g, o, none⟩) (by show g < _; omega)]
          exact h
        have hq0 := hcar _ _ hk0
        have hq1 := hcar _ _ hk1
        have hq2 := hcar _ _ hk2
        have hq3 := hcar _ _ hk3
        clear hk0 hk1 hk2 hk3
        have HX := Lib.hid hx; clear hx
        have HCA := Lib.hid hcar; clear hcar
        have hfew2 := few_any x.c x.A x.n x.k
        unfold cmdV at hfew2
        have HFEW := Lib.hid hfew2; clear hfew2
        go_wp2_with fail
        refine (HFEW.out _).mono ?_
        rintro e w1 ⟨rfl, hb1⟩
        have hb2 : Below w.heap.size w w1 := hbw.trans (hb1.mono hbw.size)
        by_cases h40 : (x.n : Int) ≤ 40
        · rw [decide_eq_true h40]
          go_wp2_with fail
          go_roundw
          case rel =>
            refine ⟨j + 1, rfl, by omega, fun y hy => ?_, hb2⟩
            rw [List.take_add_one, HX.out] at hy
            rcases List.mem_append.1 hy with hy | hy
            · exact HF.out y hy
            · simp at hy; subst hy; omega
          case measure => simp [intOf]; omega
        · rw [decide_eq_false h40]
          go_wp2_with fail
          go_ret
          exact ⟨rfl, hb2⟩
      · have hjn : j = n := by omega
        subst hjn
        have hsm : ∀ x ∈ l, smallC x.c := fun x hx => ⟨by
          have h1 := HF.out x (by rw [List.take_of_length_le (Nat.le_of_eq hr.1)]; exact hx)
          rw [(hr.2.2 x hx).1]; exact h1, hs x hx⟩
        have HSM := Lib.hid hsm; clear hsm HF
        go_upto_region 8 with (fail)
        go_cut [32] (fun s32 wx => ∃ b : Bool, s32 = .bool b ∧ wx = wr)
        case first =>
          by_cases h7 : (many.tmod 50 == 7) = true
          · go_wp2_with fail
            go_meet
            exact ⟨_, rfl, rfl⟩
          · have h7' : (many.tmod 50 == 7) = false := by simpa using h7
            clear h7
            go_wp2_with fail
            go_meet
            exact ⟨_, rfl, rfl⟩
        case rest =>
          obtain ⟨b, rfl, rfl⟩ := hcut
          go_upto_if 32 with (fail)
          go_cut [0] (fun s0 wx => Ready w s0 wx)
          case first =>
            rcases b with _ | _
            · go_wp2_with fail
              go_meet
              exact ⟨A, j, k, l, B, rfl, hr.below (hbw.mono hB), by have := hbw.size; omega, by omega, HSM.out, hbw⟩
            · go_wp2_with (at_builtin; refine stop ?_)
              have how : (wc.alloc (.cells #[] 24)).ownsRow w.heap.size 24 4 (.slice (some ⟨wc.heap.size, 0, none⟩) 0 0) 0 [] := by
                simpa using World.ownsRow_lit (base := w.heap.size) (e := 24) (size := 4) wc #[] 0 hbw.size (by unfold maxLen; omega) rfl
              have hrd := (hr.below (hbw.mono hB)).2.1.below ((Below.refl _ _).alloc (by have := hbw.size; omega) (.cells #[] 24))
              refine back ?_
              refine wpList_appendR _ rfl (.tmp 33) (.tmp 34) 38 rfl w.heap.size 24 _ 4 48 Tryd.underlying38 cmd_info rfl (by decide) _ 0 [] rfl how B A j k (l.flatMap crCells) rfl hrd.reads (cr_one l) (by unfold maxLen; omega) (by omega) (by have := hbw.size; simp; omega) ?_
              intro v1 w1 ho1 hm1
              have hb1 : Below w.heap.size w w1 := (hbw.alloc hbw.size _).trans (hm1.below (fun g hg => by cases hg; exact hbw.size) (by have := hbw.size; simp; omega))
              have hG : GrowRel w v1 w1 := by
                refine ⟨l, ?_, by rw [hr.1]; omega, fun x hx => ⟨HSM.out x hx, ⟨(hr.2.2 x hx).1, ((hr.2.2 x hx).2.below (hb1.mono hB)).more hB⟩⟩, hb1⟩
                rw [hr.1]
                simpa using ho1
              have HG := Lib.hid hG; clear hG ho1 how hrd
              go_wp2_with fail
              go_loopw [0] (GrowRel w) (fun u _ => 600 - lenOf u)
              case atStart => exact HG.out
              case round =>
                clear HG
                obtain ⟨l', ho, hl', hx', hb'⟩ := hrel
                obtain ⟨A', c', rfl, _, _⟩ := own_slice ho
                have HO := Lib.hid ho; clear ho
                have HX' := Lib.hid hx'; clear hx'
                clear hr
                go_wp2_with (at_builtin; refine stop ?_)
                · rename_i hlt2
                  have hT := target_le ((IntKind.u64.wrap many).tdiv 50)
                  have hlen : (l'.length : Int) < wrap64 (499 + wrap64 ((IntKind.u64.wrap ((IntKind.u64.wrap many).tdiv 50)).tmod 3)) := by assumption
                  have hle : l'.length + 1 ≤ 501 := by omega
                  have HLE := Lib.hid hle; clear hlen hT
                  refine back ?_
                  refine wpList_append1 wr _ rfl (.tmp 45) (.tmp 49) 38 rfl w.heap.size 24 _ 4 48 Tryd.underlying38 cmd_info rfl (by decide) _ _ _ #[.int .i64 4, .int .i64 l'.length, .int .i64 0, .slice none 0 0] rfl HO.out 1 rfl _ rfl rfl (by simp [Value.oneCell']) (by unfold maxLen; omega) (by omega) hb'.size ?_
                  intro v2 w2 ho2 hm2
                  obtain ⟨A2, c2, rfl, _, _⟩ := own_slice ho2
                  have hb2 : Below w.heap.size w w2 := hb'.trans (hm2.below (fun g hg => (HO.out.lt g hg).1) hb'.size)
                  have hn2 : Below w.heap.size wr w2 := hm2.below (fun g hg => (HO.out.lt g hg).1) hb'.size
                  have hG : GrowRel w (.slice A2 (l'.length + 1) c2) w2 := by
                    refine ⟨l' ++ [⟨⟨4, l'.length, 0, []⟩, none, 0, 0⟩], by simpa [crCells] using ho2, by simp; omega, fun x hx => ?_, hb2⟩
                    rcases List.mem_append.1 hx with hx | hx
                    · have h := HX'.out x hx
                      exact ⟨h.1, ⟨h.2.1, h.2.2.below hn2⟩⟩
                    · simp at hx
                      subst hx
                      exact ⟨⟨by simp, fun p hp => by cases hp⟩, rfl, Rd.none_ _ _ _ _⟩
                  have HG := Lib.hid hG; clear hG ho2
                  go_wp2_with fail
                  go_roundw
                  case rel => exact HG.out
                  case measure => simp [lenOf]; omega
                · go_wp2_with fail
                  go_meet
                  exact ⟨A', l'.length, c', l', wr.heap.size, rfl, ⟨rfl, Rd.of_own HO.out, fun x hx => (HX'.out x hx).2.more hb'.size⟩, Nat.le_refl _, by omega, fun x hx => (HX'.out x hx).1, hb'⟩
          case rest =>
            obtain ⟨A2, n2, k2, l2, B2, rfl, hr2, hB2, hn2, hs2, hb2⟩ := hcut
            have HS2 := Lib.hid hs2; clear hs2
            have hL2 : Laid wc := hL.below hb2 (by have := hL.pos; omega)
            have HL2 := Lib.hid hL2; clear hL2
            clear hr HSM
            go_wp2_with fail
            refine (rlog_any l2 B2 A2 n2 k2 wc HS2.out hr2 hB2 (by omega)).mono ?_
            rintro e w2 ⟨A3, c3, rfl, hr3, hf3, hb3⟩
            have HR3 := Lib.hid hr3; clear hr3 hf3
            go_wp2_with fail
            refine (wlog_any l2 B2 A2 n2 k2 w2 HS2.out (hr2.below (hb3.mono hB2)) (by have := hb3.size; omega) (by omega)).mono ?_
            rintro e w3 ⟨A4, c4, rfl, hr4, hf4, hb4⟩
            have hr3' := HR3.out.below hb4
            have hBf : Below w.heap.size w w3 := (hb2.trans (hb3.mono hb2.size)).trans (hb4.mono (by have := hb2.size; have := hb3.size; omega))
            have hL3 : Laid w3 := hL.below hBf (by have := hL.pos; omega)
            have HL3 := Lib.hid hL3; clear hL3 HL2
            have HR3' := Lib.hid hr3'; clear hr3' HR3
            have HR4 := Lib.hid hr4; clear hr4 hf4
            generalize hE : errV (outS (logS (csOf l2))).2 = ev
            have HE := Lib.hid hE; clear hE
            generalize hG : (outS (logS (csOf l2))).2 = er
            have HG := Lib.hid hG; clear hG
            generalize hK : (outS (logS (csOf l2))).1 = bs
            rw [hK] at HR3' HR4
            clear hK
            go_wp2_with fail
            have hev : ev = errV er := by rw [← HE.out, HG.out]
            rw [hev]
            refine (bare_any er er w3 HL3.out).mono ?_
            rintro e w4 ⟨rfl, hb5⟩
            have hc2 := run_string_of (P := Tryd.prog) w4 28 9 5 Tryd.underlying28 Tryd.underlying5 Tryd.underlying9 _ _ c3 A3 bs ((HR3'.out.below (hb5.mono hb4.size)).reads)
            have hc3 := run_string_of (P := Tryd.prog) w4 28 9 5 Tryd.underlying28 Tryd.underlying5 Tryd.underlying9 _ _ c4 A4 bs ((HR4.out.below hb5).reads)
            have he : (er == er) = true := by simp
            rw [he]
            clear hev HE HG HL3
            have hBf4 := hBf.trans (hb5.mono hBf.size)
            go_wp2_with fail
            go_ret
            exact ⟨rfl, hBf4⟩
end Go.Proofs.YtnahkpfamocnfaaDoor
