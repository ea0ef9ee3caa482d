/- chainmailkeep.locked, chainmailkeep.LocksApart: the walk. -/
import Derived.Test.YtnahkpfamocnfabLkC
import Derived.Test.YtnahkpfamocnfabPick
namespace Go.Proofs.Ytnahkpfamocnfab
open Go.RowKit
/-! the fact that is asked first -/
def xa : Sx := [97]
def T0 : Tb := fun _ => none
def h5 : Int → Option Int := gainH (fun _ => none) 5 2
noncomputable def T1 : Tb := putT T0 xa (some ⟨h5, []⟩)
noncomputable def T2 : Tb := putT T1 xa (some ⟨h5, [(3, 1)]⟩)
theorem at0 : atT T0 xa = k0 := rfl
theorem at1 : atT T1 xa = ⟨h5, []⟩ := by unfold atT T1 putT; rw [if_pos rfl]; rfl
theorem at2 : atT T2 xa = ⟨h5, [(3, 1)]⟩ := by unfold atT T2 putT; rw [if_pos rfl]; rfl
theorem free_empty (h : Int → Option Int) (hh : ∀ o, h o = none) (tx mode : Int) : freeB h tx mode [] = true := freeB_true.2 (.inr ⟨fun o m e => (by rw [hh] at e; cases e), rfl⟩)
theorem h5_eq : h5 = setH (fun _ => none) 5 (some 2) := by unfold h5 gainH; rfl
theorem first_lock {ok : Bool} {l : List Int} {er : Int} {T' : Tb} (h : LockP T0 ⟨5, xa, 2⟩ ok l er T') : ok = true ∧ er = 0 ∧ l = [] ∧ T' = T1 := by
  cases h with
  | arg h => exact absurd (show OkMode 2 from .inr rfl) h
  | long h hl => simp [xa] at hl
  | twice h hl hw => rw [at0] at hw; simp [waitsB, k0] at hw
  | got h hl hw hf => exact ⟨rfl, rfl, rfl, rfl⟩
  | full h hl hw hf h50 => rw [at0] at h50; simp [k0] at h50
  | waits h hl hw hf h50 hls => exact absurd (show freeB k0.h 5 2 [] = false from hf) (by rw [free_empty k0.h (fun o => rfl) 5 2]; decide)
theorem not_free : freeB h5 3 1 [] = false := freeB_false.2 (fun h => by
  rcases h with h | ⟨h, _⟩
  · simp [h5_eq, holdK, setH] at h
  · have := h 5 2 (by simp [h5_eq, setH]) (by decide)
    simp [clash] at this)
theorem second_lock {ok : Bool} {l : List Int} {er : Int} {T' : Tb} (h : LockP T1 ⟨3, xa, 1⟩ ok l er T') : ok = false ∧ er = 0 ∧ l = [5] ∧ T' = T2 := by
  cases h with
  | arg h => exact absurd (show OkMode 1 from .inl rfl) h
  | long h hl => simp [xa] at hl
  | twice h hl hw => rw [at1] at hw; simp [waitsB] at hw
  | got h hl hw hf => rw [at1, not_free] at hf; cases hf
  | full h hl hw hf h50 => rw [at1] at h50; simp at h50
  | waits h hl hw hf h50 hls =>
    rw [at1] at hls
    refine ⟨rfl, rfl, sorted_eqI hls.1 (by simp) (fun o => ?_), ?_⟩
    · rw [hls.2 o]
      simp only [List.mem_singleton]
      constructor
      · rintro ⟨h1, m, h2, h3⟩
        have h2' : h5 o = some m := h2
        rw [h5_eq] at h2'
        unfold setH at h2'
        split at h2'
        · assumption
        · cases h2'
      · rintro rfl
        exact ⟨by decide, 2, by show h5 5 = _; simp [h5_eq, setH], by simp [clash]⟩
    · show putT T1 xa _ = T2
      unfold T2
      rw [show atT T1 xa = ⟨h5, []⟩ from at1]
      rfl
theorem rel5 : relK ⟨h5, [(3, 1)]⟩ 5 = (⟨gainH (setH h5 5 none) 3 1, []⟩, [(3, 1)]) := by
  unfold relK
  have hf : freeB (setH h5 5 none) 3 1 [] = true := free_empty _ (fun o => by
    unfold setH
    split
    · rfl
    · rename_i e; rw [h5_eq]; unfold setH; rw [if_neg e]) _ _
  have e : offW [((3 : Int), (1 : Int))] 5 = [(3, 1)] := by simp [offW]
  rw [e]
  simp only [regrant]
  rw [if_pos hf]
theorem keys2 {ks : List Sx} (h : KeysP T2 ks) : ks = [xa] := sorted_eqS h.1 (by simp) (fun x => by
  rw [h.2 x, List.mem_singleton]
  unfold T2 T1 putT T0
  by_cases e : x = xa <;> simp [e])
theorem grants2 : [xa].flatMap (grantsOf T2 5) = [⟨3, xa, 1⟩] := by
  rw [List.flatMap_singleton]
  unfold grantsOf
  have : T2 xa = some ⟨h5, [(3, 1)]⟩ := by unfold T2 putT; rw [if_pos rfl]
  rw [this]
  simp only [rel5, List.map_cons, List.map_nil]
theorem hold3 : holdK (atT (relT T2 5) xa).h 3 = 1 := by
  have h2 : T2 xa = some ⟨h5, [(3, 1)]⟩ := by unfold T2 putT; rw [if_pos rfl]
  have hne : ¬ EmptyK (relK ⟨h5, [(3, 1)]⟩ 5).1 := fun h => by
    have := h.1 3
    rw [rel5] at this
    simp [gainH, setH] at this
  have : relT T2 5 xa = some ⟨gainH (setH h5 5 none) 3 1, []⟩ := by
    unfold relT
    rw [h2]
    show relO _ 5 = _
    unfold relO
    rw [if_neg hne, rel5]
  unfold atT
  rw [this]
  simp [holdK, gainH, setH, h5_eq]
  rfl
set_option maxRecDepth 100000 in
set_option maxHeartbeats 8000000 in
theorem locked_any (w : World) : Calls Try.prog 4 #[] w fun e w' => e = .returned (.bool true) ∧ Below w.heap.size w w' := by
  have ht := TA.new w
  have hsx : sx ⟨#[97]⟩ = xa := rfl
  have hk := ta_lock ht ⟨#[97]⟩ 5 2 (.inr rfl) (by rw [hsx]; decide) rfl (by omega) (by rw [hsx]; exact List.Pairwise.nil)
  have HK := Lib.hid hk; clear hk ht
  go_enter Try.func4, Try.ntmps4
  go_wp2_with fail
  refine HK.out.mono ?_
  rintro e w1 ⟨ok, l, er, T', A, c, rfl, hP, hta, hrd, _⟩
  obtain ⟨rfl, rfl, rfl, rfl⟩ := first_lock hP
  have ht1 : TA w.heap.size 2 T1 w (fun _ => False) w1 := hta.mono (by omega) (fun b h => h.elim)
  have hk := ta_lock ht1 ⟨#[97]⟩ 3 1 (.inl rfl) (by rw [hsx]; decide) rfl (by omega) (by rw [hsx, at1]; exact List.Pairwise.nil)
  clear HK hP hta hrd
  have HK := Lib.hid hk; clear hk ht1
  unfold erV
  go_wp2_with fail
  refine HK.out.mono ?_
  rintro e w2 ⟨ok, l, er, T', A2, c2, rfl, hP, hta, hrd, _⟩
  obtain ⟨rfl, rfl, rfl, rfl⟩ := second_lock hP
  obtain ⟨g2, o2, hA2, hg2, hc2⟩ := hrd.2 (by decide)
  subst hA2
  have hcl := hc2 0 (.int .i64 5) rfl
  have hkr := ta_release hta 5 rfl (by omega)
  clear HK hP hrd
  have HKR := Lib.hid hkr; clear hkr
  have HCL := Lib.hid hcl; clear hcl hc2
  clear hta
  unfold erV
  go_wp2_with fail
  refine HKR.out.mono ?_
  rintro e w3 ⟨V, ks, rfl, hks, hrow, hta, hsame, _⟩
  have hks := keys2 hks
  subst hks
  rw [grants2] at hrow
  obtain ⟨A3, c3, rfl, _, _⟩ := own_slice hrow
  obtain ⟨g3, o3, hA3, hg3, hc3⟩ := (Rd.of_own hrow).2 (by decide)
  subst hA3
  have cg := hc3 0 (.int .i64 3) rfl
  have cl := (World.cell?_of_block (a := ⟨g2, o2 + 0, none⟩) (hsame g2 (.inr ⟨o2, rfl, by decide⟩))).trans HCL.out
  have hho := ta_holds hta 3 ⟨#[97]⟩ (by rw [hsx]; decide) rfl
  rw [hsx, hold3] at hho
  have hbl : Below w.heap.size w w3 := by obtain ⟨_, _, _, h, _⟩ := hta; exact h
  rw [Nat.add_zero] at cg cl
  have hg23 : g2 < w3.heap.size := World.block_lt_of_cell? w3 _ cl
  have HHO := Lib.hid hho; clear hho
  have HBL := Lib.hid hbl; clear hbl
  clear hta hrow hsame hc3 HCL HKR
  go_wp2_with fail
  refine HHO.out.mono ?_
  rintro e w4 ⟨rfl, rfl⟩
  clear HHO
  go_wp2_with fail
  go_ret
  exact ⟨rfl, HBL.out⟩
end Go.Proofs.Ytnahkpfamocnfab
