/- locks: nobody is in the way: what stays true of a key's holders and of those that wait, at each Lock and Release. -/
import Derived.Test.YtopmehbncidpnaaGreatDoorLkP
namespace Go.Proofs.YtopmehbncidpnaaGreatDoor
structure GoodK (P : Int → Prop) (k : Kx) : Prop where
  one : ∀ o, k.h o = some 2 → ∀ p m, k.h p = some m → p = o
  hm : ∀ o m, k.h o = some m → OkMode m ∧ 0 ≤ o ∧ o < 9
  wm : ∀ w ∈ k.ws, OkMode w.2 ∧ 0 ≤ w.1 ∧ w.1 < 9
  sorted : k.ws.Pairwise (·.1 < ·.1)
  held : k.ws ≠ [] → ∃ o m, k.h o = some m
  elder : ∀ o, ¬ P o → k.h o = some 2 → ∀ w ∈ k.ws, o ≤ w.1
def GoodT (P : Int → Prop) (T : Tb) : Prop := ∀ x k, T x = some k → GoodK P k
theorem OkMode.two {m : Int} (h : OkMode m) (hc : ∀ n, clash m n = true → False) : m = 1 := by
  rcases h with h | h
  · exact h
  · exact (hc 1 (by simp [clash, h])).elim
theorem holdK_some {h : Int → Option Int} {tx m : Int} (e : h tx = some m) : holdK h tx = m := by simp [holdK, e]
theorem gain_of_le {h : Int → Option Int} {tx mode : Int} (hm : OkMode mode) (hle : mode ≤ holdK h tx) : gainH h tx mode = h := by
  funext o
  unfold gainH setH
  split
  · rename_i e
    subst e
    cases e2 : h o with
    | none => unfold holdK at hle; rw [e2] at hle; unfold OkMode at hm; simp at hle; omega
    | some m => rw [holdK_some e2] at hle ⊢; rw [Int.max_eq_left hle]
  · rfl
theorem gain_two {h : Int → Option Int} {tx mode o : Int} (hm : OkMode mode) (hh : ∀ o m, h o = some m → OkMode m) (e : gainH h tx mode o = some 2) : (o = tx ∧ (mode = 2 ∨ h tx = some 2)) ∨ (o ≠ tx ∧ h o = some 2) := by
  unfold gainH setH at e
  split at e
  · rename_i e1
    injection e with e
    refine .inl ⟨e1, ?_⟩
    unfold OkMode at hm
    rcases hm with h1 | h1
    · right
      unfold holdK at e
      cases e2 : h tx with
      | none => rw [e2] at e; simp at e; omega
      | some m =>
        rw [e2] at e
        have := hh _ _ e2
        simp at e
        have : m = 2 := by unfold OkMode at this; omega
        rw [this]
    · exact .inl h1
  · rename_i e1; exact .inr ⟨e1, e⟩
structure RgI (P : Int → Prop) (h : Int → Option Int) (ws : List (Int × Int)) : Prop where
  one : ∀ o, h o = some 2 → ∀ p m, h p = some m → p = o
  hm : ∀ o m, h o = some m → OkMode m ∧ 0 ≤ o ∧ o < 9
  wm : ∀ w ∈ ws, OkMode w.2 ∧ 0 ≤ w.1 ∧ w.1 < 9
  sorted : ws.Pairwise (·.1 < ·.1)
  elder : ∀ o, ¬ P o → h o = some 2 → ∀ w ∈ ws, o ≤ w.1
/-- A key gets a holder that is free to have it; 'rest': those that go on waiting. -/
theorem RgI.gain {P : Int → Prop} {h : Int → Option Int} {ws rest left : List (Int × Int)} {tx mode : Int} (r : RgI P h ws) (hm : OkMode mode) (htx : 0 ≤ tx ∧ tx < 9) (hf : FreeK h tx mode left)
    (hsub : ∀ w ∈ rest, w ∈ ws) (hs : rest.Pairwise (·.1 < ·.1)) (hl : ∀ w ∈ rest, w.1 < tx → w ∈ left) : RgI P (gainH h tx mode) rest := by
  rcases hf with hf | ⟨hf, hb⟩
  · rw [gain_of_le hm hf]
    exact ⟨r.one, r.hm, fun w hw => r.wm w (hsub w hw), hs, fun o ho h2 w hw => r.elder o ho h2 w (hsub w hw)⟩
  · have hh := fun o m (e : h o = some m) => (r.hm o m e).1
    have hmem : ∀ p m, gainH h tx mode p = some m → p = tx ∨ (p ≠ tx ∧ h p = some m) := fun p m e => by
      unfold gainH setH at e
      split at e
      · rename_i e1; exact .inl e1
      · rename_i e1; exact .inr ⟨e1, e⟩
    refine ⟨fun o ho p m hp => ?_, fun o m ho => ?_, fun w hw => r.wm w (hsub w hw), hs, fun o hP ho w hw => ?_⟩
    · rcases gain_two hm hh ho with ⟨rfl, h2⟩ | ⟨hne, h2⟩
      · rcases hmem p m hp with h3 | ⟨h3, h4⟩
        · exact h3
        · rcases h2 with h2 | h2
          · have := hf p m h4 h3; simp [clash, h2] at this
          · exact r.one o h2 p m h4
      · have := hf o 2 h2 hne; simp [clash] at this
    · rcases hmem o m ho with rfl | ⟨h3, h4⟩
      · refine ⟨?_, htx⟩
        unfold gainH setH at ho
        rw [if_pos rfl] at ho
        injection ho with ho
        unfold holdK at ho
        unfold OkMode at *
        cases e2 : h o with
        | none => rw [e2] at ho; simp at ho; omega
        | some m2 => rw [e2] at ho; have := (r.hm _ _ e2).1; unfold OkMode at this; simp at ho; omega
      · exact r.hm o m h4
    · rcases gain_two hm hh ho with ⟨rfl, h2⟩ | ⟨hne, h2⟩
      · rcases h2 with h2 | h2
        · refine Int.not_lt.1 (fun hlt => ?_)
          have h5 := hl w hw hlt
          unfold behind at hb
          rw [List.any_eq_false] at hb
          exact hb w h5 (by simp [hlt, clash, h2])
        · exact r.elder o hP h2 w (hsub w hw)
      · exact r.elder o hP h2 w (hsub w hw)
theorem regrant_good {P : Int → Prop} : ∀ (ws left : List (Int × Int)) (h : Int → Option Int), RgI P h (left ++ ws) → (left ≠ [] → ∃ o m, h o = some m) →
    RgI P (regrant h left ws).1 (regrant h left ws).2.1 ∧ ((regrant h left ws).2.1 ≠ [] → ∃ o m, (regrant h left ws).1 o = some m)
  | [], left, h, r, hh => by rw [regrant_nil]; simpa using And.intro r hh
  | w :: ws, left, h, r, hh => by
    have hw := r.wm w (by simp)
    have hs := List.pairwise_append.1 r.sorted
    have hs2 := List.pairwise_cons.1 hs.2.1
    unfold regrant
    by_cases e : freeB h w.1 w.2 left = true
    · rw [if_pos e]
      refine regrant_good ws left (gainH h w.1 w.2) (r.gain hw.1 hw.2 (freeB_true.1 e) (fun v hv => by simp at *; rcases hv with h | h; exact .inl h; exact .inr (.inr h)) (r.sorted.sublist (by simp)) (fun v hv hlt => ?_)) (fun _ => ⟨w.1, _, by simp [gainH, setH]; rfl⟩)
      rcases List.mem_append.1 hv with h | h
      · exact h
      · have := hs2.1 v h; omega
    · rw [if_neg e]
      refine regrant_good ws (left ++ [w]) h (by simpa using r) (fun _ => ?_)
      refine Classical.byContradiction (fun hno => e (freeB_true.2 (.inr ⟨fun o m ho => (hno ⟨o, m, ho⟩).elim, ?_⟩)))
      have : left = [] := Classical.byContradiction (fun h => hno (hh h))
      rw [this]; rfl
theorem GoodK.mono {P Q : Int → Prop} {k : Kx} (g : GoodK P k) (h : ∀ o, P o → Q o) : GoodK Q k := ⟨g.one, g.hm, g.wm, g.sorted, g.held, fun o ho => g.elder o (fun hp => ho (h o hp))⟩
/-- Release of one: the others go on. -/
theorem GoodK.rel {P : Int → Prop} {k : Kx} (g : GoodK P k) (tx : Int) : GoodK (fun o => P o ∧ o ≠ tx) (relK k tx).1 := by
  have h0 : RgI (fun o => P o ∧ o ≠ tx) (setH k.h tx none) ([] ++ offW k.ws tx) := by
    have hset : ∀ o m, setH k.h tx none o = some m → o ≠ tx ∧ k.h o = some m := fun o m e => by
      unfold setH at e
      split at e
      · cases e
      · rename_i h; exact ⟨h, e⟩
    rw [List.nil_append]
    refine ⟨fun o ho p m hp => g.one o (hset _ _ ho).2 p m (hset _ _ hp).2, fun o m ho => g.hm o m (hset _ _ ho).2, fun w hw => g.wm w (List.mem_filter.1 hw).1, offW_sorted g.sorted tx, fun o hP ho w hw => ?_⟩
    obtain ⟨h1, h2⟩ := hset _ _ ho
    exact g.elder o (fun hp => hP ⟨hp, h1⟩) h2 w (List.mem_filter.1 hw).1
  obtain ⟨h1, h2⟩ := regrant_good (offW k.ws tx) [] _ h0 (fun h => absurd rfl h)
  exact ⟨h1.one, h1.hm, h1.wm, h1.sorted, h2, h1.elder⟩
theorem GoodT.rel {P : Int → Prop} {T : Tb} (g : GoodT P T) (tx : Int) : GoodT (fun o => P o ∧ o ≠ tx) (relT T tx) := fun x k hk => by
  unfold relT at hk
  cases hT : T x with
  | none => rw [hT] at hk; cases hk
  | some k1 =>
    rw [hT] at hk
    simp only [Option.bind_some, relO] at hk
    split at hk
    · cases hk
    · injection hk with hk; rw [← hk]; exact (g x k1 hT).rel tx
theorem GoodT.mono {P Q : Int → Prop} {T : Tb} (g : GoodT P T) (h : ∀ o, P o → Q o) : GoodT Q T := fun x k hk => (g x k hk).mono h
theorem GoodK.k0 (P : Int → Prop) : GoodK P k0 := ⟨fun o h => by simp [Go.Proofs.YtopmehbncidpnaaGreatDoor.k0] at h, fun o m h => by simp [Go.Proofs.YtopmehbncidpnaaGreatDoor.k0] at h, fun w h => by simp [Go.Proofs.YtopmehbncidpnaaGreatDoor.k0] at h, List.Pairwise.nil, fun h => absurd rfl h, fun o _ h => by simp [Go.Proofs.YtopmehbncidpnaaGreatDoor.k0] at h⟩
theorem GoodT.at_ {P : Int → Prop} {T : Tb} (g : GoodT P T) (x : Sx) : GoodK P (atT T x) := by
  unfold atT
  cases h : T x with
  | none => exact GoodK.k0 P
  | some k => exact g x k h
/-- Lock: whoever is wounded is the only one whom a younger.. (see the fields) is waited for; all others are elder. -/
theorem GoodT.lock {T T' : Tb} (g : GoodT (fun _ => False) T) {x : Ak} (hx : 0 ≤ x.tx ∧ x.tx < 9) {ok : Bool} {l : List Int} {e : Int} (h : LockP T x ok l e T') : GoodT (fun o => o ∈ l) T' := by
  have ga := g.at_ x.key
  have keep : ∀ (k : Kx), GoodK (fun o => o ∈ l) k → GoodT (fun o => o ∈ l) (putT T x.key (some k)) := fun k gk y k' hk => by
    unfold putT at hk
    split at hk
    · injection hk with hk; rw [← hk]; exact gk
    · exact (g y k' hk).mono (fun o h => h.elim)
  cases h with
  | arg h => exact g.mono (fun o h => h.elim)
  | long h hl => exact g.mono (fun o h => h.elim)
  | twice h hl hw => exact g.mono (fun o h => h.elim)
  | full h hl hw hf h50 => exact g.mono (fun o h => h.elim)
  | got h hl hw hf =>
    refine keep _ ?_
    have r : RgI (fun _ => False) (atT T x.key).h (atT T x.key).ws := ⟨ga.one, ga.hm, ga.wm, ga.sorted, ga.elder⟩
    have r2 := r.gain h hx (freeB_true.1 hf) (fun w hw => hw) ga.sorted (fun w hw _ => hw)
    exact ⟨r2.one, r2.hm, r2.wm, r2.sorted, fun _ => ⟨x.tx, _, by simp [gainH, setH]; rfl⟩, fun o _ ho => r2.elder o (fun h => h) ho⟩
  | waits h hl hw hf h50 hls =>
    refine keep _ ?_
    have hnw : ∀ v ∈ (atT T x.key).ws, v.1 ≠ x.tx := fun v hv e => by
      unfold waitsB at hw
      rw [List.any_eq_false] at hw
      exact hw v hv (by simpa using e)
    have hex : ∃ o m, (atT T x.key).h o = some m := Classical.byContradiction (fun hno => by
      have h1 : (atT T x.key).ws = [] := Classical.byContradiction (fun h => hno (ga.held h))
      exact (freeB_false.1 hf) (.inr ⟨fun o m ho => (hno ⟨o, m, ho⟩).elim, by rw [h1]; rfl⟩))
    refine ⟨ga.one, ga.hm, fun w hw => ?_, insW_sorted ga.sorted hnw, fun _ => hex, fun o ho h2 w hw => ?_⟩
    · rcases insW_mem.1 hw with rfl | hw
      · exact ⟨h, hx⟩
      · exact ga.wm w hw
    · rcases insW_mem.1 hw with rfl | hw
      · refine Int.not_lt.1 (fun hlt => ho ((hls.2 o).2 ⟨hlt, 2, h2, by simp [clash]⟩))
      · exact ga.elder o (fun h => h) h2 w hw
/-! what the statement counts -/
def cntK (h : Int → Option Int) : Nat → Nat × Nat × Int
  | 0 => (0, 0, -1)
  | n + 1 => if holdK h n = 1 then ((cntK h n).1 + 1, (cntK h n).2.1, n) else if holdK h n = 2 then ((cntK h n).1 + 1, (cntK h n).2.1 + 1, n) else cntK h n
theorem cntK_le (h : Int → Option Int) : ∀ n, (cntK h n).1 ≤ n ∧ (cntK h n).2.1 ≤ n ∧ (cntK h n).2.1 ≤ (cntK h n).1 ∧ -1 ≤ (cntK h n).2.2 ∧ (cntK h n).2.2 < n
  | 0 => by simp [cntK]
  | n + 1 => by
    have := cntK_le h n
    unfold cntK
    split
    · simp; omega
    · split
      · simp; omega
      · omega
theorem cntK_zero {h : Int → Option Int} : ∀ {n}, (cntK h n).1 = 0 → ∀ o : Nat, o < n → holdK h o ≠ 1 ∧ holdK h o ≠ 2
  | 0, _, o, ho => absurd ho (by omega)
  | n + 1, h0, o, ho => by
    unfold cntK at h0
    split at h0
    · simp at h0
    · split at h0
      · simp at h0
      · rename_i h1 h2
        by_cases e : o = n
        · subst e; exact ⟨h1, h2⟩
        · exact cntK_zero h0 o (by omega)
theorem cntK_w {h : Int → Option Int} : ∀ {n}, 0 < (cntK h n).2.1 → ∃ o : Nat, o < n ∧ holdK h o = 2
  | 0, h0 => absurd h0 (by simp [cntK])
  | n + 1, h0 => by
    unfold cntK at h0
    split at h0
    · obtain ⟨o, h1, h2⟩ := cntK_w h0; exact ⟨o, by omega, h2⟩
    · split at h0
      · rename_i h2; exact ⟨n, by omega, h2⟩
      · obtain ⟨o, h1, h2⟩ := cntK_w h0; exact ⟨o, by omega, h2⟩
/-- With one that holds it by Writes it is the only one. -/
theorem cntK_one {h : Int → Option Int} {o : Nat} (hu : ∀ p : Nat, holdK h p = 1 ∨ holdK h p = 2 → p = o) : ∀ n, (cntK h n).1 ≤ 1 ∧ ((cntK h n).1 = 1 → (cntK h n).2.2 = o ∧ o < n)
  | 0 => by simp [cntK]
  | n + 1 => by
    have ih := cntK_one hu n
    unfold cntK
    have hz : n = o → (cntK h n).1 = 0 := fun e => by
      rcases Nat.lt_or_ge 0 (cntK h n).1 with h1 | h1
      · have := (ih.2 (by omega)).2; omega
      · omega
    split
    · rename_i h1; have e := hu n (.inl h1); have z := hz e; exact ⟨by simp only; omega, fun _ => ⟨by simp only; omega, by omega⟩⟩
    · split
      · rename_i h1; have e := hu n (.inr h1); have z := hz e; exact ⟨by simp only; omega, fun _ => ⟨by simp only; omega, by omega⟩⟩
      · exact ⟨ih.1, fun h => ⟨(ih.2 h).1, by have := (ih.2 h).2; omega⟩⟩
theorem holdK_nat {h : Int → Option Int} {o : Int} {m : Int} (e : holdK h o = m) (hm : OkMode m) : h o = some m := by
  unfold holdK at e
  cases e2 : h o with
  | none => rw [e2] at e; simp at e; unfold OkMode at hm; omega
  | some m2 => rw [e2] at e; simp at e; rw [e]
/-- What the statement asks of a key. -/
theorem GoodK.asks {k : Kx} (g : GoodK (fun _ => False) k) : ¬ (0 < (cntK k.h 9).2.1 ∧ 1 < (cntK k.h 9).1) ∧ (k.ws ≠ [] → 0 < (cntK k.h 9).1) ∧ ∀ w ∈ k.ws, ¬ (0 < (cntK k.h 9).2.1 ∧ w.1 < (cntK k.h 9).2.2) := by
  have hone : 0 < (cntK k.h 9).2.1 → ∃ o : Nat, o < 9 ∧ k.h o = some 2 ∧ (cntK k.h 9).1 ≤ 1 ∧ (cntK k.h 9).2.2 = o := fun h0 => by
    obtain ⟨o, h1, h2⟩ := cntK_w h0
    have h3 := holdK_nat h2 (.inr rfl)
    have hu : ∀ p : Nat, holdK k.h p = 1 ∨ holdK k.h p = 2 → p = o := fun p hp => by
      rcases hp with hp | hp
      · have := g.one o h3 p _ (holdK_nat hp (.inl rfl)); omega
      · have := g.one o h3 p _ (holdK_nat hp (.inr rfl)); omega
    have h4 := cntK_one hu 9
    have h5 := cntK_le k.h 9
    exact ⟨o, h1, h3, h4.1, (h4.2 (by omega)).1⟩
  refine ⟨fun ⟨h1, h2⟩ => ?_, fun hw => ?_, fun w hw ⟨h1, h2⟩ => ?_⟩
  · obtain ⟨o, _, _, h3, _⟩ := hone h1; omega
  · obtain ⟨o, m, ho⟩ := g.held hw
    refine Nat.pos_of_ne_zero (fun h0 => ?_)
    have h1 := g.hm o m ho
    have h2 := cntK_zero h0 o.toNat (by omega)
    have e : ((o.toNat : Nat) : Int) = o := by omega
    rw [e, holdK_some ho] at h2
    unfold OkMode at h1
    omega
  · obtain ⟨o, _, h3, _, h5⟩ := hone h1
    have := g.elder o (fun h => h) h3 w hw
    omega
end Go.Proofs.YtopmehbncidpnaaGreatDoor
