/- locks: Release: one key is done. -/
import Derived.Test.YtopmehbncidpnaaGreatDoorRel1
namespace Go.Proofs.YtopmehbncidpnaaGreatDoor
open Go.RowKit Go.Maps Go.Sort Go.Shelf
open Classical in
noncomputable def tkT (T : Tb) (tx : Int) (ks : List Sx) (j : Nat) : Tb := fun x => if x ∈ ks.take j then (T x).bind fun k => relO k tx else T x
theorem tkT_0 (T : Tb) (tx : Int) (ks : List Sx) : tkT T tx ks 0 = T := by funext x; simp [tkT]
theorem tkT_all {T : Tb} {tx : Int} {ks : List Sx} (h : KeysP T ks) : tkT T tx ks ks.length = relT T tx := by
  funext x
  unfold tkT relT
  rw [List.take_length]
  split
  · rfl
  · rename_i hx
    have : T x = none := Classical.byContradiction fun h2 => hx ((h.2 x).2 h2)
    rw [this]; rfl
theorem sortedS_nodup {ks : List Sx} (h : ks.Pairwise (· < ·)) : ks.Nodup := List.Pairwise.imp (R := (· < ·)) (by intro a b h e; subst e; exact List.lt_irrefl _ h) h
theorem take_fresh {ks : List Sx} {j : Nat} {x : Sx} (h : ks.Nodup) (hx : ks[j]? = some x) : x ∉ ks.take j := fun hm => by
  obtain ⟨i, hi, he⟩ := List.mem_take_iff_getElem.1 hm
  obtain ⟨hj, hxe⟩ := List.getElem?_eq_some_iff.1 hx
  exact List.pairwise_iff_getElem.1 h i j (by omega) hj (by omega) (by rw [he, hxe])
theorem tkT_at {T : Tb} {tx : Int} {ks : List Sx} {j : Nat} {x : Sx} (hf : x ∉ ks.take j) : tkT T tx ks j x = T x := by unfold tkT; rw [if_neg hf]
theorem tkT_step {T : Tb} {tx : Int} {ks : List Sx} {j : Nat} {x : Sx} {k : Kx} (hx : ks[j]? = some x) (hT : T x = some k) : tkT T tx ks (j + 1) = putT (tkT T tx ks j) x (relO k tx) := by
  funext y
  unfold tkT putT
  rw [List.take_add_one, hx]
  by_cases e : y = x
  · subst e; simp [hT]
  · simp [e]
/-- The outer loop. -/
def RlRel (base n g off : Nat) (ty : TypeId) (cs : Array Value) (mb : Option Nat) (loc : Sx → KLoc) (T : Tb) (tx : Int) (w : World) (ks : List Sx) (Vk : Value) (v5 v19 : Value) (wr : World) : Prop :=
  ∃ (j : Nat) (loc' : Sx → KLoc) (gs : List Ak), v19 = .int .i64 j ∧ j ≤ ks.length ∧ gs = (ks.take j).flatMap (grantsOf T tx) ∧ TabI wr base (n + 50) g off ty cs mb loc' (tkT T tx ks j) ∧
    (∀ x k, T x = some k → x ∉ ks.take j → KeyI wr base n (loc' x) k) ∧ (∀ b, TFoot mb loc' (tkT T tx ks j) b → TFoot mb loc T b ∨ w.heap.size ≤ b) ∧ Fr (TFr g mb loc T) w wr ∧
    wr.ownsRow (w.heap.size + 1) 47 3 v5 gs.length (gs.flatMap akCells) ∧ gs.length ≤ 50 * j ∧ wr.ownsRow w.heap.size 9 1 Vk ks.length (ks.map encStr) ∧ Blk wr w.heap.size 3 #[.int .i64 tx]
def RelPost (base n g off : Nat) (ty : TypeId) (cs : Array Value) (mb : Option Nat) (loc : Sx → KLoc) (T : Tb) (tx : Int) (w : World) (e : Ending) (w' : World) : Prop :=
  ∃ (V : Value) (ks : List Sx) (loc' : Sx → KLoc), e = .returned V ∧ KeysP T ks ∧ w'.ownsRow (w.heap.size + 1) 47 3 V (ks.flatMap (grantsOf T tx)).length ((ks.flatMap (grantsOf T tx)).flatMap akCells) ∧
    TabI w' base (n + 50) g off ty cs mb loc' (relT T tx) ∧ (∀ b, TFoot mb loc' (relT T tx) b → TFoot mb loc T b ∨ w.heap.size ≤ b) ∧ Fr (TFr g mb loc T) w w'
/-- The inner loop: W the world ahead of it. -/
def InRel (base n : Nat) (L1 : KLoc) (h0 : Int → Option Int) (ws1 : List (Int × Int)) (B0 : Nat) (gs0 : List Ak) (x : Sx) (O0 : Option Nat) (W : World) (v5 v9 v48 : Value) (wr : World) : Prop :=
  ∃ (i : Nat) (h : Int → Option Int) (lf done : List (Int × Int)), v48 = .int .i64 i ∧ i ≤ ws1.length ∧ KeyI wr base (n + i) L1 ⟨h, ws1⟩ ∧ wr.ownsRow W.heap.size 62 2 v9 lf.length (lf.flatMap wtCells) ∧
    wr.ownsRow B0 47 3 v5 (gs0.length + done.length) ((gs0 ++ done.map fun d => (⟨d.1, x, d.2⟩ : Ak)).flatMap akCells) ∧
    regrant h0 [] ws1 = ((regrant h lf (ws1.drop i)).1, (regrant h lf (ws1.drop i)).2.1, done ++ (regrant h lf (ws1.drop i)).2.2) ∧ Fr (fun b => b = L1.hb ∨ O0 = some b) W wr ∧
    (∀ y ∈ lf, y ∈ ws1) ∧ lf.length ≤ i ∧ done.length ≤ i ∧ (∀ b, v5.ownBlock = some b → O0 = some b ∨ W.heap.size ≤ b)
theorem own_own_ne {w : World} {base base' size size' m m' : Nat} {e e' : TypeId} {v v' : Value} {xs xs' : List Value} (h : w.ownsRow base e size v m xs) (h' : w.ownsRow base' e' size' v' m' xs') (hne : e ≠ e') {b : Nat} (hb : v.ownBlock = some b) : v'.ownBlock ≠ some b := by
  rcases h.2 with ⟨rfl, _⟩ | ⟨g1, cap, cur, rfl, _, hh, _⟩
  · cases hb
  · have hb' : g1 = b := by injection hb
    subst hb'
    exact own_blk_ne h' (show Blk w g1 e cur from hh) (fun e => hne e.symm)
theorem TabI.notBlk {w : World} {base n g off : Nat} {ty : TypeId} {cs : Array Value} {mb : Option Nat} {loc : Sx → KLoc} {T : Tb} (h : TabI w base n g off ty cs mb loc T) {b : Nat} {t : TypeId} {cs' : Array Value} (hb : Blk w b t cs')
    (h1 : t ≠ ty) (h2 : t ≠ 65) (h3 : t ≠ 62) : b ≠ g ∧ ¬ TFoot mb loc T b := by
  refine ⟨hb.ne_ h.blk h1, ?_⟩
  rintro (hm | ⟨x, hx, hk⟩)
  · have := h.map
    rw [← hm] at this
    exact MapG.notBlk (C := kS) this hb rfl
  · obtain ⟨k, hk'⟩ := Option.ne_none_iff_exists'.1 hx
    have hK := h.keys x k hk'
    rcases hk with hk | hk | hk
    · exact hb.ne_ hK.blk h2 hk
    · exact hK.holds.notBlk hb hk.symm
    · exact own_blk_ne hK.row hb (fun e => h3 e.symm) hk
theorem regrant_no {h : Int → Option Int} {lf ws : List (Int × Int)} {y : Int × Int} (hf : freeB h y.1 y.2 lf = false) : regrant h lf (y :: ws) = regrant h (lf ++ [y]) ws := by
  rw [regrant, if_neg (by simp [hf])]
theorem regrant_yes {h : Int → Option Int} {lf ws : List (Int × Int)} {y : Int × Int} (hf : freeB h y.1 y.2 lf = true) : regrant h lf (y :: ws) = ((regrant (gainH h y.1 y.2) lf ws).1, (regrant (gainH h y.1 y.2) lf ws).2.1, y :: (regrant (gainH h y.1 y.2) lf ws).2.2) := by
  rw [regrant, if_pos hf]
section
variable {base n g off b : Nat} {ty : TypeId} {cs : Array Value} {loc loc' : Sx → KLoc} {T : Tb} {tx : Int} {w W0 w7 : World} {ks : List Sx} {Vk v5 V9 v5' : Value} {j : Nat} {x : Sx} {k : Kx} {h : Int → Option Int} {lf done : List (Int × Int)} {gs : List Ak}
/-- One key is done. -/
theorem rl_step (hty : ty ≠ 9 ∧ ty ≠ 47 ∧ ty ≠ 3) (hI : TabI W0 base (n + 50) g off ty cs (some b) loc' (tkT T tx ks j)) (hun : ∀ x k, T x = some k → x ∉ ks.take j → KeyI W0 base n (loc' x) k)
    (hft : ∀ b', TFoot (some b) loc' (tkT T tx ks j) b' → TFoot (some b) loc T b' ∨ w.heap.size ≤ b') (hfr : Fr (TFr g (some b) loc T) w W0) (hout : W0.ownsRow (w.heap.size + 1) 47 3 v5 gs.length (gs.flatMap akCells))
    (hgs : gs = (ks.take j).flatMap (grantsOf T tx)) (hgl : gs.length ≤ 50 * j) (hrow : W0.ownsRow w.heap.size 9 1 Vk ks.length (ks.map encStr)) (hbx : Blk W0 w.heap.size 3 #[.int .i64 tx]) (hx : ks[j]? = some x) (hfresh : x ∉ ks.take j) (hT : T x = some k)
    (hrel : relK k tx = (⟨h, lf⟩, done)) (hK : KeyI w7 base (n + 50) ⟨(loc' x).g, (loc' x).hb, V9⟩ ⟨h, lf⟩) (hV9 : ∀ b', V9.ownBlock = some b' → W0.heap.size ≤ b') (hf : Fr (fun b' => KFoot (loc' x) b' ∨ v5.ownBlock = some b') W0 w7)
    (hout' : w7.ownsRow (w.heap.size + 1) 47 3 v5' (gs.length + done.length) ((gs ++ done.map fun d => (⟨d.1, x, d.2⟩ : Ak)).flatMap akCells)) (hdl : done.length ≤ 50) :
    TabI w7 base (n + 50) g off ty cs (some b) (locP loc' x ⟨(loc' x).g, (loc' x).hb, V9⟩) (putT (tkT T tx ks j) x (some ⟨h, lf⟩)) ∧
    (¬ EmptyK ⟨h, lf⟩ → RlRel base n g off ty cs (some b) loc T tx w ks Vk v5' (.int .i64 ((j + 1 : Nat) : Int)) w7) ∧
    (EmptyK ⟨h, lf⟩ → ∀ w8, MapG kS w8 b (n + 50) (putM (mapOf (locP loc' x ⟨(loc' x).g, (loc' x).hb, V9⟩) (putT (tkT T tx ks j) x (some ⟨h, lf⟩))) ⟨x.toArray⟩ none) → Fr (fun k => k = b) w7 w8 →
      RlRel base n g off ty cs (some b) loc T tx w ks Vk v5' (.int .i64 ((j + 1 : Nat) : Int)) w8) := by
  have hTj := (tkT_at (T := T) (tx := tx) hfresh).trans hT
  have hxn : tkT T tx ks j x ≠ none := by rw [hTj]; simp
  have hU : ∀ b', v5.ownBlock = some b' → b' ≠ g ∧ ¬ TFoot (some b) loc' (tkT T tx ks j) b' := fun b' hb' => hI.notRow hout (fun e => hty.2.1 e.symm) (by decide) (by decide) hb'
  have hI7 := hI.turn2 (n' := n + 50) hTj (Nat.le_refl _) hf hU hK rfl rfl (fun b' hb' => .inr (hV9 b' hb'))
  have hjl : j < ks.length := (List.getElem?_eq_some_iff.1 hx).1
  have hgs' : gs ++ done.map (fun d => (⟨d.1, x, d.2⟩ : Ak)) = (ks.take (j + 1)).flatMap (grantsOf T tx) := by
    rw [List.take_add_one, hx, List.flatMap_append, ← hgs]
    congr 1
    show _ = [x].flatMap (grantsOf T tx)
    rw [List.flatMap_singleton]
    unfold grantsOf
    rw [hT]
    simp only [hrel]
  have hft7 : ∀ b', TFoot (some b) (locP loc' x ⟨(loc' x).g, (loc' x).hb, V9⟩) (putT (tkT T tx ks j) x (some ⟨h, lf⟩)) b' → TFoot (some b) loc T b' ∨ w.heap.size ≤ b' := fun b' hb' => by
    rcases foot_ins (L := loc' x) (L' := ⟨(loc' x).g, (loc' x).hb, V9⟩) (k := k) (B := W0.heap.size) rfl rfl (fun b' hb' => .inr (hV9 b' hb')) b' hb' with h1 | h1
    · rw [locP_same] at h1
      refine hft b' ?_
      rcases h1 with h1 | ⟨y, hy, h1⟩
      · exact .inl h1
      · refine .inr ⟨y, ?_, h1⟩
        unfold putT at hy
        split at hy
        · rename_i e; rw [e]; exact hxn
        · exact hy
    · exact .inr (Nat.le_trans hfr.size h1)
  have hfr7 : Fr (TFr g (some b) loc T) w w7 := hfr.trans' hf (fun i hi h1 => by
    rcases h1 with h1 | h1
    · rcases hft i (.inr ⟨x, hxn, h1⟩) with h2 | h2
      · exact .inr h2
      · omega
    · have := (hout.lt i h1).1; omega)
  have hS : ∀ {b' : Nat}, ¬ TFoot (some b) loc' (tkT T tx ks j) b' → v5.ownBlock ≠ some b' → ¬ (KFoot (loc' x) b' ∨ v5.ownBlock = some b') := fun h1 h2 h3 => h3.elim (fun h3 => h1 (.inr ⟨x, hxn, h3⟩)) h2
  have hrow7 : w7.ownsRow w.heap.size 9 1 Vk ks.length (ks.map encStr) := hf.own hrow (fun b' hb' => hS (hI.notRow hrow (fun e => hty.1 e.symm) (by decide) (by decide) hb').2 (own_own_ne hrow hout (by decide) hb'))
  have hbx7 : Blk w7 w.heap.size 3 #[.int .i64 tx] := hf.blk hbx (hS (hI.notBlk hbx (fun e => hty.2.2 e.symm) (by decide) (by decide)).2 (own_blk_ne hout hbx (by decide)))
  have hun7 : ∀ y ky, T y = some ky → y ∉ ks.take (j + 1) → y ≠ x ∧ y ∉ ks.take j ∧ KeyI w7 base n (loc' y) ky := fun y ky hy hny => by
    rw [List.take_add_one, hx] at hny
    simp only [Option.toList_some, List.mem_append, List.mem_singleton, not_or] at hny
    have hyT : tkT T tx ks j y ≠ none := by rw [tkT_at hny.1, hy]; simp
    refine ⟨hny.2, hny.1, (hun y ky hy hny.1).fr hf (fun b' hb' h3 => ?_)⟩
    rcases h3 with h3 | h3
    · exact hI.apart y x hny.2 hyT hxn b' hb' h3
    · exact (hU b' h3).2 (.inr ⟨y, hyT, hb'⟩)
  have hlen7 : (gs ++ done.map (fun d => (⟨d.1, x, d.2⟩ : Ak))).length = gs.length + done.length := by simp
  refine ⟨hI7, fun hne => ?_, fun he w8 hm8 hf8 => ?_⟩
  · have hro : relO k tx = some ⟨h, lf⟩ := by unfold relO; rw [hrel, if_neg hne]
    have hst := tkT_step (T := T) (tx := tx) (ks := ks) (j := j) hx hT
    rw [hro] at hst
    refine ⟨j + 1, _, _, rfl, hjl, rfl, by rw [hst]; exact hI7, fun y ky hy hny => ?_, by rw [hst]; exact hft7, hfr7, by rw [← hgs', hlen7]; exact hout', by rw [← hgs', hlen7]; omega, hrow7, hbx7⟩
    have h1 := hun7 y ky hy hny
    unfold locP; rw [if_neg h1.1]; exact h1.2.2
  · have hro : relO k tx = none := by unfold relO; rw [hrel, if_pos he]
    have hst := tkT_step (T := T) (tx := tx) (ks := ks) (j := j) hx hT
    rw [hro] at hst
    have hsx : sx ⟨x.toArray⟩ = x := by show x.toArray.toList = x; simp
    have hI8 := tab_gone hI7 hm8 hf8
    rw [hsx, putT_put, ← hst] at hI8
    have hnb : ∀ {b' : Nat} {t : TypeId} {base' size m : Nat} {v : Value} {xs : List Value}, w7.ownsRow base' t size v m xs → v.ownBlock = some b' → b' ≠ b := fun hr hb' e => by subst e; exact MapG.notOwn (C := kS) hI7.map hr hb'
    refine ⟨j + 1, _, _, rfl, hjl, rfl, hI8, fun y ky hy hny => ?_, fun b' hb' => hft7 b' ?_, hfr7.trans' hf8 (fun i _ (e : i = b) => .inr (.inl (by rw [e]))), by rw [← hgs', hlen7]; exact hf8.own hout' (fun b' hb' e => hnb hout' hb' e), by rw [← hgs', hlen7]; omega, hf8.own hrow7 (fun b' hb' e => hnb hrow7 hb' e), hf8.blk hbx7 (fun e => MapG.notBlk (C := kS) hI7.map hbx7 e.symm)⟩
    · have h1 := hun7 y ky hy hny
      unfold locP; rw [if_neg h1.1]
      have hy7 : putT (tkT T tx ks j) x (some ⟨h, lf⟩) y = some ky := by unfold putT; rw [if_neg h1.1, tkT_at h1.2.1, hy]
      have hloc : locP loc' x ⟨(loc' x).g, (loc' x).hb, V9⟩ y = loc' y := by unfold locP; rw [if_neg h1.1]
      exact h1.2.2.fr hf8 (fun b' hb' e => hI7.key_map hy7 rfl (hloc ▸ hb') e)
    · rcases hb' with hb' | ⟨y, hy, hb'⟩
      · exact .inl hb'
      · refine .inr ⟨y, ?_, hb'⟩
        rw [hst] at hy
        unfold putT at hy ⊢
        split at hy
        · exact absurd rfl hy
        · rename_i e; rw [if_neg e]; exact hy
end
end Go.Proofs.YtopmehbncidpnaaGreatDoor
