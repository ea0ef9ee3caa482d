/- mv: Put. -/
import Derived.Test.YtmgpdkecpobcaaaDoorMv3
namespace Go.Proofs.YtmgpdkecpobcaaaDoor
open Go.RowKit
def putS (K : Kp) (low : Int) (r : Rx) : Int × Kp :=
  if r.t < 0 ∨ 1099511627776 < r.t then (2, K) else if 20 < r.key.length ∨ 40 < r.v.length then (4, K) else if r.t < low then (8, K) else if hasV (K r.key) r.t then (9, K) else (0, putK K r.key (insV (K r.key) (ofR r)))
/-- What a step does to a Store. -/
def StP (base n g : Nat) (mb : Option Nat) (loc : Sx → Value) (K K' : Kp) (low' : Int) (w w' : World) : Prop :=
  ∃ mb' loc', StI w' base n g mb' loc' K' low' ∧ Fr (SFr g mb loc K) w w' ∧ ∀ b, SFr g mb' loc' K' b → SFr g mb loc K b ∨ w.heap.size ≤ b
section
variable {w w' : World} {base n g : Nat} {mb : Option Nat} {loc : Sx → Value} {K : Kp} {low : Int}
theorem StI.more (h : StI w base n g mb loc K low) {n' : Nat} (hn : n ≤ n') : StI w base n' g mb loc K low := (h.mono (w' := w) hn).elim id id
theorem StP.below (h : StI w base n g mb loc K low) {n' : Nat} (hn : n ≤ n') (hb : Below w.heap.size w w') : StP base n' g mb loc K K low w w' :=
  ⟨mb, loc, (h.tall hb).more hn, ⟨hb.os, hb.tape, hb.output, hb.size, fun k hk _ => hb.block k hk⟩, fun b h => .inl h⟩
theorem StP.trans {mb1 : Option Nat} {loc1 : Sx → Value} {K1 K2 : Kp} {low2 : Int} {w1 w2 : World} (hf : Fr (SFr g mb loc K) w w1) (hft : ∀ b, SFr g mb1 loc1 K1 b → SFr g mb loc K b ∨ w.heap.size ≤ b) (k : StP base n g mb1 loc1 K1 K2 low2 w1 w2) : StP base n g mb loc K K2 low2 w w2 := by
  obtain ⟨mb2, loc2, hI, hf2, hft2⟩ := k
  refine ⟨mb2, loc2, hI, hf.trans' hf2 (fun i hi h => ?_), fun b h => ?_⟩
  · rcases hft i h with h | h
    · exact h
    · omega
  · rcases hft2 b h with h | h
    · exact hft b h
    · exact .inr (Nat.le_trans hf.size h)
def locV (loc : Sx → Value) (x : Sx) (V : Value) : Sx → Value := fun y => if y = x then V else loc y
theorem vmap_put (s : ByteArray) (V : Value) {l : List Vx} (hl : l ≠ []) : putM (vmap loc K) s (some V) = vmap (locV loc (sx s) V) (putK K (sx s) l) := by
  funext t
  unfold putM vmap locV putK
  by_cases e : t = s
  · subst e
    rcases l with _ | ⟨a, l⟩
    · exact absurd rfl hl
    · simp
  · have : ¬ sx t = sx s := fun h => e (sx_inj h)
    simp [e, this]
theorem StI.made (h : StI w base n g none loc K low) : StI ((w.alloc (.map #[] 0)).setCell ⟨g, 0, none⟩ (.map (some w.heap.size))) base n g (some w.heap.size) loc K low := by
  have hK : ∀ x, K x = [] := h.map
  have hm : MapG kV (w.alloc (.map #[] 0)) w.heap.size n (vmap loc K) := by
    have e : vmap loc K = fun _ => none := by funext s; unfold vmap; rw [hK]; rfl
    rw [e]
    exact (MapG.made kV w).mono (Nat.zero_le _)
  have hgl := h.blk.lt
  refine ⟨?_, hm.fr (Fr.set1 g (w.alloc (.map #[] 0)) 0 (.map (some w.heap.size))) (fun e => by omega), fun x hx => absurd (hK x) hx, fun x y _ hx => absurd (hK x) hx, h.small, h.times, h.sorted, h.len, h.low0, h.lowm, fun b hb => ?_, h.lo⟩
  · exact (h.blk.alloc _).set_ 0 (.map (some w.heap.size))
  · injection hb with hb; rw [← hb]; have := h.lo; omega
theorem StI.notKeyBlk {b : Nat} (h : StI w base n g (some b) loc K low) {x : Sx} (hx : K x ≠ []) : (loc x).ownBlock ≠ some b := fun e => by
  obtain ⟨_, _, cs, hk⟩ := (h.rows x hx).block e
  exact MapG.notBlk (C := kV) h.map hk rfl
theorem StI.notKeyG (h : StI w base n g mb loc K low) {x : Sx} (hx : K x ≠ []) : (loc x).ownBlock ≠ some g := (h.rows x hx).notBlk h.blk (by decide)
theorem stV_own {x : Sx} {b : Nat} (h : (stV loc K x).ownBlock = some b) : K x ≠ [] ∧ (loc x).ownBlock = some b := by
  unfold stV at h
  rcases e : K x with _ | ⟨a, l⟩
  · rw [e] at h; cases h
  · rw [e] at h
    exact ⟨by simp, h⟩
/-- A key's versions set anew. -/
theorem StI.setK {b n2 : Nat} {w2 w3 : World} {s : ByteArray} {V' : Value} {l' : List Vx} (hn2 : n ≤ n2) (h : StI w base n g (some b) loc K low) (hs : (sx s).length ≤ 20) (hl0 : l' ≠ []) (hlt : TmOk l') (hls : SortedV l') (hll : l'.length ≤ n2)
    (hrow : VRow w2 base V' l') (hm : Moved w w2 (stV loc K (sx s)).ownBlock V'.ownBlock) (hmap : MapG kV w3 b n2 (putM (vmap loc K) s (some V'))) (hf : Fr (fun k => k = b) w2 w3) :
    StI w3 base n2 g (some b) (locV loc (sx s) V') (putK K (sx s) l') low ∧ Fr (SFr g (some b) loc K) w w3 ∧ ∀ q, SFr g (some b) (locV loc (sx s) V') (putK K (sx s) l') q → SFr g (some b) loc K q ∨ w.heap.size ≤ q := by
  have hV' : ∀ q, V'.ownBlock = some q → (K (sx s) ≠ [] ∧ (loc (sx s)).ownBlock = some q) ∨ w.heap.size ≤ q := fun q hq => by
    rcases hm.2 with e | ⟨q', e, hq'⟩
    · exact .inl (stV_own (e.symm.trans hq))
    · rw [hq] at e; injection e with e; exact .inr (by omega)
  have hbl : b < w.heap.size := (h.foot_lt (.inr (.inl rfl))).2
  have hfm : Fr (fun k => k = b ∨ some k = (stV loc K (sx s)).ownBlock) w w3 := (hm.1.mono (T := fun k => k = b ∨ some k = (stV loc K (sx s)).ownBlock) (fun i _ e => .inr e)).trans' hf (fun i _ e => .inl e)
  have hother : ∀ y, y ≠ sx s → K y ≠ [] → ∀ q, (loc y).ownBlock = some q → ¬ (q = b ∨ some q = (stV loc K (sx s)).ownBlock) := fun y hy hKy q hq e => by
    rcases e with e | e
    · subst e; exact h.notKeyBlk hKy hq
    · obtain ⟨k1, k2⟩ := stV_own e.symm
      exact h.apart y (sx s) hy hKy k1 q hq k2
  refine ⟨⟨hfm.blk h.blk (fun e => ?_), ?_, fun y hy => ?_, fun y z hyz hy hz q hq hq' => ?_, fun y hy => ?_, fun y => ?_, fun y => ?_, fun y => ?_, h.low0, h.lowm, h.mlo, h.lo⟩, ?_, fun q hq => ?_⟩
  · rcases e with e | e
    · exact MapG.notBlk (C := kV) h.map h.blk e.symm
    · obtain ⟨k1, k2⟩ := stV_own e.symm
      exact h.notKeyG k1 k2
  · show MapG kV w3 b n2 _
    rw [← vmap_put s V' hl0]
    exact hmap
  · unfold putK locV at *
    split
    · rename_i e
      exact hrow.fr hf (fun q hq e2 => by
        rcases hV' q hq with ⟨k1, k2⟩ | h2
        · subst e2; exact h.notKeyBlk k1 k2
        · have := hm.1.size; omega)
    · rename_i e
      rw [if_neg e] at hy
      exact (h.rows y hy).fr hfm (hother y e hy)
  · unfold putK locV at *
    by_cases e1 : y = sx s
    · by_cases e2 : z = sx s
      · exact hyz (e1.trans e2.symm)
      · rw [if_pos e1] at hq
        rw [if_neg e2] at hq' hz
        rcases hV' q hq with ⟨k1, k2⟩ | h2
        · exact h.apart z (sx s) e2 hz k1 q hq' k2
        · have := ((h.rows z hz).block hq').2.1; omega
    · rw [if_neg e1] at hq hy
      by_cases e2 : z = sx s
      · rw [if_pos e2] at hq'
        rcases hV' q hq' with ⟨k1, k2⟩ | h2
        · exact h.apart y (sx s) e1 hy k1 q hq k2
        · have := ((h.rows y hy).block hq).2.1; omega
      · rw [if_neg e2] at hq' hz
        exact h.apart y z hyz hy hz q hq hq'
  · unfold putK at hy
    split at hy
    · rename_i e; rw [e]; exact hs
    · exact h.small y hy
  · unfold putK
    split
    · exact hlt
    · exact h.times y
  · unfold putK
    split
    · exact hls
    · exact h.sorted y
  · unfold putK
    split
    · exact hll
    · exact Nat.le_trans (h.len y) hn2
  · refine hfm.mono (fun i _ e => ?_)
    rcases e with e | e
    · exact .inr (.inl (by rw [e]))
    · obtain ⟨k1, k2⟩ := stV_own e.symm
      exact .inr (.inr ⟨_, k1, k2⟩)
  · rcases hq with hq | hq | ⟨y, hy, hq⟩
    · exact .inl (.inl hq)
    · exact .inl (.inr (.inl hq))
    · unfold putK locV at *
      by_cases e1 : y = sx s
      · rw [if_pos e1] at hq
        exact (hV' q hq).imp (fun k => .inr (.inr ⟨_, k.1, k.2⟩)) id
      · rw [if_neg e1] at hq hy
        exact .inl (.inr (.inr ⟨y, hy, hq⟩))
end
def PutPost (base n g : Nat) (mb : Option Nat) (loc : Sx → Value) (K : Kp) (low : Int) (r : Rx) (w : World) (e : Ending) (w' : World) : Prop :=
  e = .returned (erV (putS K low r).1) ∧ StP base (n + 1) g mb loc K (putS K low r).2 low w w'
theorem eql_map_nilV {P : Program} (w : World) (t k e : TypeId) (m : Option Nat) (h : P.underlying t = some (.map k e)) : (binOp .eql t (.map m) (.map none)).run P w = .ok (.bool m.isNone) w := by
  simp only [binOp]
  simp [run_equal_map_nil w t k e m h]
section
variable (base n g : Nat) (mb : Option Nat) (loc : Sx → Value) (K : Kp) (low : Int) (key val : ByteArray) (gone : Bool) (t : Int) (w : World) (hI : StI w base n g mb loc K low)
include hI
theorem put_early (er : Int) (hp : putS K low ⟨sx key, sx val, gone, t⟩ = (er, K)) (her : er ≠ 0) : PutPost base n g mb loc K low ⟨sx key, sx val, gone, t⟩ w (.returned (.iface 43 (.int .i64 er))) (w.alloc (.cells #[.string key, .string val, .bool gone] 29)) := by
  unfold PutPost
  rw [hp]
  refine ⟨by show _ = Ending.returned (erV er); unfold erV; rw [if_neg her], StP.below hI (Nat.le_succ n) ((Below.refl _ _).alloc (Nat.le_refl _) _)⟩
set_option maxRecDepth 100000 in
set_option maxHeartbeats 4000000 in
theorem put_range (h : t < 0 ∨ 1099511627776 < t) : Calls Tryd.prog 6 #[.pointer (some ⟨g, 0, none⟩), .int .i64 t, .agg #[.string key, .string val, .bool gone]] w (PutPost base n g mb loc K low ⟨sx key, sx val, gone, t⟩ w) := by
  have hfin := put_early base n g mb loc K low key val gone t w hI 2 (by unfold putS; rw [if_pos h]) (by decide)
  have HF := Lib.hid hfin; clear hfin hI
  by_cases h0 : t < 0
  · have d1 : decide (t < 0) = true := decide_eq_true h0
    clear h
    go_enter Tryd.func6, Tryd.ntmps6
    go_wp2_with fail
    go_ret
    exact HF.out
  · have d1 : decide (t < 0) = false := decide_eq_false h0
    have h1 : t > 1099511627776 := by rcases h with h | h <;> omega
    have d2 : decide (t > 1099511627776) = true := decide_eq_true h1
    clear h
    go_enter Tryd.func6, Tryd.ntmps6
    go_wp2_with fail
    go_ret
    exact HF.out
set_option maxRecDepth 100000 in
set_option maxHeartbeats 4000000 in
theorem put_limit (h : ¬ (t < 0 ∨ 1099511627776 < t)) (hl : 20 < (sx key).length ∨ 40 < (sx val).length) : Calls Tryd.prog 6 #[.pointer (some ⟨g, 0, none⟩), .int .i64 t, .agg #[.string key, .string val, .bool gone]] w (PutPost base n g mb loc K low ⟨sx key, sx val, gone, t⟩ w) := by
  have hfin := put_early base n g mb loc K low key val gone t w hI 4 (by unfold putS; rw [if_neg h, if_pos hl]) (by decide)
  have HF := Lib.hid hfin; clear hfin hI
  have d1 : decide (t < 0) = false := decide_eq_false (fun e => h (.inl e))
  have d2 : decide (t > 1099511627776) = false := decide_eq_false (fun e => h (.inr e))
  clear h
  rw [← size_sx, ← size_sx] at hl
  by_cases h1 : 20 < key.size
  · have d3 : decide ((key.size : Int) > 20) = true := decide_eq_true (by omega)
    clear hl
    go_enter Tryd.func6, Tryd.ntmps6
    go_wp2_with fail
    go_ret
    exact HF.out
  · have d3 : decide ((key.size : Int) > 20) = false := decide_eq_false (by omega)
    have d4 : decide ((val.size : Int) > 40) = true := decide_eq_true (by omega)
    clear hl
    go_enter Tryd.func6, Tryd.ntmps6
    go_wp2_with fail
    go_ret
    exact HF.out
set_option maxRecDepth 100000 in
set_option maxHeartbeats 4000000 in
theorem put_none (h : ¬ (t < 0 ∨ 1099511627776 < t)) (hl : ¬ (20 < (sx key).length ∨ 40 < (sx val).length)) (hlo : t < low) : Calls Tryd.prog 6 #[.pointer (some ⟨g, 0, none⟩), .int .i64 t, .agg #[.string key, .string val, .bool gone]] w (PutPost base n g mb loc K low ⟨sx key, sx val, gone, t⟩ w) := by
  have hfin := put_early base n g mb loc K low key val gone t w hI 8 (by unfold putS; rw [if_neg h, if_neg hl, if_pos hlo]) (by decide)
  have HF := Lib.hid hfin; clear hfin
  have hb := hI.blk.alloc (.cells #[.string key, .string val, .bool gone] 29)
  have c1 := hI.blk.cell 1
  have hgl := hI.blk.lt
  simp only [List.getElem?_toArray, List.getElem?_cons_zero, List.getElem?_cons_succ] at c1
  clear hI hb
  have d1 : decide (t < 0) = false := decide_eq_false (fun e => h (.inl e))
  have d2 : decide (t > 1099511627776) = false := decide_eq_false (fun e => h (.inr e))
  have d5 : decide (t < low) = true := decide_eq_true hlo
  rw [← size_sx, ← size_sx] at hl
  have d3 : decide ((key.size : Int) > 20) = false := decide_eq_false (by omega)
  have d4 : decide ((val.size : Int) > 40) = false := decide_eq_false (by omega)
  clear h hl
  go_enter Tryd.func6, Tryd.ntmps6
  go_wp2_with fail
  go_ret
  exact HF.out
end
end Go.Proofs.YtmgpdkecpobcaaaDoor
