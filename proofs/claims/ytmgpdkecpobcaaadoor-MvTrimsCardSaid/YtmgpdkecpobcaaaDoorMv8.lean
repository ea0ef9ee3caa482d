/- mv: Trim. -/
import Derived.Test.YtmgpdkecpobcaaaDoorMv7
namespace Go.Proofs.YtmgpdkecpobcaaaDoor
open Go.RowKit
def trimS (K : Kp) (low tm : Int) : Int × Kp × Int := if tm < low then (10, K, low) else if 1099511627776 < tm then (2, K, low) else (0, fun x => trimV tm (K x), tm)
def TrPost (base n g : Nat) (mb : Option Nat) (loc : Sx → Value) (K : Kp) (low tm : Int) (w : World) (e : Ending) (w' : World) : Prop :=
  e = .returned (erV (trimS K low tm).1) ∧ StP base n g mb loc K (trimS K low tm).2.1 (trimS K low tm).2.2 w w'
theorem trimN_eq {tm : Int} : ∀ {l : List Vx} {k : Nat}, k < l.length → (∀ j (h : j < l.length), 0 < j → j ≤ k → l[j].t ≤ tm) → (∀ h : k + 1 < l.length, ¬ l[k + 1].t ≤ tm) → trimN tm l = k
  | [], k, h, _, _ => by simp at h
  | [a], k, h, _, _ => by
    simp at h
    subst h
    rfl
  | a :: b :: l, 0, h, h1, h2 => by
    have := h2 (by simp)
    simp only [List.getElem_cons_succ, List.getElem_cons_zero] at this
    unfold trimN
    rw [if_neg (by simpa using this)]
  | a :: b :: l, k + 1, h, h1, h2 => by
    have hb := h1 1 (by simp) (by omega) (by omega)
    have ih := trimN_eq (l := b :: l) (k := k) (by simpa using h) (fun j hj h0 hjk => by
      have := h1 (j + 1) (by simpa using hj) (by omega) (by omega)
      simpa using this) (fun h3 => by
      have := h2 (by simpa using h3)
      simpa using this)
    unfold trimN
    rw [if_pos (by simpa using hb), ih]
theorem cutG_at {tm : Int} {l : List Vx} {k : Nat} {a : Vx} (ha : l[k]? = some a) : cutG tm (l.drop k) = if a.g && decide (a.t ≤ tm) then l.drop (k + 1) else l.drop k := by
  obtain ⟨hk, he⟩ := List.getElem?_eq_some_iff.1 ha
  rw [List.drop_eq_getElem_cons hk, he]
  rfl
section
variable {w w' : World} {base n g b : Nat} {mb : Option Nat} {loc : Sx → Value} {K : Kp} {low : Int}
theorem StI.setLow (h : StI w base n g mb loc K low) {tm : Int} (h0 : 0 ≤ tm) (h1 : tm ≤ 1099511627776) : StI (w.setCell ⟨g, 1, none⟩ (.int .i64 tm)) base n g mb loc K tm := by
  have hf := Fr.set1 g w 1 (.int .i64 tm)
  refine ⟨h.blk.set_ 1 _, h.map.fr hf (fun b hb e => ?_), fun x hx => (h.rows x hx).fr hf (fun b hb e => h.notKeyG hx (e ▸ hb)), h.apart, h.small, h.times, h.sorted, h.len, h0, h1, h.mlo, h.lo⟩
  have hm := h.map
  rw [hb] at hm
  exact MapG.notBlk (C := kV) hm h.blk e
theorem vmap_drop (s : ByteArray) : putM (vmap loc K) s none = vmap loc (putK K (sx s) []) := by
  funext t
  unfold putM vmap putK
  by_cases e : t = s
  · subst e; simp
  · have : ¬ sx t = sx s := fun h => e (sx_inj h)
    simp [e, this]
theorem StI.dropK {w3 : World} {s : ByteArray} (h : StI w base n g (some b) loc K low) (hmap : MapG kV w3 b n (putM (vmap loc K) s none)) (hf : Fr (fun k => k = b) w w3) : StI w3 base n g (some b) loc (putK K (sx s) []) low := by
  have hk : ∀ y, putK K (sx s) [] y ≠ [] → K y ≠ [] := fun y hy => by
    unfold putK at hy
    split at hy
    · exact absurd rfl hy
    · exact hy
  have hke : ∀ y, putK K (sx s) [] y ≠ [] → putK K (sx s) [] y = K y := fun y hy => by
    unfold putK at hy ⊢
    split at hy
    · exact absurd rfl hy
    · rename_i e; rw [if_neg e]
  refine ⟨hf.blk h.blk (fun e => MapG.notBlk (C := kV) h.map h.blk e.symm), ?_, fun y hy => ?_, fun y z hyz hy hz => h.apart y z hyz (hk y hy) (hk z hz), fun y hy => h.small y (hk y hy), fun y => ?_, fun y => ?_, fun y => ?_, h.low0, h.lowm, h.mlo, h.lo⟩
  · show MapG kV w3 b n _
    rw [← vmap_drop]
    exact hmap
  · rw [hke y hy]
    exact (h.rows y (hk y hy)).fr hf (fun q hq e => h.notKeyBlk (hk y hy) (e ▸ hq))
  · unfold putK; split
    · exact fun v hv => (nomatch hv)
    · exact h.times y
  · unfold putK; split
    · exact List.Pairwise.nil
    · exact h.sorted y
  · unfold putK; split
    · exact Nat.zero_le _
    · exact h.len y
end
set_option maxRecDepth 100000 in
set_option maxHeartbeats 1000000 in
theorem clip_any (gg o n c : Nat) (w : World) (hn : n ≤ c) : Calls Tryd.prog 24 #[.slice (some ⟨gg, o, none⟩) n c] w fun e w' => e = .returned (.slice (some ⟨gg, o, none⟩) n n) ∧ w' = w := by
  have hs := slice_clipO (P := Tryd.prog) 63 v_und v_elem v_size w gg o n c (n : Int) rfl hn
  go_enter Tryd.func24, Tryd.ntmps24
  go_wp2_with fail
  go_ret
  exact ⟨rfl, rfl⟩
section
variable (base n g : Nat) (mb : Option Nat) (loc : Sx → Value) (K : Kp) (low tm : Int) (w : World) (hI : StI w base n g mb loc K low)
include hI
set_option maxRecDepth 100000 in
set_option maxHeartbeats 4000000 in
theorem trim_order (h : tm < low) : Calls Tryd.prog 9 #[.pointer (some ⟨g, 0, none⟩), .int .i64 tm] w (TrPost base n g mb loc K low tm w) := by
  have hfin : TrPost base n g mb loc K low tm w (.returned (.iface 43 (.int .i64 10))) w := by
    unfold TrPost trimS
    rw [if_pos h]
    exact ⟨rfl, StP.below hI (Nat.le_refl _) (Below.refl _ _)⟩
  have HF := Lib.hid hfin; clear hfin
  have c1 := hI.blk.cell 1
  have hgl := hI.blk.lt
  simp only [List.getElem?_toArray, List.getElem?_cons_zero, List.getElem?_cons_succ] at c1
  clear hI
  have d1 : decide (tm < low) = true := decide_eq_true h
  go_enter Tryd.func9, Tryd.ntmps9
  go_wp2_with fail
  go_ret
  exact HF.out
set_option maxRecDepth 100000 in
set_option maxHeartbeats 4000000 in
theorem trim_range (h : ¬ tm < low) (h2 : 1099511627776 < tm) : Calls Tryd.prog 9 #[.pointer (some ⟨g, 0, none⟩), .int .i64 tm] w (TrPost base n g mb loc K low tm w) := by
  have hfin : TrPost base n g mb loc K low tm w (.returned (.iface 43 (.int .i64 2))) w := by
    unfold TrPost trimS
    rw [if_neg h, if_pos h2]
    exact ⟨rfl, StP.below hI (Nat.le_refl _) (Below.refl _ _)⟩
  have HF := Lib.hid hfin; clear hfin
  have c1 := hI.blk.cell 1
  have hgl := hI.blk.lt
  simp only [List.getElem?_toArray, List.getElem?_cons_zero, List.getElem?_cons_succ] at c1
  clear hI
  have d1 : decide (tm < low) = false := decide_eq_false h
  have d2 : decide (tm > 1099511627776) = true := decide_eq_true h2
  go_enter Tryd.func9, Tryd.ntmps9
  go_wp2_with fail
  go_ret
  exact HF.out
end
set_option maxRecDepth 100000 in
set_option maxHeartbeats 4000000 in
theorem trim_nil (base n g : Nat) (loc : Sx → Value) (K : Kp) (low tm : Int) (w : World) (hI : StI w base n g none loc K low) (h : ¬ tm < low) (h2 : ¬ 1099511627776 < tm) : Calls Tryd.prog 9 #[.pointer (some ⟨g, 0, none⟩), .int .i64 tm] w (TrPost base n g none loc K low tm w) := by
  have hI1 := hI.setLow (tm := tm) (by have := hI.low0; omega) (by omega)
  have hK : K = fun x => trimV tm (K x) := by
    funext x
    have : K x = [] := hI.map x
    rw [this]; rfl
  have hb2 : Below (w.setCell ⟨g, 1, none⟩ (.int .i64 tm)).heap.size (w.setCell ⟨g, 1, none⟩ (.int .i64 tm)) ((w.setCell ⟨g, 1, none⟩ (.int .i64 tm)).alloc (.mapIter none 0 #[] 0)) := (Below.refl _ _).alloc (Nat.le_refl _) _
  have hfin : TrPost base n g none loc K low tm w (.returned .nilIface) ((w.setCell ⟨g, 1, none⟩ (.int .i64 tm)).alloc (.mapIter none 0 #[] 0)) := by
    unfold TrPost trimS
    rw [if_neg h, if_neg h2]
    refine ⟨rfl, none, loc, ?_, (Fr.set1 g w 1 _).mono (fun i _ e => .inl e) |>.alloc _, fun q hq => ?_⟩
    · show StI _ base n g none loc (fun x => trimV tm (K x)) tm
      rw [← hK]
      exact hI1.tall hb2
    · show SFr g none loc K q ∨ _
      have hq : SFr g none loc (fun x => trimV tm (K x)) q := hq
      rw [← hK] at hq
      exact .inl hq
  have HF := Lib.hid hfin; clear hfin hK hb2
  have c0 := hI1.blk.cell 0
  have hgl1 := hI1.blk.lt
  have c1 := hI.blk.cell 1
  have f1 := hI.blk.frozen 1
  have hgl := hI.blk.lt
  simp only [List.getElem?_toArray, List.getElem?_cons_zero, List.getElem?_cons_succ] at c0 c1
  clear hI hI1
  have d1 : decide (tm < low) = false := decide_eq_false h
  have d2 : decide (tm > 1099511627776) = false := decide_eq_false h2
  have hr := run_range_nilMap (P := Tryd.prog) (w.setCell ⟨g, 1, none⟩ (.int .i64 tm)) 23 _ _ Tryd.underlying23
  have hn := fun ty => run_next_nilMap (P := Tryd.prog) (w.setCell ⟨g, 1, none⟩ (.int .i64 tm)) ty 0 0 #[]
  have hsz : (w.setCell ⟨g, 1, none⟩ (.int .i64 tm)).heap.size = w.heap.size := by simp [World.setCell]
  rw [hsz] at hn
  go_enter Tryd.func9, Tryd.ntmps9
  go_wp2_with fail
  refine wp_loop_rounds 1 ?_
  rw [rounds_succ]
  go_wp2_with fail
  go_ret
  exact HF.out
end Go.Proofs.YtmgpdkecpobcaaaDoor
