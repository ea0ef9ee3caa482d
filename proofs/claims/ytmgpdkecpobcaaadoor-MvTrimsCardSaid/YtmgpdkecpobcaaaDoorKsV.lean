/- mv: slices.Sorted(maps.Keys(s.keys)): the keys that a Store has, in order. -/
import Derived.Test.YtmgpdkecpobcaaaDoorMv5
import Derived.Test.YtmgpdkecpobcaaaDoorIter
namespace Go.Proofs.YtmgpdkecpobcaaaDoor
open Go.RowKit Go.Maps Go.Sort Go.Shelf
theorem own_base {w : World} {base base' : Nat} {e : TypeId} {size n : Nat} {v : Value} {xs : List Value} (h : w.ownsRow base e size v n xs) (hb : base' ≤ base) : w.ownsRow base' e size v n xs :=
  ⟨h.1, h.2.imp id fun ⟨g, cap, cur, h1, h2, r⟩ => ⟨g, cap, cur, h1, Nat.le_trans hb h2, r⟩⟩
theorem strKeys_spec {H : Type} {D : DataW H} {P : Program} {k : TypeId} {R : Value → Option (DataW H × List MemPlace)} {w : World} {b n : Nat} (hown : w.ownsMap P k R b n D) (K : Keyed P k) (hk : P.underlying k = some .string) :
    (strKeys D).Nodup ∧ (∀ x, x ∈ strKeys D ↔ has D (.string x) = true) ∧ (strKeys D).length = Maps.size D := by
  obtain ⟨es, hD, hpw, _⟩ := hown.entries K
  obtain ⟨es', hD', hko⟩ := hown.keysOf
  obtain rfl : es = es' := by rw [hD] at hD'; simpa using hD'
  subst hD
  have hstr : ∀ p ∈ es, ∃ x, p.1 = .string x := fun p hp => by obtain ⟨v, hv⟩ := hko p hp; obtain ⟨x, _, hx, _⟩ := Maps.keyOf_str hk hv; exact ⟨x, hx⟩
  refine ⟨?_, fun x => ?_, ?_⟩
  · show (es.map fun p => strOf p.1).Nodup
    refine List.pairwise_map.2 (hpw.imp_of_mem fun {p q} hp' hq' hne e => hne ?_)
    obtain ⟨a, ha⟩ := hstr p hp'
    obtain ⟨b, hb⟩ := hstr q hq'
    rw [ha, hb] at e ⊢
    exact congrArg _ e
  · rw [has_eq, List.any_eq_true]
    show x ∈ es.map (fun p => strOf p.1) ↔ _
    rw [List.mem_map]
    constructor
    · rintro ⟨p, hp', rfl⟩
      obtain ⟨a, ha⟩ := hstr p hp'
      exact ⟨p, hp', by rw [ha]; simp [Lit.sameKey, strOf]⟩
    · rintro ⟨p, hp', hs⟩
      obtain ⟨a, ha⟩ := hstr p hp'
      rw [ha] at hs
      exact ⟨p, hp', by rw [ha]; simpa [Lit.sameKey, strOf] using hs⟩
  · show (es.map fun p => strOf p.1).length = _
    simp [Maps.size]
/-- The function value that maps.Keys hands back, and what slices.Sorted makes of it. -/
def KvPost (K : Kp) (n : Nat) (w : World) (e : Ending) (w' : World) : Prop :=
  ∃ (V : Value) (ks : List Sx), e = .returned V ∧ KeysK K ks ∧ ks.length ≤ n ∧ w'.ownsRow w.heap.size 9 1 V ks.length (ks.map encStr) ∧ Below w.heap.size w w'
theorem keysOf_any (mb : Option Nat) (W : World) : Calls Tryd.prog 23 #[.map mb] W fun e w' => e = .returned (.func (.func 33) #[] #[.pointer (some ⟨W.heap.size, 0, none⟩)]) ∧ w' = W.alloc (.cells #[.map mb] 23) :=
  callsIn_wide.1 (kyKeysOf mb W)
theorem keys_view {w : World} {n b : Nat} {loc : Sx → Value} {K : Kp} {D : DataW Value} (hv : ViewG kV D (vmap loc K)) (hs : ∀ x, K x ≠ [] → x.length ≤ 20) (hown : w.ownsMap Tryd.prog 9 heldR b n D) :
    ∀ x, has D (.string x) = true ↔ K x ≠ [] := fun x => by
  have key : ∀ y : Sx, y.length ≤ maxLen → (has D (.string y) = true ↔ K y ≠ []) := fun y hy => by
    have h1 := hv ⟨y.toArray⟩ (show (ByteArray.mk y.toArray).size ≤ maxLen by show y.toArray.size ≤ maxLen; simpa using hy)
    have e : (kV).kl ⟨y.toArray⟩ = .string y := by show Lit.string _ = _; simp
    rw [e] at h1
    rw [h1.1]
    have e2 : sx ⟨y.toArray⟩ = y := by show y.toArray.toList = y; simp
    unfold vmap
    rw [e2]
    cases K y <;> simp
  constructor
  · intro h
    have hm : x ∈ strKeys D := ((strKeys_spec hown kV.law Tryd.underlying9).2.1 x).2 h
    exact (key x (strKeys_le hown Tryd.underlying9 x hm)).1 h
  · intro h
    exact (key x (by have := hs x h; unfold maxLen; omega)).2 h
theorem sorted_any {n : Nat} {mb : Option Nat} {loc : Sx → Value} {K : Kp} (w : World) (hm : StM w n mb loc K) (hs : ∀ x, K x ≠ [] → x.length ≤ 20) (hn : n ≤ 2000000) :
    Calls Tryd.prog 22 #[.func (.func 33) #[] #[.pointer (some ⟨w.heap.size, 0, none⟩)]] (w.alloc (.cells #[.map mb] 23)) (KvPost K n w) := by
  have hb1 : Below w.heap.size w (w.alloc (.cells #[.map mb] 23)) := (Below.refl _ _).alloc (Nat.le_refl _) _
  have hsz : w.heap.size ≤ (w.alloc (.cells #[.map mb] 23)).heap.size := by simp
  rcases mb with _ | b
  · refine (callsIn_wide.1 (kySortedNil w)).mono ?_
    rintro e w' ⟨v, ss, rfl, rfl, hrow, _, hb⟩
    refine ⟨v, [], rfl, ⟨List.Pairwise.nil, fun x => ?_⟩, Nat.zero_le _, ?_, hb1.trans (hb.mono hsz)⟩
    · have := hm x; simp [this]
    · have := own_base hrow hsz
      simpa using this
  · obtain ⟨D, hown, hv⟩ := hm
    obtain ⟨hnd, hmem, hlen⟩ := strKeys_spec hown kV.law Tryd.underlying9
    have hle := hown.size_le
    refine (callsIn_wide.1 (kySortedOf b n D heldR w hown (by unfold maxLen; omega) (by omega))).mono ?_
    rintro e w' ⟨v, ss, rfl, hp, hrow, _, hb⟩
    have hsl : (sortS ss).length = ss.length := List.length_mergeSort ss
    refine ⟨v, sortS ss, rfl, ⟨sortS_lt (hp.nodup_iff.2 hnd), fun x => ?_⟩, ?_, ?_, hb1.trans (hb.mono hsz)⟩
    · rw [mem_sortS, hp.mem_iff, hmem, keys_view hv hs hown]
    · rw [hsl, hp.length_eq, hlen]; exact hle
    · rw [hsl]; exact own_base hrow hsz
end Go.Proofs.YtmgpdkecpobcaaaDoor
