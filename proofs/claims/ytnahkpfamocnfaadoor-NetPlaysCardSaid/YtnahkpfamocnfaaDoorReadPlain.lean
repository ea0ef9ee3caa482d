/- Plain: what is read of numbers, texts, commands, messages, logs (1.2), as functions of a state: the bytes left, and whether they were not so. k: true, as the program reads; false, as the document does. And: it undoes what is written. -/
import Derived.Test.YtnahkpfamocnfaaDoorWirePlain
namespace Go.Proofs.YtnahkpfamocnfaaDoor
open Go.RowKit
def scan (k : Bool) (i acc : Nat) : List Nat → Option (Nat × List Nat)
  | [] => none
  | c :: r =>
    if 5 < i ∨ (k = true ∧ (1099511627776 < acc + c % 128 * 128 ^ i ∨ (c = 0 ∧ 0 < i))) then none
    else if c < 128 then some (acc + c % 128 * 128 ^ i, r) else scan k (i + 1) (acc + c % 128 * 128 ^ i) r
abbrev RS := List Nat × Bool
def numR (k : Bool) (s : RS) : Nat × RS := match scan k 0 0 s.1 with | some (n, r) => (n, (r, s.2)) | none => (0, (s.1, true))
def textR (k : Bool) (s : RS) (most : Nat) : ByteArray × RS :=
  if (k = true ∧ most < (numR k s).1) ∨ (numR k s).2.1.length < (numR k s).1 then (⟨#[]⟩, ((numR k s).2.1, true))
  else (strOf ((numR k s).2.1.take (numR k s).1), ((numR k s).2.1.drop (numR k s).1, (numR k s).2.2))
def goneR (k : Bool) (s : RS) : Bool × RS := (decide ((numR k s).1 = 1), ((numR k s).2.1, (numR k s).2.2 || (k && decide (1 < (numR k s).1))))
def pairR (k : Bool) (s : RS) : Pr × RS :=
  if (goneR k (textR k s 20).2).1 then (⟨(textR k s 20).1, ⟨#[]⟩, true⟩, (goneR k (textR k s 20).2).2)
  else (⟨(textR k s 20).1, (textR k (goneR k (textR k s 20).2).2 40).1, false⟩, (textR k (goneR k (textR k s 20).2).2 40).2)
def pairsR (k : Bool) : Nat → RS → List Pr → List Pr × RS
  | 0, s, a => (a, s)
  | n + 1, s, a => if s.2 then (a, s) else pairsR k n (pairR k s).2 (a ++ [(pairR k s).1])
def fourR (k : Bool) (s : RS) : Nat × Nat × Nat × Nat × RS :=
  ((numR k s).1, (numR k (numR k s).2).1, (numR k (numR k (numR k s).2).2).1, (numR k (numR k (numR k (numR k s).2).2).2).1, (numR k (numR k (numR k (numR k s).2).2).2).2)
def cmdBad (k : Bool) (kind n : Nat) : Bool := k && (decide (kind < 1) || decide (4 < kind) || decide (20 < n))
def cmdR (k : Bool) (s : RS) : Cm × RS :=
  let f := fourR k s
  let l := pairsR k f.2.2.2.1 (f.2.2.2.2.1, f.2.2.2.2.2 || cmdBad k f.1 f.2.2.2.1) []
  (⟨f.1, f.2.1, f.2.2.1, l.1⟩, l.2)
def msgBad (k : Bool) (kind : Nat) : Bool := k && (decide (kind < 1) || decide (4 < kind))
def msgR (k : Bool) (s : RS) : Ms × RS :=
  let f := fourR k s
  let e := numR k f.2.2.2.2
  let t : RS := (e.2.1, e.2.2 || msgBad k f.1)
  if f.1 = 3 then (⟨f.1, f.2.1, f.2.2.1, f.2.2.2.1, e.1, (cmdR k t).1⟩, (cmdR k t).2) else (⟨f.1, f.2.1, f.2.2.1, f.2.2.2.1, e.1, ⟨0, 0, 0, []⟩⟩, t)
def cmdsR (k : Bool) : Nat → RS → List Cm → List Cm × RS
  | 0, s, a => (a, s)
  | n + 1, s, a => if s.2 || (!k && decide (500 < a.length)) then (a, s) else cmdsR k n (cmdR k s).2 (a ++ [(cmdR k s).1])
def logR (k : Bool) (s : RS) : List Cm × RS := cmdsR k (numR k s).1 ((numR k s).2.1, (numR k s).2.2 || (k && decide (500 < (numR k s).1))) []

def Bytes (l : List Nat) : Prop := ∀ x ∈ l, x < 256
theorem Bytes.right {a b : List Nat} (h : Bytes (a ++ b)) : Bytes b := fun x hx => h x (List.mem_append_right _ hx)
theorem Bytes.left {a b : List Nat} (h : Bytes (a ++ b)) : Bytes a := fun x hx => h x (List.mem_append_left _ hx)
theorem scan_enc (k : Bool) (r : List Nat) : ∀ (f n i acc : Nat), n ≤ f → acc + n * 128 ^ i ≤ 1099511627776 → (i = 0 ∨ 0 < n) → scan k i acc (enc n ++ r) = some (acc + n * 128 ^ i, r)
  | f, n, i, acc, hf, hm, hi => by
    have hi5 : ¬ 5 < i := fun h => by
      have hn : 0 < n := by omega
      have h2 : 128 ^ 6 ≤ 128 ^ i := Nat.pow_le_pow_right (by omega) (by omega)
      have h3 : 1 * 128 ^ i ≤ n * 128 ^ i := Nat.mul_le_mul_right _ hn
      omega
    by_cases hn : n < 128
    · rw [enc_small hn]
      simp only [List.cons_append, List.nil_append, scan]
      rw [Nat.mod_eq_of_lt hn, if_neg (by omega), if_pos hn]
    · rw [enc_big hn]
      obtain ⟨f, rfl⟩ : ∃ f', f = f' + 1 := ⟨f - 1, by omega⟩
      have hmod : (n % 128 + 128) % 128 = n % 128 := by omega
      have hsum : acc + n % 128 * 128 ^ i + n / 128 * 128 ^ (i + 1) = acc + n * 128 ^ i := by
        have h1 : n * 128 ^ i = (n % 128 + 128 * (n / 128)) * 128 ^ i := by rw [Nat.mod_add_div]
        rw [h1, Nat.add_mul, Nat.pow_succ, Nat.add_assoc]
        congr 2
        rw [Nat.mul_comm 128 (n / 128), Nat.mul_assoc, Nat.mul_comm 128]
      have ih := scan_enc k r f (n / 128) (i + 1) (acc + n % 128 * 128 ^ i) (by omega) (by omega) (by omega)
      simp only [List.cons_append, scan]
      rw [hmod, if_neg (by omega), if_neg (by omega), ih, hsum]
theorem scan_sound : ∀ (l : List Nat) (i acc v : Nat) (r : List Nat), Bytes l → scan true i acc l = some (v, r) → ∃ n, v = acc + n * 128 ^ i ∧ l = enc n ++ r ∧ v ≤ 1099511627776 ∧ (0 < i → 0 < n)
  | [], i, acc, v, r, _, h => by simp [scan] at h
  | c :: l, i, acc, v, r, hb, h => by
    simp only [scan] at h
    split at h
    · cases h
    rename_i hg
    simp only [true_and, not_or] at hg
    obtain ⟨g1, g2, g3⟩ := hg
    split at h
    · rename_i hc
      injection h with h
      injection h with h1 h2
      subst h1 h2
      refine ⟨c, ?_, by rw [enc_small hc]; rfl, by omega, by omega⟩
      rw [Nat.mod_eq_of_lt hc]
    · rename_i hc
      obtain ⟨n, h1, h2, h3, h4⟩ := scan_sound l (i + 1) _ v r (fun x hx => hb x (List.mem_cons_of_mem _ hx)) h
      have hc2 := hb c (List.mem_cons_self ..)
      have hn := h4 (by omega)
      refine ⟨c % 128 + 128 * n, ?_, ?_, h3, by omega⟩
      · rw [h1, Nat.add_mul, Nat.pow_succ, Nat.add_assoc]
        congr 2
        rw [Nat.mul_comm 128 n, Nat.mul_assoc, Nat.mul_comm 128]
      · rw [enc_big (by omega), h2]
        have e1 : (c % 128 + 128 * n) % 128 + 128 = c := by omega
        have e2 : (c % 128 + 128 * n) / 128 = n := by omega
        rw [e1, e2]; rfl
theorem numR_bad {k : Bool} {s : RS} (h : (numR k s).2.2 = false) : s.2 = false := by
  unfold numR at h
  split at h
  · exact h
  · cases h
theorem numR_true {k : Bool} {l : List Nat} : (numR k (l, true)).2.2 = true := by
  unfold numR; split <;> rfl
theorem numR_sound {s : RS} (hb : Bytes s.1) (h : (numR true s).2.2 = false) : s.2 = false ∧ s.1 = enc (numR true s).1 ++ (numR true s).2.1 ∧ (numR true s).1 ≤ 1099511627776 := by
  refine ⟨numR_bad h, ?_⟩
  unfold numR at h ⊢
  split at h
  · rename_i n r hs
    obtain ⟨m, h1, h2, h3, _⟩ := scan_sound _ _ _ _ _ hb hs
    simp only [Nat.pow_zero, Nat.mul_one, Nat.zero_add] at h1
    subst h1
    exact ⟨h2, h3⟩
  · cases h
theorem numR_enc (k : Bool) (n : Nat) (hn : n ≤ 1099511627776) (r : List Nat) (b : Bool) : numR k (enc n ++ r, b) = (n, (r, b)) := by
  have h := scan_enc k r n n 0 0 (Nat.le_refl _) (by omega) (.inl rfl)
  unfold numR
  rw [h]
  simp
theorem enc_bytes (n : Nat) : Bytes (enc n) := enc_mem n n (Nat.le_refl _)
theorem numS_ok {a : List Nat} {n : Nat} (h : n ≤ 1099511627776) : numS (a, 0) n = (a ++ enc n, 0) := by
  unfold numS
  rw [if_neg (by omega)]
  rfl
theorem numS_inv {st : St} {n : Int} (h : (numS st n).2 = 0) : st.2 = 0 ∧ 0 ≤ n ∧ n ≤ 1099511627776 ∧ (numS st n).1 = st.1 ++ enc n.toNat := by
  unfold numS at h ⊢
  split at h
  · simp at h
  · rename_i hn
    rw [if_neg hn]
    exact ⟨h, by omega, by omega, rfl⟩
theorem limS_inv {st : St} {b : Bool} (h : (limS st b).2 = 0) : st.2 = 0 ∧ b = false ∧ (limS st b).1 = st.1 := by
  unfold limS at h ⊢
  cases b
  · exact ⟨h, rfl, rfl⟩
  · simp at h
theorem limS_ok {a : List Nat} : limS (a, 0) false = (a, 0) := rfl
/- Texts. -/
theorem strB_bytes (s : ByteArray) : Bytes (strB s) := fun x hx => by
  unfold strB at hx
  obtain ⟨u, _, rfl⟩ := List.mem_map.1 hx
  exact u.toNat_lt
theorem strB_strOf {l : List Nat} (h : Bytes l) : strB (strOf l) = l := by
  unfold strB strOf
  simp only [List.map_map]
  conv => rhs; rw [← List.map_id l]
  refine List.map_congr_left fun x hx => ?_
  simp only [Function.comp, id]
  have := h x hx
  rw [UInt8.toNat_ofNat']
  exact Nat.mod_eq_of_lt this
theorem strOf_strB (s : ByteArray) : strOf (strB s) = s := by
  obtain ⟨⟨l⟩⟩ := s
  unfold strB strOf
  simp only [List.map_map]
  congr 2
  conv => rhs; rw [← List.map_id l]
  refine List.map_congr_left fun x hx => ?_
  simp [Function.comp]
theorem textR_bad {k : Bool} {s : RS} {most : Nat} (h : (textR k s most).2.2 = false) : (numR k s).2.2 = false := by
  unfold textR at h
  split at h
  · cases h
  · exact h
theorem textR_sound {s : RS} {most : Nat} (hb : Bytes s.1) (h : (textR true s most).2.2 = false) :
    s.2 = false ∧ ∃ e, s.1 = e ++ (textR true s most).2.1 ∧ ∀ a, textS (a, 0) (textR true s most).1 most = (a ++ e, 0) := by
  obtain ⟨h1, h2, h3⟩ := numR_sound hb (textR_bad h)
  refine ⟨h1, ?_⟩
  unfold textR at h ⊢
  split at h
  · cases h
  rename_i hc
  rw [if_neg hc]
  simp only [true_and] at hc
  generalize (numR true s).1 = n at *
  generalize (numR true s).2.1 = r at *
  have hbr : Bytes r := by rw [h2] at hb; exact hb.right
  have hlen : (strOf (r.take n)).size = n := by rw [strOf_size, List.length_take]; omega
  refine ⟨enc n ++ r.take n, by rw [h2]; simp, fun a => ?_⟩
  unfold textS addS
  rw [hlen]
  have hd : decide ((most : Int) < (n : Nat)) = false := by simp; omega
  rw [hd, limS_ok, numS_ok h3, strB_strOf (fun x hx => hbr x (List.mem_of_mem_take hx))]
  simp
theorem textS_inv {st : St} {s : ByteArray} {most : Nat} (h : (textS st s most).2 = 0) (k : Bool) :
    st.2 = 0 ∧ ∃ e, (textS st s most).1 = st.1 ++ e ∧ 0 < e.length ∧ ∀ r, textR k (e ++ r, false) most = (s, (r, false)) := by
  have h' : (numS (limS st (decide ((most : Int) < s.size))) s.size).2 = 0 := h
  obtain ⟨h1, h2, h3, h4⟩ := numS_inv h'
  obtain ⟨h5, h6, h7⟩ := limS_inv h1
  rw [h7] at h4
  simp only [Int.toNat_natCast] at h4
  refine ⟨h5, enc s.size ++ strB s, ?_, ?_, fun r => ?_⟩
  · show (numS (limS st (decide ((most : Int) < s.size))) s.size).1 ++ strB s = _
    rw [h4, List.append_assoc]
  · have : 0 < (enc s.size).length := by rw [enc]; split <;> simp
    rw [List.length_append]; omega
  · unfold textR
    rw [List.append_assoc, numR_enc k s.size (by omega)]
    have hl := strB_len s
    have hm : ¬ ((most : Int) < s.size) := by simpa using h6
    rw [if_neg (by rw [List.length_append]; omega), ← hl, List.take_left, List.drop_left, strOf_strB]
/- Pairs. -/
def normP (p : Pr) : Pr := if p.gone then ⟨p.key, ⟨#[]⟩, true⟩ else p
def normC (c : Cm) : Cm := ⟨c.kind, c.tx, c.time, c.writes.map normP⟩
theorem pairR_norm (k : Bool) (s : RS) : normP (pairR k s).1 = (pairR k s).1 := by
  unfold pairR normP
  split
  · rfl
  · rfl
theorem goneR_sound {s : RS} (hb : Bytes s.1) (h : (goneR true s).2.2 = false) :
    s.2 = false ∧ ∃ e, s.1 = e ++ (goneR true s).2.1 ∧ ∀ a, numS (a, 0) (if (goneR true s).1 then 1 else 0) = (a ++ e, 0) := by
  unfold goneR at h ⊢
  simp only [Bool.or_eq_false_iff, Bool.true_and, decide_eq_false_iff_not] at h
  obtain ⟨h1, h2, h3⟩ := numR_sound hb h.1
  refine ⟨h1, enc (numR true s).1, h2, fun a => ?_⟩
  have h4 := h.2
  simp only [decide_eq_true_eq]
  split
  · rename_i hn; rw [hn]; exact numS_ok (n := 1) (by omega)
  · have : (numR true s).1 = 0 := by omega
    rw [this]; exact numS_ok (n := 0) (by omega)
theorem goneR_enc (k : Bool) (b : Bool) (r : List Nat) : goneR k (enc (if b then 1 else 0) ++ r, false) = (b, (r, false)) := by
  unfold goneR
  cases b
  · rw [numR_enc k _ (by simp)]; simp
  · rw [numR_enc k _ (by simp)]; simp
theorem pairR_sound {s : RS} (hb : Bytes s.1) (h : (pairR true s).2.2 = false) :
    s.2 = false ∧ ∃ e, s.1 = e ++ (pairR true s).2.1 ∧ ∀ a, pairS (a, 0) (pairR true s).1 = (a ++ e, 0) := by
  unfold pairR at h ⊢
  split at h
  · rename_i hg
    rw [if_pos hg]
    have hgb : Bytes (textR true s 20).2.1 := by
      by_cases ht : (textR true s 20).2.2 = false
      · obtain ⟨_, e, h2, _⟩ := textR_sound hb ht
        rw [h2] at hb; exact hb.right
      · exfalso
        have := numR_bad (k := true) (s := (textR true s 20).2) (by
          unfold goneR at h
          simp only [Bool.or_eq_false_iff] at h
          exact h.1)
        exact ht this
    obtain ⟨h1, e2, h2, h3⟩ := goneR_sound hgb h
    obtain ⟨h4, e1, h5, h6⟩ := textR_sound hb h1
    refine ⟨h4, e1 ++ e2, by rw [h5, h2]; simp, fun a => ?_⟩
    unfold pairS
    rw [hg] at h3
    simp only [reduceIte] at h3 ⊢
    have e6 := h6 a
    have e3 := h3 (a ++ e1)
    have e6' : textS (a, 0) (textR true s 20).1 20 = (a ++ e1, 0) := e6
    rw [e6', e3, List.append_assoc]
  · rename_i hg
    rw [if_neg hg]
    have hgf : (goneR true (textR true s 20).2).1 = false := by simpa using hg
    generalize hG : goneR true (textR true s 20).2 = G at *
    have hG2 : G.2.2 = false := numR_bad (textR_bad h)
    have ht0 : (textR true s 20).2.2 = false := numR_bad (k := true) (by
      have := hG2
      rw [← hG] at this
      unfold goneR at this
      simp only [Bool.or_eq_false_iff] at this
      exact this.1)
    obtain ⟨h4, e1, h5, h6⟩ := textR_sound hb ht0
    have hgb : Bytes (textR true s 20).2.1 := by rw [h5] at hb; exact hb.right
    obtain ⟨h1, e2, h2, h3⟩ := goneR_sound hgb (by rw [hG]; exact hG2)
    rw [hG] at h2 h3
    have hgb2 : Bytes G.2.1 := by rw [h2] at hgb; exact hgb.right
    obtain ⟨_, e3, h7, h8⟩ := textR_sound hgb2 h
    refine ⟨h4, e1 ++ e2 ++ e3, by rw [h5, h2, h7]; simp, fun a => ?_⟩
    unfold pairS
    rw [hgf] at h3
    simp only [reduceIte, Bool.false_eq_true] at h3 ⊢
    have e6' : textS (a, 0) (textR true s 20).1 20 = (a ++ e1, 0) := h6 a
    have e3' : numS (a ++ e1, 0) 0 = (a ++ e1 ++ e2, 0) := h3 (a ++ e1)
    have e8' : textS (a ++ e1 ++ e2, 0) (textR true G.2 40).1 40 = (a ++ e1 ++ e2 ++ e3, 0) := h8 (a ++ e1 ++ e2)
    rw [e6', e3', e8']
    simp
theorem pairS_inv {st : St} {p : Pr} (h : (pairS st p).2 = 0) (k : Bool) :
    st.2 = 0 ∧ ∃ e, (pairS st p).1 = st.1 ++ e ∧ 0 < e.length ∧ ∀ r, pairR k (e ++ r, false) = (normP p, (r, false)) := by
  unfold pairS at h ⊢
  split at h
  · rename_i hg
    rw [if_pos hg]
    obtain ⟨h1, h2, h3, h4⟩ := numS_inv h
    obtain ⟨h5, e, h6, h7, h8⟩ := textS_inv (most := 20) h1 k
    refine ⟨h5, e ++ enc 1, ?_, by rw [List.length_append]; omega, fun r => ?_⟩
    · have h6' : (textS st p.key 20).1 = st.1 ++ e := h6
      rw [h4, h6']; simp
    · have h9 := goneR_enc k true r
      simp only [reduceIte] at h9
      unfold pairR
      rw [List.append_assoc, h8, h9]
      simp only [reduceIte]
      unfold normP
      rw [if_pos hg]
  · rename_i hg
    rw [if_neg hg]
    obtain ⟨h1, e3, h2, h3, h4⟩ := textS_inv (most := 40) h k
    obtain ⟨h1, h22, h23, h24⟩ := numS_inv h1
    obtain ⟨h5, e, h6, h7, h8⟩ := textS_inv (most := 20) h1 k
    have h6' : (textS st p.key 20).1 = st.1 ++ e := h6
    have h2' : (textS (numS (textS st p.key 20) 0) p.val 40).1 = (numS (textS st p.key 20) 0).1 ++ e3 := h2
    refine ⟨h5, e ++ enc 0 ++ e3, ?_, by simp only [List.length_append]; omega, fun r => ?_⟩
    · rw [h2', h24, h6']; simp
    · have h9 := goneR_enc k false (e3 ++ r)
      simp only [reduceIte, Bool.false_eq_true] at h9
      unfold pairR
      rw [List.append_assoc, List.append_assoc, h8]
      simp only []
      rw [if_neg (by rw [h9]; simp), h9, h4]
      unfold normP
      rw [if_neg hg]
      obtain ⟨a, b, c⟩ := p
      simp_all
end Go.Proofs.YtnahkpfamocnfaaDoor
