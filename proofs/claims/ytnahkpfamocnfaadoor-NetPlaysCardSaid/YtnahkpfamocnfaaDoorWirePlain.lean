/- Plain: what is written of numbers, texts, commands, messages, logs (1.1, 1.2), as functions of a state: the bytes so far, and what was wrong last. -/
import Derived.Test.YtnahkpfamocnfaaDoorStr
namespace Go.Proofs.YtnahkpfamocnfaaDoor
open Go.RowKit
structure Pr where
  key : ByteArray
  val : ByteArray
  gone : Bool
structure Cm where
  kind : Int
  tx : Int
  time : Int
  writes : List Pr
abbrev St := List Nat × Int
def numS (st : St) (n : Int) : St := if n < 0 ∨ 1099511627776 < n then (st.1 ++ enc 0, 2) else (st.1 ++ enc n.toNat, st.2)
def strB (s : ByteArray) : List Nat := s.data.toList.map (·.toNat)
def limS (st : St) (b : Bool) : St := (st.1, if b then 4 else st.2)
def addS (st : St) (s : ByteArray) : St := (st.1 ++ strB s, st.2)
def textS (st : St) (s : ByteArray) (most : Int) : St := addS (numS (limS st (decide (most < s.size))) s.size) s
def pairS (st : St) (p : Pr) : St := if p.gone then numS (textS st p.key 20) 1 else textS (numS (textS st p.key 20) 0) p.val 40
def kindS (st : St) (k : Int) : St := (st.1, if k < 1 ∨ 4 < k then 1 else st.2)
def headS (st : St) (c : Cm) : St := numS (numS (numS (numS (limS (kindS st c.kind) (decide (20 < c.writes.length))) (c.kind % 8)) c.tx) c.time) c.writes.length
def cmdS (st : St) (c : Cm) : St := c.writes.foldl pairS (headS st c)
structure Ms where
  kind : Int
  from_ : Int
  to_ : Int
  epoch : Int
  n : Int
  cmd : Cm
def msgS (m : Ms) : St := if m.kind = 3 then cmdS (numS (numS (numS (numS (numS ([], 0) m.kind) m.from_) m.to_) m.epoch) m.n) m.cmd else numS (numS (numS (numS (numS ([], 0) m.kind) m.from_) m.to_) m.epoch) m.n
def logS (l : List Cm) : St := limS (l.foldl cmdS (numS ([], 0) l.length)) (decide (500 < l.length))
def small (p : Pr) : Prop := p.key.size ≤ 1048576 ∧ p.val.size ≤ 1048576
/-- Few and short enough that a command's bytes stay below a bound. -/
def smallC (c : Cm) : Prop := c.writes.length ≤ 4000 ∧ (∀ p ∈ c.writes, small p) ∧ ∃ M, c.writes.length * M ≤ 83888000 ∧ ∀ p ∈ c.writes, 30 + p.key.size + p.val.size ≤ M
theorem smallC.of {c : Cm} (h : c.writes.length ≤ 40) (hs : ∀ p ∈ c.writes, small p) : smallC c :=
  ⟨by omega, hs, 2097200, by have := Nat.mul_le_mul_right 2097200 h; omega, fun p hp => by have := hs p hp; unfold small at this; omega⟩
theorem smallC.short {c : Cm} (h : c.writes.length ≤ 4000) (hs : ∀ p ∈ c.writes, p.key.size ≤ 3000 ∧ p.val.size ≤ 3000) : smallC c :=
  ⟨h, fun p hp => by have := hs p hp; unfold small; omega, 6030, by have := Nat.mul_le_mul_right 6030 h; omega, fun p hp => by have := hs p hp; omega⟩
theorem enc_le (n : Nat) (h : n ≤ 1099511627776) : (enc n).length ≤ 10 := by have := enc_len 10 n (by omega); omega
theorem numS_len (st : St) (n : Int) : (numS st n).1.length ≤ st.1.length + 10 := by
  unfold numS
  split
  · have := enc_le 0 (by omega); rw [List.length_append]; omega
  · rename_i h; have := enc_le n.toNat (by omega); rw [List.length_append]; omega
theorem strB_len (s : ByteArray) : (strB s).length = s.size := by unfold strB; rw [List.length_map, Array.length_toList]; rfl
theorem textS_len (st : St) (s : ByteArray) (m : Int) : (textS st s m).1.length ≤ st.1.length + 10 + s.size := by
  have h := numS_len (limS st (decide (m < s.size))) s.size
  have h2 : (limS st (decide (m < s.size))).1 = st.1 := rfl
  have h3 := strB_len s
  rw [h2] at h
  unfold textS addS
  rw [List.length_append, h3]
  omega
theorem pairS_len' (st : St) (p : Pr) : (pairS st p).1.length ≤ st.1.length + (30 + p.key.size + p.val.size) := by
  have h1 := textS_len st p.key 20
  unfold pairS
  split
  · have h4 := numS_len (textS st p.key 20) 1; omega
  · have h4 := numS_len (textS st p.key 20) 0
    have h5 := textS_len (numS (textS st p.key 20) 0) p.val 40
    omega
theorem pairS_len (st : St) (p : Pr) (h : small p) : (pairS st p).1.length ≤ st.1.length + 2097200 := by
  have h1 := pairS_len' st p
  unfold small at h
  omega
theorem pairs_lenM (M : Nat) : ∀ (l : List Pr) (st : St), (∀ p ∈ l, 30 + p.key.size + p.val.size ≤ M) → (l.foldl pairS st).1.length ≤ st.1.length + l.length * M
  | [], st, _ => by simp
  | p :: l, st, h => by
    have h1 := pairs_lenM M l (pairS st p) (fun q hq => h q (List.mem_cons_of_mem _ hq))
    have h2 := pairS_len' st p
    have h3 := h p (List.mem_cons_self ..)
    simp only [List.foldl_cons, List.length_cons, Nat.succ_mul]
    omega
theorem pairs_len : ∀ (l : List Pr) (st : St), (∀ p ∈ l, small p) → (l.foldl pairS st).1.length ≤ st.1.length + 2097200 * l.length
  | [], st, _ => by simp
  | p :: l, st, h => by
    have h1 := pairs_len l (pairS st p) (fun q hq => h q (List.mem_cons_of_mem _ hq))
    have h2 := pairS_len st p (h p (List.mem_cons_self ..))
    simp only [List.foldl_cons, List.length_cons]
    omega
theorem headS_len (st : St) (c : Cm) : (headS st c).1.length ≤ st.1.length + 40 := by
  have h0 : (limS (kindS st c.kind) (decide (20 < c.writes.length))).1 = st.1 := rfl
  have h1 := numS_len (limS (kindS st c.kind) (decide (20 < c.writes.length))) (c.kind % 8)
  have h2 := numS_len (numS (limS (kindS st c.kind) (decide (20 < c.writes.length))) (c.kind % 8)) c.tx
  have h3 := numS_len (numS (numS (limS (kindS st c.kind) (decide (20 < c.writes.length))) (c.kind % 8)) c.tx) c.time
  have h4 := numS_len (numS (numS (numS (limS (kindS st c.kind) (decide (20 < c.writes.length))) (c.kind % 8)) c.tx) c.time) c.writes.length
  rw [h0] at h1
  unfold headS
  omega
theorem cmdS_len (st : St) (c : Cm) (h : smallC c) : (cmdS st c).1.length ≤ st.1.length + 83888040 := by
  obtain ⟨_, _, M, h3, h4⟩ := h
  have h1 := pairs_lenM M c.writes (headS st c) h4
  have h2 := headS_len st c
  unfold cmdS
  omega
theorem cmds_len : ∀ (l : List Cm) (st : St), (∀ c ∈ l, smallC c) → (l.foldl cmdS st).1.length ≤ st.1.length + 83888040 * l.length
  | [], st, _ => by simp
  | p :: l, st, h => by
    have h1 := cmds_len l (cmdS st p) (fun q hq => h q (List.mem_cons_of_mem _ hq))
    have h2 := cmdS_len st p (h p (List.mem_cons_self ..))
    simp only [List.foldl_cons, List.length_cons]
    omega
/-- Go's remainder, made not negative, and Go's '& 7', are the remainder. -/
theorem tmod8 (k : Int) : (k.tmod 8 + 8).tmod 8 = k % 8 := by
  have h1 : k.tmod 8 = if 0 ≤ k ∨ (8 : Int) ∣ k then k % 8 else k % 8 - 8 := by
    rw [Int.tmod_eq_emod]; split <;> simp
  rw [h1]
  split
  · rw [Int.tmod_eq_emod_of_nonneg (by omega)]; omega
  · rw [Int.tmod_eq_emod_of_nonneg (by omega)]; omega
end Go.Proofs.YtnahkpfamocnfaaDoor
