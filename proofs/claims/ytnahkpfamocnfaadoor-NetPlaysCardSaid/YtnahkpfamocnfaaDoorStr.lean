/- string(b) of a slice of bytes that reads as a list of numbers below 256. -/
import Derived.Test.YtnahkpfamocnfaaDoorEnc
import Derived.Laws.BytesString
import Derived.Laws.Cells
import Derived.Laws.Concat
import Derived.Laws.Strings
namespace Go.Proofs.YtnahkpfamocnfaaDoor
open Go.RowKit
def strOf (l : List Nat) : ByteArray := ⟨(l.map UInt8.ofNat).toArray⟩
theorem fold_push (l : List Nat) : ∀ (r : ByteArray), (l.map fun x : Nat => (x : Int)).foldl (fun r n => r.push (UInt8.ofNat n.toNat)) r = ⟨(r.data.toList ++ l.map UInt8.ofNat).toArray⟩ := by
  induction l with
  | nil => intro r; simp
  | cons x l ih =>
    intro r
    simp only [List.map_cons, List.foldl_cons]
    rw [ih]
    simp [ByteArray.push]
/-- 'string(b)', b a slice that reads as the bytes l. -/
theorem run_string_of {P : Program} (w : World) (src dst e : TypeId) (hs : P.underlying src = some (.slice e)) (he : P.underlying e = some (.int .u8)) (hd : P.underlying dst = some .string)
    (B n c : Nat) (A : Option Addr) (l : List Nat) (hr : Reads w B 1 A n (l.map bv)) : (convert src dst (.slice A n c)).run P w = .ok (.string (strOf l)) w := by
  rw [run_convert_bytes_string w src dst e A n c hs he hd]
  have hl : l.length = n := by have := hr.1; simpa using this
  rcases A with _ | a
  · have hn : n = 0 := by
      rcases Nat.eq_zero_or_pos n with h | h
      · exact h
      · obtain ⟨ad, h, _⟩ := hr.2 h; cases h
    have hl0 : l = [] := List.eq_nil_of_length_eq_zero (by omega)
    subst hl0
    simp [Conv.bytesToString, Sem.run_pure, strOf]
    rfl
  · have hcells : (loadCells a n).run P w = .ok ((l.map fun x : Nat => (x : Int)).map (Value.int .u8)).toArray w := by
      have hm : (l.map fun x : Nat => (x : Int)).map (Value.int .u8) = l.map bv := by simp [bv, Function.comp_def]
      rw [hm]
      have := run_loadCells_list (P := P) (w := w) a (l.map bv) (fun j v hj => by
        rcases Nat.eq_zero_or_pos n with h | h
        · have hl0 : l = [] := List.eq_nil_of_length_eq_zero (by omega)
          subst hl0; simp at hj
        · obtain ⟨ad, h, _, hc⟩ := hr.2 h
          injection h with h; subst h
          exact hc j v hj)
      rw [List.length_map, hl] at this
      exact this
    rw [run_bytesToString w a n c _ hcells, fold_push]
    rfl
theorem strOf_toList (l : List Nat) : (strOf l).toList = l.map UInt8.ofNat := by
  rw [Go.ByteArray.toList_eq]; simp [strOf]
theorem strOf_size (l : List Nat) : (strOf l).size = l.length := by simp [strOf, ByteArray.size]
end Go.Proofs.YtnahkpfamocnfaaDoor
