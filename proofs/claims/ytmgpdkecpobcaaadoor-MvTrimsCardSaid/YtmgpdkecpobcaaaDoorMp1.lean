/- mv.Store and the document's Store side by side: what is told of any time. -/
import Derived.Test.YtmgpdkecpobcaaaDoorRs4
import Derived.Test.YtmgpdkecpobcaaaDoorTell
import Derived.Laws.StructEq
namespace Go.Proofs.YtmgpdkecpobcaaaDoor
open Go.RowKit
theorem erV_errV (k : Int) : errV k = erV k := rfl
def geR (l : List Rx) (low : Int) (x : Sx) (t : Int) : (Sx × Bool) × Int := if t < low then (([], false), 8) else (tellR (bestR x t l), 0)
def atRR (l : List Rx) (low : Int) (t : Int) : List (Sx × Sx) × Int := if t < low then ([], 8) else (atR l t, 0)
def Ge1Post (r : (Sx × Bool) × Int) (w : World) (e : Ending) (w' : World) : Prop := e = .returned (.tuple #[.string ⟨r.1.1.toArray⟩, .bool r.1.2, erV r.2]) ∧ Below w.heap.size w w'
def Ge2Post (r : (Sx × Bool) × Int) (w : World) (e : Ending) (w' : World) : Prop := e = .returned (.tuple #[.string ⟨r.1.1.toArray⟩, .bool r.1.2, .int .i64 r.2]) ∧ Below w.heap.size w w'
def At1Post (r : List (Sx × Sx) × Int) (w : World) (e : Ending) (w' : World) : Prop := ∃ A c, e = .returned (.tuple #[.slice A r.1.length c, erV r.2]) ∧ w'.ownsRow w.heap.size 29 3 (.slice A r.1.length c) r.1.length (r.1.flatMap prC) ∧ Below w.heap.size w w'
def At2Post (r : List (Sx × Sx) × Int) (w : World) (e : Ending) (w' : World) : Prop := ∃ A c, e = .returned (.tuple #[.slice A r.1.length c, .int .i64 r.2]) ∧ w'.ownsRow w.heap.size 29 3 (.slice A r.1.length c) r.1.length (r.1.flatMap prC) ∧ Below w.heap.size w w'
/-- The two Stores, at blocks g and h. -/
structure MpI (w : World) (base n g h : Nat) (mb : Option Nat) (loc : Sx → Value) (K : Kp) (V : Value) (l : List Rx) (low : Int) : Prop where
  st : StI w base n g mb loc K low
  rs : RsI w base h V l low
  law : StR l K
  len : l.length ≤ n
section
variable {w w' : World} {base n g h : Nat} {mb : Option Nat} {loc : Sx → Value} {K : Kp} {V : Value} {l : List Rx} {low : Int}
theorem MpI.tall (m : MpI w base n g h mb loc K V l low) (hb : Below w.heap.size w w') : MpI w' base n g h mb loc K V l low := ⟨m.st.tall hb, m.rs.tall hb, m.law, m.len⟩
theorem MpI.small (m : MpI w base n g h mb loc K V l low) : ∀ a ∈ l, a.key.length ≤ 20 := fun a ha => m.st.small a.key (fun e => by
  have := (m.law.mem a.key (ofR a)).2 ⟨a, ha, rfl, rfl⟩
  rw [e] at this
  cases this)
theorem StI.notBlk (m : StI w base n g mb loc K low) {b : Nat} {t : TypeId} {cs : Array Value} (hb : Blk w b t cs) (h1 : t ≠ 25) (h2 : t ≠ 67) : ¬ SFr g mb loc K b := by
  rintro (e | e | ⟨x, hx, e⟩)
  · exact hb.ne_ m.blk h1 e
  · have hm := m.map
    rw [e] at hm
    exact MapG.notBlk (C := kV) hm hb rfl
  · exact (m.rows x hx).notBlk hb h2 e
theorem RsI.blks (m : RsI w base h V l low) {b : Nat} (hb : RsFoot h V b) : ∃ t cs, Blk w b t cs ∧ t ≠ 25 ∧ t ≠ 67 := by
  rcases hb with rfl | hb
  · exact ⟨_, _, m.blk, by decide, by decide⟩
  · rcases m.row.2 with ⟨rfl, _⟩ | ⟨g1, cap, cur, rfl, _, hh, _⟩
    · cases hb
    · have hb' : g1 = b := by injection hb
      subst hb'
      exact ⟨_, cur, hh, by decide, by decide⟩
theorem RsI.notBlk (m : RsI w base h V l low) {b : Nat} {t : TypeId} {cs : Array Value} (hb : Blk w b t cs) (h1 : t ≠ 50) (h2 : t ≠ 81) : ¬ RsFoot h V b := by
  rintro (e | e)
  · exact hb.ne_ m.blk h1 e
  · exact own_blk_ne m.row hb (fun e => h2 e.symm) e
theorem MpI.apart (m : MpI w base n g h mb loc K V l low) {b : Nat} (h1 : RsFoot h V b) (h2 : SFr g mb loc K b) : False := by
  obtain ⟨t, cs, hb, e1, e2⟩ := m.rs.blks h1
  exact m.st.notBlk hb e1 e2 h2
theorem get_uni (m : MpI w base n g h mb loc K V l low) (s : ByteArray) (t : Int) (htm : t < 9223372036854775808) (hs : s.size ≤ maxLen) (hn : n ≤ 100000) :
    Calls Tryd.prog 11 #[.pointer (some ⟨g, 0, none⟩), .string s, .int .i64 t] w (Ge1Post (geR l low (sx s) t) w) := by
  by_cases ht : t < low
  · refine (get_low base n g mb loc K low s t w m.st ht).mono ?_
    rintro e w' ⟨rfl, rfl⟩
    unfold geR Ge1Post
    rw [if_pos ht]
    exact ⟨rfl, Below.refl _ _⟩
  · refine (get_any base n g mb loc K low s t w m.st ht htm hs hn).mono ?_
    rintro e w' ⟨rfl, hb⟩
    unfold geR Ge1Post
    rw [if_neg ht, m.law.get]
    exact ⟨rfl, hb⟩
theorem rget_uni (m : MpI w base n g h mb loc K V l low) (s : ByteArray) (t : Int) (hn : n ≤ 100000) :
    Calls Tryd.prog 16 #[.pointer (some ⟨h, 0, none⟩), .string s, .int .i64 t] w (Ge2Post (geR l low (sx s) t) w) := by
  by_cases ht : t < low
  · refine (rget_low base h V l low s t w m.rs ht).mono ?_
    rintro e w' ⟨rfl, rfl⟩
    unfold geR Ge2Post
    rw [if_pos ht]
    exact ⟨rfl, Below.refl _ _⟩
  · refine (rget_any base h V l low s t w m.rs ht (by have := m.len; omega)).mono ?_
    rintro e w' ⟨rfl, hb⟩
    unfold geR Ge2Post
    rw [if_neg ht]
    exact ⟨rfl, hb⟩
theorem at_uni (m : MpI w base n g h mb loc K V l low) (t : Int) (htm : t < 9223372036854775808) (hn : n ≤ 100000) :
    Calls Tryd.prog 7 #[.pointer (some ⟨g, 0, none⟩), .int .i64 t] w (At1Post (atRR l low t) w) := by
  by_cases ht : t < low
  · refine (at_low base n g mb loc K low t w m.st ht).mono ?_
    rintro e w' ⟨rfl, rfl⟩
    unfold atRR At1Post
    rw [if_pos ht]
    exact ⟨none, 0, rfl, World.ownsRow_nil _ _ _ _, Below.refl _ _⟩
  · refine (at_any base n g mb loc K low _ t w m.st m.law.keysK ht htm hn).mono ?_
    rintro e w' ⟨A, c, rfl, hrow, hb⟩
    unfold atRR At1Post
    rw [if_neg ht]
    rw [m.law.at_ m.law.keysK t] at hrow ⊢
    exact ⟨A, c, rfl, hrow, hb⟩
theorem rat_uni (m : MpI w base n g h mb loc K V l low) (t : Int) (hn : n ≤ 100000) :
    Calls Tryd.prog 17 #[.pointer (some ⟨h, 0, none⟩), .int .i64 t] w (At2Post (atRR l low t) w) := by
  by_cases ht : t < low
  · refine (rat_low base h V l low t w m.rs ht).mono ?_
    rintro e w' ⟨rfl, rfl⟩
    unfold atRR At2Post
    rw [if_pos ht]
    exact ⟨none, 0, rfl, World.ownsRow_nil _ _ _ _, Below.refl _ _⟩
  · refine (rat_any base h V l low t w m.rs ht (by have := m.len; omega) m.small).mono ?_
    rintro e w' ⟨A, c, rfl, hrow, hb⟩
    unfold atRR At2Post
    rw [if_neg ht]
    exact ⟨A, c, rfl, hrow, hb⟩
theorem many_uni (m : MpI w base n g h mb loc K V l low) (hn : n ≤ 100000) : Calls Tryd.prog 10 #[.pointer (some ⟨g, 0, none⟩)] w fun e w' => e = .returned (.int .i64 (l.length : Nat)) ∧ Below w.heap.size w w' := by
  have := many_any base n g mb loc K low _ w m.st m.law.keysK (by rw [m.law.many m.law.keysK]; have := m.len; omega)
  rw [m.law.many m.law.keysK] at this
  exact this
end
theorem eqPair (a b c d : ByteArray) (x y : Bool) (w : World) : (Op.equalIn 10000 29 (.agg #[.string a, .string b, .bool x]) (.agg #[.string c, .string d, .bool y])).run Tryd.prog w = .ok ((a.toList == c.toList) && (b.toList == d.toList) && x == y) w := by
  have u3 := Tryd.underlying4
  have u9 := Tryd.underlying9
  have hS : Tryd.prog.underlying 29 = some (.struct (Tryd.prog.fieldsOf 29)) := by kernel_rfl
  have hp : Tryd.prog.stoodInHeld 29 = false := by kernel_rfl
  rw [show (10000 : Nat) = 9999 + 1 from rfl, run_equalIn_agg w 9999 29 _ _ hS hp]
  simp only [Program.fieldsOf, Tryd.underlying29]
  go_simp
  by_cases h1 : (a.toList == c.toList) = true <;> by_cases h2 : (b.toList == d.toList) = true <;> cases x <;> cases y <;> simp_all
end Go.Proofs.YtmgpdkecpobcaaaDoor
