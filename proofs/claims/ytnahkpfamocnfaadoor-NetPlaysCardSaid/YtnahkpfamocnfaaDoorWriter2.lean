/- wire's writer: text, truth. -/
import Derived.Test.YtnahkpfamocnfaaDoorWriter
import Derived.Test.YtnahkpfamocnfaaDoorAppStr
namespace Go.Proofs.YtnahkpfamocnfaaDoor
open Go.RowKit
/-- (*writer).num of one number, in a list of its own. -/
theorem num_one (base p H : Nat) (v : Value) (st : St) (x : Int) (w : World) (hH : w.heap.size = H) (hW : Wr 93 w base p v st) (hl : st.1.length ≤ 98000000000) :
    Calls Tryd.prog 37 #[.pointer (some ⟨p, 0, none⟩), .slice (some ⟨H, 0, none⟩) 1 1] (w.alloc (.cells #[.int .i64 x] 3)) (WrPost 93 base p v (numS st x) w) := by
  subst hH
  have hr : Rd (w.alloc (.cells #[.int .i64 x] 3)) (w.heap.size + 1) 1 (some ⟨w.heap.size, 0, none⟩) 1 ([x].map (Value.int .i64)) := by
    simpa using Rd.lit w #[.int .i64 x] 3 1 1 rfl
  refine (num_any base p v st [x] (w.heap.size + 1) _ 1 1 _ (hW.alloc _) (by omega) (by omega) hr (by simp) (fun g off h _ => ?_)).mono ?_
  · injection h with h
    injection h with h1 h2
    subst h1
    exact ⟨fun e => by have := hW.lt; omega, fun e => by have := (hW.row _ e).2; omega⟩
  · rintro e w1 ⟨v1, rfl, h1, h2⟩
    exact ⟨v1, rfl, h1, (WMoved.alloc p w _ _).trans h2⟩
set_option maxRecDepth 100000 in
set_option maxHeartbeats 1000000 in
theorem text_any (base p : Nat) (v : Value) (st : St) (s : ByteArray) (m : Int) (w : World) (hW : Wr 93 w base p v st) (hl : st.1.length + s.size ≤ 97000000000) :
    Calls Tryd.prog 60 #[.pointer (some ⟨p, 0, none⟩), .string s, .int .i64 m] w (WrPost 93 base p v (textS st s m) w) := by
  have hf0 := hW.f 0
  have hf1 := hW.f 1
  have hc0 := hW.c0
  have hc1 := hW.c1
  have hs0 : (0 : Int) ≤ s.size := by omega
  have hs1 : (s.size : Int) ≤ 97000000000 := by omega
  have hmid : ∀ (w1 : World) (v1 : Value) (b : Bool), limS st b = limS st (decide (m < s.size)) → Wr 93 w1 base p v1 (numS (limS st b) s.size) → WMoved p w w1 v.ownBlock v1.ownBlock →
      ∀ (v2 : Value) (w2 : World), w2.ownsRow base 5 1 v2 ((numS (limS st b) s.size).1.length + s.size) ((numS (limS st b) s.size).1.map bv ++ (strB s).map bv) → Moved w1 w2 v1.ownBlock v2.ownBlock →
      Wr 93 (w2.setCell ⟨p, 0, none⟩ v2) base p v2 (textS st s m) ∧ WMoved p w (w2.setCell ⟨p, 0, none⟩ v2) v.ownBlock v2.ownBlock := fun w1 v1 b hb h1 h2 v2 w2 h3 h4 => by
    refine ⟨?_, (h2.trans (WMoved.of_moved h4)).trans (WMoved.setCell p w2 0 _ _)⟩
    have := h1.setB (bs' := (numS (limS st b) s.size).1 ++ strB s) h4 (by rw [List.length_append, strB_len, List.map_append]; exact h3)
    rw [textS, ← hb]
    exact this
  have HM := Lib.hid hmid; clear hmid
  have HN : RowKit.Hid (∀ b, (numS (limS st b) s.size).1.length ≤ st.1.length + 10) := fun b => numS_len (limS st b) s.size
  by_cases hlt : m < s.size
  · have HB : RowKit.Hid (Wr 93 (w.setCell ⟨p, 1, none⟩ (.int .i64 4)) base p v (limS st true)) := hW.setBad 4
    have HD : RowKit.Hid (limS st true = limS st (decide (m < s.size))) := by rw [decide_eq_true hlt]; exact rfl
    have HW := Lib.hid hW; clear hW
    go_enter Tryd.func60, Tryd.ntmps60
    go_wp2_with fail
    refine (num_one base p w.heap.size v _ s.size _ (by simp) HB.out (by show st.1.length ≤ _; omega)).mono ?_
    rintro e w1 ⟨v1, rfl, h1, h2⟩
    have hx0 := h1.c0
    have hx1 := h1.f 0
    have H1 := Lib.hid h1; clear h1
    go_wp2_with (at_builtin; refine stop ?_)
    refine back ?_
    refine wpList_appendStr w1 rfl (.tmp 22) (.tmp 23) 28 9 rfl base 5 Tryd.underlying28 Tryd.underlying9 u8_info _ _ _ rfl H1.out.2.1 s rfl ?_ ?_ H1.out.2.2.2 ?_
    · have := HN.out true; have := HN.out false; unfold maxLen; omega
    · have := HN.out true; have := HN.out false; omega
    intro v2 w2 h3 h4
    obtain ⟨A2, c2, rfl, _, _⟩ := own_slice h3
    have hfin := HM.out w1 v1 _ HD.out H1.out ((WMoved.setCell p w 1 (.int .i64 4) _).trans h2) _ w2 h3 h4
    have hb2 := h4.1.blk H1.out.1 (fun e => H1.out.2.2.1 e.symm)
    have hy0 := hb2.cell 0
    have hy1 := hb2.frozen 0
    have HF := Lib.hid hfin; clear hfin h3
    go_wp2_with fail
    go_end0
    exact ⟨_, rfl, HF.out.1, HF.out.2⟩
  · have HB : RowKit.Hid (Wr 93 w base p v (limS st false)) := hW
    have HD : RowKit.Hid (limS st false = limS st (decide (m < s.size))) := by rw [decide_eq_false hlt]; exact rfl
    have HW := Lib.hid hW; clear hW
    go_enter Tryd.func60, Tryd.ntmps60
    go_wp2_with fail
    refine (num_one base p w.heap.size v _ s.size _ (by simp) HB.out (by show st.1.length ≤ _; omega)).mono ?_
    rintro e w1 ⟨v1, rfl, h1, h2⟩
    have hx0 := h1.c0
    have hx1 := h1.f 0
    have H1 := Lib.hid h1; clear h1
    go_wp2_with (at_builtin; refine stop ?_)
    refine back ?_
    refine wpList_appendStr w1 rfl (.tmp 22) (.tmp 23) 28 9 rfl base 5 Tryd.underlying28 Tryd.underlying9 u8_info _ _ _ rfl H1.out.2.1 s rfl ?_ ?_ H1.out.2.2.2 ?_
    · have := HN.out true; have := HN.out false; unfold maxLen; omega
    · have := HN.out true; have := HN.out false; omega
    intro v2 w2 h3 h4
    obtain ⟨A2, c2, rfl, _, _⟩ := own_slice h3
    have hfin := HM.out w1 v1 _ HD.out H1.out h2 _ w2 h3 h4
    have hb2 := h4.1.blk H1.out.1 (fun e => H1.out.2.2.1 e.symm)
    have hy0 := hb2.cell 0
    have hy1 := hb2.frozen 0
    have HF := Lib.hid hfin; clear hfin h3
    go_wp2_with fail
    go_end0
    exact ⟨_, rfl, HF.out.1, HF.out.2⟩
def b2i (b : Bool) : Int := if b then 1 else 0
set_option maxHeartbeats 1000000 in
theorem truth_any (base p : Nat) (v : Value) (st : St) (b : Bool) (w : World) (hW : Wr 93 w base p v st) (hl : st.1.length ≤ 98000000000) :
    Calls Tryd.prog 61 #[.pointer (some ⟨p, 0, none⟩), .bool b] w (WrPost 93 base p v (numS st (b2i b)) w) := by
  have HW := Lib.hid hW; clear hW
  cases b
  all_goals
    go_enter Tryd.func61, Tryd.ntmps61
    go_wp2_with fail
  · refine (num_one base p w.heap.size v st 0 w rfl HW.out hl).mono ?_
    rintro e w1 ⟨v1, rfl, h1, h2⟩
    have H1 := Lib.hid h1; clear h1
    go_wp2_with fail
    go_end0
    exact ⟨_, rfl, H1.out, h2⟩
  · refine (num_one base p w.heap.size v st 1 w rfl HW.out hl).mono ?_
    rintro e w1 ⟨v1, rfl, h1, h2⟩
    have H1 := Lib.hid h1; clear h1
    go_wp2_with fail
    go_end0
    exact ⟨_, rfl, H1.out, h2⟩
end Go.Proofs.YtnahkpfamocnfaaDoor
