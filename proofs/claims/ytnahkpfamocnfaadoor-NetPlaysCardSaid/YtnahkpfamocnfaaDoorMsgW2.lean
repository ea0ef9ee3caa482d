/- wire.Msg: its contract. -/
import Derived.Test.YtnahkpfamocnfaaDoorMsgW
namespace Go.Proofs.YtnahkpfamocnfaaDoor
open Go.RowKit
def msgOut (m : Ms) : St := if kindB m.kind then ([], 1) else outS (msgS m)
def MsgCut (T : TypeId) (st : St) (m : Ms) (A : Option Addr) (n k : Nat) (w : World) (wx : World) : Prop :=
  ∃ v, Wr T wx w.heap.size (w.heap.size + 1) v st ∧ Blk wx w.heap.size 26 (msgCells m A n k) ∧ Below w.heap.size w wx
def MsgCut0 (T : TypeId) (m : Ms) (A : Option Addr) (n k : Nat) (w : World) (wx : World) : Prop :=
  Wr T wx w.heap.size (w.heap.size + 1) (.slice none 0 0) ([], 0) ∧ Blk wx w.heap.size 26 (msgCells m A n k) ∧ Below w.heap.size w wx
theorem headM (m : Ms) : List.foldl numS ([], 0) [m.kind, m.from_, m.to_, m.epoch, m.n] = numS (numS (numS (numS (numS ([], 0) m.kind) m.from_) m.to_) m.epoch) m.n := rfl
theorem headM_len (m : Ms) : (numS (numS (numS (numS (numS ([], 0) m.kind) m.from_) m.to_) m.epoch) m.n).1.length ≤ 50 := by
  have := nums_len [m.kind, m.from_, m.to_, m.epoch, m.n] ([], 0)
  rw [headM] at this
  simpa using this
theorem newWr (T : TypeId) (w : World) (c : Array Value) (e : TypeId) : Wr T ((w.alloc (.cells c e)).alloc (.cells #[.slice none 0 0, .int .i64 0] T)) w.heap.size (w.heap.size + 1) (.slice none 0 0) ([], 0) := by
  refine ⟨?_, World.ownsRow_nil _ _ _ _, by simp [Value.ownBlock], by simp; omega⟩
  have := Blk.new (w.alloc (.cells c e)) T #[.slice none 0 0, .int .i64 0]
  simpa using this
theorem out_of {T : TypeId} {E : Int → Value} {w w1 w2 : World} {st : St} {v : Value} {p : Nat} (hW : Wr T w1 w.heap.size p v st) (hb : Below w.heap.size w w1) (hb2 : Below w1.heap.size w1 w2) :
    OutPost E (outS st) w (.returned (.tuple #[if st.2 ≠ 0 then .slice none 0 0 else v, E st.2])) w2 := by
  have hbb := hb.trans (hb2.mono hb.size)
  by_cases h : st.2 = 0
  · rw [outS_zero h, if_neg (by simpa using h), h]
    obtain ⟨A, c, rfl, hlc, _⟩ := own_slice hW.2.1
    have hr := (Rd.of_own hW.2.1).below hb2
    refine ⟨A, c, rfl, hr.more hb2.size, ⟨fun g off hg => ?_, hlc⟩, hbb⟩
    subst hg
    exact (hW.row g rfl).1
  · rw [outS_ne h, if_pos h]
    exact ⟨none, 0, rfl, Rd.none_ _ _ _ _, ⟨(fun g off hg => by cases hg), Nat.le_refl _⟩, hbb⟩
theorem out_of_done {T : TypeId} {w w1 w2 : World} {st : St} {v : Value} {p : Nat} {e : Ending} (hW : Wr T w1 w.heap.size p v st) (hb : Below w.heap.size w w1) (hd : DonePost v st w1 e w2) :
    ∃ a b, e = .returned (.tuple #[a, b]) ∧ OutPost errV (outS st) w (.returned (.tuple #[a, b])) w2 := by
  obtain ⟨rfl, hb2⟩ := hd
  exact ⟨_, _, rfl, out_of hW hb hb2⟩
set_option maxRecDepth 100000 in
set_option maxHeartbeats 1000000 in
theorem wmsg_any (m : Ms) (B : Nat) (A : Option Addr) (n k : Nat) (w : World) (hc : smallC m.cmd) (hr : ReadsP w B A n m.cmd.writes) (hB : B ≤ w.heap.size) :
    Calls Tryd.prog 10 #[msgV m A n k] w (OutPost errV (msgOut m) w) := by
  unfold msgV
  have hbase : MsgCut0 93 m A n k w ((w.alloc (.cells (msgCells m A n k) 26)).alloc (.cells #[.slice none 0 0, .int .i64 0] 93)) :=
    ⟨newWr _ w _ _, (Blk.new w _ _).alloc _, ((Below.refl _ _).alloc (Nat.le_refl _) _).alloc (by simp) _⟩
  have HB := Lib.hid hbase; clear hbase
  go_enter Tryd.func10, Tryd.ntmps10
  go_upto_region 2 with (fail)
  go_cut [14] (fun s14 wx => ∃ b : Bool, s14 = .bool b ∧ RowKit.Hid (b = kindB m.kind) ∧ MsgCut0 93 m A n k w wx)
  case first =>
    by_cases h1 : m.kind < 1
    · have d1 : decide (m.kind < 1) = true := by simpa using h1
      have hk : kindB m.kind = true := by unfold kindB; rw [decide_eq_true (.inl h1)]
      have HK := Lib.hid hk; clear hk
      go_wp2_with fail
      go_meet
      exact ⟨true, rfl, HK.out.symm, HB.out⟩
    · have d1 : decide (m.kind < 1) = false := by simpa using h1
      have hk : kindB m.kind = decide (4 < m.kind) := by unfold kindB; rw [decide_eq_decide]; omega
      have HK := Lib.hid hk; clear hk
      go_wp2_with fail
      go_meet
      exact ⟨_, rfl, HK.out.symm, HB.out⟩
  case rest =>
    clear HB
    obtain ⟨b, rfl, hbk, hcut⟩ := hcut
    have hbelow := hcut.2.2
    have HC := Lib.hid hcut; clear hcut
    rcases b with _ | _
    · have ho : msgOut m = outS (msgS m) := by unfold msgOut; rw [← hbk.out]; rfl
      have HO := Lib.hid ho; clear ho
      have hx0 := HC.out.2.1.cell 0
      have hx1 := HC.out.2.1.cell 1
      have hx2 := HC.out.2.1.cell 2
      have hx3 := HC.out.2.1.cell 3
      have hx4 := HC.out.2.1.cell 4
      simp only [msgCells] at hx0 hx1 hx2 hx3 hx4
      go_wp2_with fail
      have hrn : Rd (wc.alloc (.cells #[.int .i64 m.kind, .int .i64 m.from_, .int .i64 m.to_, .int .i64 m.epoch, .int .i64 m.n] 3)) (wc.heap.size + 1) 1 (some ⟨wc.heap.size, 0, none⟩) 5 ([m.kind, m.from_, m.to_, m.epoch, m.n].map (Value.int .i64)) := by
        simpa using Rd.lit wc #[.int .i64 m.kind, .int .i64 m.from_, .int .i64 m.to_, .int .i64 m.epoch, .int .i64 m.n] 3 5 1 rfl
      refine (num_any w.heap.size (w.heap.size + 1) (.slice none 0 0) ([], 0) [m.kind, m.from_, m.to_, m.epoch, m.n] (wc.heap.size + 1) _ 5 5 _ (HC.out.1.alloc _) (by simp) (by omega) hrn (by simp) (fun g off h _ => ?_)).mono ?_
      · injection h with h
        injection h with h1 h2
        subst h1
        exact ⟨fun e => by have := HC.out.1.lt; omega, fun e => by simp [Value.ownBlock] at e⟩
      rintro e w1 ⟨v1, rfl, h1, h2⟩
      rw [headM] at h1
      have hbl : Blk w1 w.heap.size 26 (msgCells m A n k) := h2.1.blk (HC.out.2.1.alloc _) (by
        rintro (e | e)
        · omega
        · simp [Value.ownBlock] at e)
      have hb1 : Below w.heap.size w w1 := hbelow.trans (((Below.refl _ _).alloc (by have := hbelow.size; omega) _).trans (h2.below (by omega) (fun g hg => by simp [Value.ownBlock] at hg) (by have := hbelow.size; simp; omega)))
      clear hx0 hx1 hx2 hx3 hx4 HC hbelow hrn h2
      have hx0 := hbl.cell 0
      have hx5 := hbl.cell 5
      have hx6 := hbl.cell 6
      have hx7 := hbl.cell 7
      have hx8 := hbl.cell 8
      simp only [msgCells] at hx0 hx5 hx6 hx7 hx8
      have H1 := Lib.hid h1; clear h1
      have hhl := headM_len m
      by_cases h3 : m.kind = 3
      · have d3 : (m.kind == 3) = true := by simpa using h3
        have hm : msgS m = cmdS (numS (numS (numS (numS (numS ([], 0) m.kind) m.from_) m.to_) m.epoch) m.n) m.cmd := by unfold msgS; rw [if_pos h3]
        have HM := Lib.hid hm; clear hm h3
        go_wp2_with fail
        refine (cmd_any w.heap.size (w.heap.size + 1) v1 _ m.cmd B A n k w1 H1.out (by omega) hc (hr.fr (S := fun k => w.heap.size ≤ k) (Fr.of_below hb1 (fun k _ h => by omega)) hB (fun g off h h0 => by
          obtain ⟨g', off', e, hg, _⟩ := hr.2.2 h0
          rw [h] at e
          injection e with e
          injection e with e1 e2
          omega)) (by have := hb1.size; omega) ?_).mono ?_
        · intro g off hA h0
          obtain ⟨g', off', e, hg, _⟩ := hr.2.2 h0
          rw [hA] at e
          injection e with e
          injection e with e1 e2
          exact ⟨by omega, fun e => by have := (H1.out.row _ e).1; omega⟩
        rintro e w2 ⟨v2, rfl, h1, h2⟩
        have hb2 : Below w.heap.size w w2 := hb1.trans (h2.below (by omega) (fun g hg => (H1.out.row g hg).1) (by have := hb1.size; omega))
        have H2 := Lib.hid h1; clear h1
        go_wp2_with fail
        refine (done_any w.heap.size (w.heap.size + 1) v2 _ w2 H2.out).mono ?_
        rintro e w9 hd
        obtain ⟨a, b, rfl, hout⟩ := out_of_done H2.out hb2 hd
        have HF := Lib.hid hout; clear hout hd
        go_wp2_with fail
        go_ret2
        rw [HO.out, HM.out]
        exact HF.out
      · have d3 : (m.kind == 3) = false := by simpa using h3
        have hm : msgS m = numS (numS (numS (numS (numS ([], 0) m.kind) m.from_) m.to_) m.epoch) m.n := by unfold msgS; rw [if_neg h3]
        have HM := Lib.hid hm; clear hm h3
        go_wp2_with fail
        refine (done_any w.heap.size (w.heap.size + 1) v1 _ w1 H1.out).mono ?_
        rintro e w9 hd
        obtain ⟨a, b, rfl, hout⟩ := out_of_done H1.out hb1 hd
        have HF := Lib.hid hout; clear hout hd
        go_wp2_with fail
        go_ret2
        rw [HO.out, HM.out]
        exact HF.out
    · have ho : msgOut m = ([], 1) := by unfold msgOut; rw [← hbk.out]; rfl
      have HO := Lib.hid ho; clear ho
      go_wp2_with fail
      go_ret2
      rw [HO.out]
      refine ⟨none, 0, ?_, Rd.none_ _ _ _ _, ⟨(fun g off hg => by cases hg), Nat.le_refl _⟩, hbelow⟩
      rw [errV_ne (by decide)]
      rfl
end Go.Proofs.YtnahkpfamocnfaaDoor
