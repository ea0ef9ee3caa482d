/- wire.Log: its contract. -/
import Derived.Test.YtnahkpfamocnfaaDoorMsgR
namespace Go.Proofs.YtnahkpfamocnfaaDoor
open Go.RowKit
/-- A command as it lies: its Writes' slice. -/
structure CmR where
  c : Cm
  A : Option Addr
  n : Nat
  k : Nat
def crCells (x : CmR) : List Value := [.int .i64 x.c.kind, .int .i64 x.c.tx, .int .i64 x.c.time, .slice x.A x.n x.k]
def ReadsC (w : World) (B : Nat) (A : Option Addr) (n : Nat) (l : List CmR) : Prop := l.length = n ∧ Rd w B 4 A n (l.flatMap crCells) ∧ ∀ x ∈ l, ReadsP w B x.A x.n x.c.writes
theorem flat4 : ∀ (l : List CmR) (j : Nat) (x : CmR), l[j]? = some x → (l.flatMap crCells)[j * 4]? = some (.int .i64 x.c.kind) ∧ (l.flatMap crCells)[j * 4 + 1]? = some (.int .i64 x.c.tx) ∧ (l.flatMap crCells)[j * 4 + 2]? = some (.int .i64 x.c.time) ∧ (l.flatMap crCells)[j * 4 + 3]? = some (.slice x.A x.n x.k)
  | [], j, p, h => by simp at h
  | q :: l, 0, p, h => by
    simp at h
    subst h
    simp [crCells]
  | q :: l, j + 1, p, h => by
    have h' : l[j]? = some p := by simpa using h
    obtain ⟨a, b, c, d⟩ := flat4 l j p h'
    have e : ∀ i, ((q :: l).flatMap crCells)[(j + 1) * 4 + i]? = (l.flatMap crCells)[j * 4 + i]? := fun i => by
      have : (j + 1) * 4 + i = (j * 4 + i) + 4 := by omega
      rw [this, List.flatMap_cons]
      rw [List.getElem?_append_right (by simp [crCells])]
      simp [crCells]
    exact ⟨by simpa using (e 0).trans (by simpa using a), (e 1).trans b, (e 2).trans c, (e 3).trans d⟩
theorem ReadsC.at_ {w : World} {B n k : Nat} {A : Option Addr} {l : List CmR} (h : ReadsC w B A n l) (hk : k < n) : ∃ g off x, A = some ⟨g, off, none⟩ ∧ g < B ∧ l[k]? = some x ∧
    w.cell? ⟨g, off + k * 4, none⟩ = some (.int .i64 x.c.kind) ∧ w.cell? ⟨g, off + k * 4 + 1, none⟩ = some (.int .i64 x.c.tx) ∧ w.cell? ⟨g, off + k * 4 + 2, none⟩ = some (.int .i64 x.c.time) ∧ w.cell? ⟨g, off + k * 4 + 3, none⟩ = some (.slice x.A x.n x.k) ∧ ReadsP w B x.A x.n x.c.writes := by
  obtain ⟨g, off, e, hb, hc⟩ := h.2.1.2 (by omega)
  have hl : k < l.length := by rw [h.1]; exact hk
  have hp : l[k]? = some l[k] := List.getElem?_eq_getElem hl
  obtain ⟨a, b, c, d⟩ := flat4 l k _ hp
  exact ⟨g, off, l[k], e, hb, hp, hc _ _ a, hc _ _ b, hc _ _ c, hc _ _ d, h.2.2 _ (List.getElem_mem hl)⟩
theorem ReadsC.below {w w' : World} {B n : Nat} {A : Option Addr} {l : List CmR} (h : ReadsC w B A n l) (hb : Below B w w') : ReadsC w' B A n l := ⟨h.1, h.2.1.below hb, fun x hx => ⟨(h.2.2 x hx).1, (h.2.2 x hx).2.below hb⟩⟩
theorem ReadsP.more {w : World} {B B' n : Nat} {A : Option Addr} {l : List Pr} (h : ReadsP w B A n l) (hB : B ≤ B') : ReadsP w B' A n l := ⟨h.1, h.2.more hB⟩
def csOf (l : List CmR) : List Cm := l.map (·.c)
def LogRel (T : TypeId) (l : List CmR) (n : Nat) (w : World) (i : Value) (wr : World) : Prop :=
  ∃ (j : Nat) (v' : Value), i = .int .i64 j ∧ j ≤ n ∧ Wr T wr w.heap.size w.heap.size v' (((csOf l).take j).foldl cmdS (numS ([], 0) n)) ∧ Below w.heap.size w wr
theorem newWr0 (T : TypeId) (w : World) : Wr T (w.alloc (.cells #[.slice none 0 0, .int .i64 0] T)) w.heap.size w.heap.size (.slice none 0 0) ([], 0) :=
  ⟨Blk.new w T _, World.ownsRow_nil _ _ _ _, by simp [Value.ownBlock], by simp⟩
theorem logs_len (l : List CmR) (n j : Nat) (hs : ∀ x ∈ l, smallC x.c) : (((csOf l).take j).foldl cmdS (numS ([], 0) n)).1.length ≤ 10 + 83888040 * j := by
  have h1 := cmds_len ((csOf l).take j) (numS ([], 0) n) (fun c hc => by
    obtain ⟨x, hx, rfl⟩ := List.mem_map.1 (List.mem_of_mem_take hc)
    exact hs x hx)
  have h2 := numS_len ([], 0) (n : Int)
  have h3 : ((csOf l).take j).length ≤ j := List.length_take_le _ _
  have h4 : 83888040 * ((csOf l).take j).length ≤ 83888040 * j := Nat.mul_le_mul_left _ h3
  simp at h2
  omega
theorem take_step (l : List CmR) (n j : Nat) (x : CmR) (h : l[j]? = some x) : ((csOf l).take (j + 1)).foldl cmdS (numS ([], 0) n) = cmdS (((csOf l).take j).foldl cmdS (numS ([], 0) n)) x.c :=
  foldl_take cmdS (csOf l) _ j x.c (by simp [csOf, h])
set_option maxRecDepth 100000 in
set_option maxHeartbeats 1000000 in
theorem wlog_any (l : List CmR) (B : Nat) (A : Option Addr) (n k : Nat) (w : World) (hs : ∀ x ∈ l, smallC x.c) (hr : ReadsC w B A n l) (hB : B ≤ w.heap.size) (hn : n ≤ 1000) :
    Calls Tryd.prog 13 #[.slice A n k] w (OutPost errV (outS (logS (csOf l))) w) := by
  have hW0 := newWr0 93 w
  have HW0 := Lib.hid hW0; clear hW0
  have hll : (csOf l).length = n := by simp [csOf, hr.1]
  have HLL := Lib.hid hll; clear hll
  have HS := Lib.hid hs; clear hs
  go_enter Tryd.func13, Tryd.ntmps13
  go_wp2_with fail
  refine (num_one w.heap.size w.heap.size (w.heap.size + 1) (.slice none 0 0) ([], 0) (n : Int) _ (by simp) HW0.out (by simp)).mono ?_
  rintro e w1 ⟨v1, rfl, h1, h2⟩
  have hb1 : Below w.heap.size w w1 := ((Below.refl _ _).alloc (Nat.le_refl _) _).trans (h2.below (Nat.le_refl _) (fun g hg => by simp [Value.ownBlock] at hg) (by simp))
  have H1 := Lib.hid h1; clear h1 h2 HW0
  go_wp2_with fail
  go_loopw [16] (LogRel 93 l n w) (fun i _ => n - (intOf i).toNat)
  case atStart => exact ⟨0, v1, rfl, Nat.zero_le _, H1.out, hb1⟩
  case round =>
    clear H1 hb1
    obtain ⟨j, v', rfl, hj, hW', hbw⟩ := hrel
    have HW' := Lib.hid hW'; clear hW'
    have hlen := logs_len l n j HS.out
    by_cases hlt : (j : Int) < n
    · obtain ⟨g, off, x, rfl, hab, hx, hk0, hk1, hk2, hk3, hrp⟩ := hr.at_ (k := j) (by omega)
      have hcar : ∀ (o : Nat) (u : Value), w.cell? ⟨g, o, none⟩ = some u → wr.cell? ⟨g, o, none⟩ = some u := fun o u h => by
        rw [hbw.cell (p := ⟨g, o, none⟩) (by show g < _; omega)]
        exact h
      have hq0 := hcar _ _ hk0
      have hq1 := hcar _ _ hk1
      have hq2 := hcar _ _ hk2
      have hq3 := hcar _ _ hk3
      clear hk0 hk1 hk2 hk3
      have HX := Lib.hid hx; clear hx
      have HCA := Lib.hid hcar; clear hcar
      have hsx : smallC x.c := HS.out x (List.mem_of_getElem? HX.out)
      have HSX := Lib.hid hsx; clear hsx
      have hrw : ∀ o, ReadsP (wr.alloc o) B x.A x.n x.c.writes := fun o => ⟨hrp.1, hrp.2.below ((hbw.alloc (by have := hbw.size; omega) o).mono hB)⟩
      have HRW := Lib.hid hrw; clear hrw
      have hcall := fun W => cmd_any w.heap.size w.heap.size v' (((csOf l).take j).foldl cmdS (numS ([], 0) n)) x.c B x.A x.n x.k W
      unfold cmdV at hcall
      have HCALL := Lib.hid hcall; clear hcall
      have hst := take_step l n j x HX.out
      have HST := Lib.hid hst; clear hst
      have hbz := hbw.size
      go_wp2_with fail
      refine (HCALL.out _ (HW'.out.alloc _) (by omega) HSX.out (HRW.out _) (by simp; omega) ?_).mono ?_
      · intro g' off' hA h0
        obtain ⟨g2, off2, e, hg, _⟩ := hrp.2.2 h0
        rw [hA] at e
        injection e with e
        injection e with e1 e2
        exact ⟨by omega, fun e => by have := (HW'.out.row _ e).1; omega⟩
      rintro e w2 ⟨v2, rfl, h21, h22⟩
      have hb2 : Below w.heap.size w w2 := (hbw.alloc hbz _).trans (h22.below (Nat.le_refl _) (fun g hg => (HW'.out.row g hg).1) (by simp; omega))
      have H21 := Lib.hid h21; clear h21 h22
      go_wp2_with fail
      go_roundw
      case rel => exact ⟨j + 1, v2, rfl, by omega, by rw [HST.out]; exact H21.out, hb2⟩
      case measure => simp [intOf]; omega
    · have hjn : j = n := by omega
      subst hjn
      have hfull : ((csOf l).take j).foldl cmdS (numS ([], 0) j) = (csOf l).foldl cmdS (numS ([], 0) (csOf l).length) := by
        rw [List.take_of_length_le (Nat.le_of_eq HLL.out), HLL.out]
      have hq1 := HW'.out.c1
      have hqf := HW'.out.f 1
      by_cases h5 : (500 : Int) < j
      · have hls : logS (csOf l) = ((((csOf l).take j).foldl cmdS (numS ([], 0) j)).1, 4) := by
          unfold logS limS
          rw [← hfull, HLL.out, decide_eq_true (by omega)]; rfl
        have HLS := Lib.hid hls; clear hls hfull
        go_wp2_with fail
        refine (done_any w.heap.size w.heap.size v' _ _ (HW'.out.setBad 4)).mono ?_
        rintro e w9 hd
        obtain ⟨a, b, rfl, hout⟩ := out_of_done (HW'.out.setBad 4) (hbw.setCell (Nat.le_refl _) _) hd
        have HF := Lib.hid hout; clear hout hd
        go_wp2_with fail
        go_ret2
        rw [HLS.out]
        exact HF.out
      · have hls : logS (csOf l) = ((csOf l).take j).foldl cmdS (numS ([], 0) j) := by
          unfold logS limS
          rw [← hfull, HLL.out, decide_eq_false (by omega)]; rfl
        have HLS := Lib.hid hls; clear hls hfull
        go_wp2_with fail
        refine (done_any w.heap.size w.heap.size v' _ wr HW'.out).mono ?_
        rintro e w9 hd
        obtain ⟨a, b, rfl, hout⟩ := out_of_done HW'.out hbw hd
        have HF := Lib.hid hout; clear hout hd
        go_wp2_with fail
        go_ret2
        rw [HLS.out]
        exact HF.out
end Go.Proofs.YtnahkpfamocnfaaDoor
