/- chainmailkeep.CheckFits: what a round of its loops does to what holds. -/
import Derived.Test.YtnahkpfamocnfaaCheckFits2
namespace Go.Proofs.Ytnahkpfamocnfaa
open Go.RowKit
theorem in_box {w wo wr wc : World} {made : Bool} {m0 : Mp} {X : List TxR} {x : TxR} {n cx gx gm j gO cO k : Nat} {ff tt : Int} {tv : Value} {o : OpP} (h : InI w wo wr made m0 X x n cx gx gm j (some ⟨gO, 0, none⟩) cO ff tt k tv) (hs : SwI w wr wc made m0 x gm j gO cO k o) :
    Blk wc wo.heap.size 35 #[tv, .int .i64 ff, .int .i64 tt] ∧ wc.ownsRow w.heap.size 40 4 tv k ((accK made m0 x k).1.flatMap opCells) ∧ wo.heap.size ≠ gO ∧ gx ≠ wo.heap.size := by
  have h1 : wo.heap.size ≠ gO := fun e => own_blk_ne h.rowO h.boxT (by decide) (by show some gO = some _; rw [e])
  have h2 : gx ≠ wo.heap.size := fun e => own_blk_ne h.rowX h.boxT (by decide) (by show some gx = some _; rw [e])
  refine ⟨hs.fr.blk h.boxT ?_, hs.fr.own h.rowT ?_, h1, h2⟩
  · rintro (e | e)
    · exact h1 e
    · exact h.map.notBlk h.boxT e.symm
  · rintro g hg (e | e)
    · subst e; exact own_own_ne h.rowT h.rowO (by decide) hg rfl
    · subst e; exact h.map.notOwn h.rowT hg
theorem in_step {w wo wr wc w6 : World} {made : Bool} {m0 : Mp} {X : List TxR} {x : TxR} {n cx gx gm j gO cO k : Nat} {ff tt : Int} {tv tv' : Value} {o : OpP} (h : InI w wo wr made m0 X x n cx gx gm j (some ⟨gO, 0, none⟩) cO ff tt k tv) (hs : SwI w wr wc made m0 x gm j gO cO k o)
    (ho : x.t.ops[k]? = some o) (hO : wo.heap.size ≤ gO) (hm : Moved wc.drew w6 tv.ownBlock tv'.ownBlock) (hrow : w6.ownsRow w.heap.size 40 4 tv' (k + 1) ((accK made m0 x k).1.flatMap opCells ++ opCells (transO made (accK made m0 x k).2 o))) :
    InI w wo (w6.setCell ⟨wo.heap.size, 0, none⟩ tv') made m0 X x n cx gx gm j (some ⟨gO, 0, none⟩) cO ff tt (k + 1) tv' := by
  obtain ⟨hb, hT, hn1, hn2⟩ := in_box h hs
  have hX : wc.ownsRow w.heap.size 32 3 (.slice (some ⟨gx, 0, none⟩) n cx) n ((X.set j ⟨⟨[], ff, tt⟩, some ⟨gO, 0, none⟩, x.n, cO⟩).flatMap txCells) := hs.fr.own h.rowX (by
    rintro g hg (e | e)
    · subst e; exact own_own_ne h.rowX h.rowO (by decide) hg rfl
    · subst e; exact h.map.notOwn h.rowX hg)
  have f1 : Fr (fun q => tv.ownBlock = some q) wc w6 := ((Fr.refl _ _).drew).trans (hm.1.mono (fun i _ e => e.symm))
  have f2 : Fr (fun q => q = wo.heap.size) w6 (w6.setCell ⟨wo.heap.size, 0, none⟩ tv') := Fr.set1 _ _ _ _
  have hb6 := f1.blk hb (fun e => own_blk_ne hT hb (by decide) e)
  have hbl : wo.heap.size < wc.heap.size := hb.lt
  refine ⟨?_, ?_, ?_, ?_, ?_, ?_, ?_⟩
  · refine f2.own (f1.own hX (fun g hg e => own_own_ne hX hT (by decide) hg e)) (fun g hg e => ?_)
    have : gx = g := Option.some.inj hg
    omega
  · have h1 := f2.own (f1.own hs.rowO (fun g hg e => own_own_ne hs.rowO hT (by decide) hg e)) (fun g hg e => by
      have : gO = g := Option.some.inj hg
      omega)
    rw [accK_step ho]
    rw [show (accK made m0 x k).1 ++ transO made (accK made m0 x k).2 o :: x.t.ops.drop (k + 1) = ((accK made m0 x k).1 ++ [transO made (accK made m0 x k).2 o]) ++ x.t.ops.drop (k + 1) from by simp] at h1
    exact h1
  · have := hb6.set_ 0 tv'
    simpa using this
  · have h1 := f2.own hrow (fun g hg e => by
      subst e
      exact own_blk_ne hrow hb6 (by decide) hg)
    rw [accK_step ho, List.flatMap_append]
    simpa using h1
  · intro g hg
    rcases hm.2 with e | ⟨g2, e, h2⟩
    · exact h.newT g (e ▸ hg)
    · rw [e] at hg
      injection hg with hg
      have h2 : wc.heap.size ≤ g2 := h2
      omega
  · rw [accK_step ho]
    refine (hs.map.fr f1 (fun e => hs.map.notOwn hT e)).fr f2 (fun e => ?_)
    exact (hs.map.fr f1 (fun e => hs.map.notOwn hT e)).notBlk hb6 e
  · have g1 : Fr (fun q => q = gx ∨ q = gm) wo wc := h.fr.trans' hs.fr (fun i hi e => by
      rcases e with e | e
      · omega
      · exact .inr e)
    have g2 : Fr (fun q => q = gx ∨ q = gm) wo w6 := g1.trans' f1 (fun i hi e => by have := h.newT i e; omega)
    exact g2.trans' f2 (fun i hi e => by omega)
theorem flat_set_same {X : List TxR} {j : Nat} {y y' : TxR} (h : txCells y = txCells y') : (X.set j y).flatMap txCells = (X.set j y').flatMap txCells := by
  rw [List.flatMap_def, List.flatMap_def, List.map_set, List.map_set, h]
theorem accK_all {made : Bool} {m0 : Mp} {x : TxR} {k : Nat} (h : x.t.ops.length ≤ k) : accK made m0 x k = x.t.ops.foldl (transS made) ([], m0) := by unfold accK; rw [List.take_of_length_le h]
theorem out_step {w wo wr w8 : World} {L0 : List TxR} {made : Bool} {X W : List TxR} {x : TxR} {n cx gx gm j cO cT : Nat} {AO AT : Option Addr} {ff tt : Int} {v5 v5' : Value} (h : OutI w wo L0 made n cx gx gm j X W v5) (hj : j < n) (hxl : L0[j]? = some x) (hlen : x.t.ops.length = x.n) (h12 : x.n ≤ 12)
    (hi : InI w wo wr made (accJ L0 made j).2 X x n cx gx gm j AO cO ff tt x.n (.slice AT x.n cT)) (hff : ff = if made then 2 * (j : Int) else x.t.from_) (htt : tt = if made then 2 * (j : Int) + 3 else x.t.to_)
    (hm : Moved wr w8 v5.ownBlock v5'.ownBlock) (hrow : w8.ownsRow w.heap.size 35 3 v5' (j + 1) (W.flatMap txCells ++ [.slice AT x.n cT, .int .i64 ff, .int .i64 tt])) :
    OutI w w8 L0 made n cx gx gm (j + 1) (X.set j ⟨(transT made j (accJ L0 made j).2 x.t).1, AO, x.n, cO⟩) (W ++ [⟨(transT made j (accJ L0 made j).2 x.t).1, AT, x.n, cT⟩]) v5' := by
  have hT : (transT made j (accJ L0 made j).2 x.t).1 = ⟨(accK made (accJ L0 made j).2 x x.n).1, ff, tt⟩ := by
    rw [accK_all (by omega), hff, htt]; rfl
  have hM : (transT made j (accJ L0 made j).2 x.t).2 = (accK made (accJ L0 made j).2 x x.n).2 := by rw [accK_all (by omega)]; rfl
  have hstep := accJ_step (made := made) hxl
  have hXl : j < X.length := by rw [h.lenX]; exact hj
  have f1 : Fr (fun q => v5.ownBlock = some q) wr w8 := hm.1.mono (fun i _ e => e.symm)
  have hW : wr.ownsRow w.heap.size 35 3 v5 j (W.flatMap txCells) := hi.fr.own h.rowW (by
    rintro g hg (e | e)
    · subst e; exact own_own_ne h.rowW h.rowX (by decide) hg rfl
    · subst e; exact h.map.notOwn h.rowW hg)
  have hold : ∀ (T : TypeId) (size k : Nat) (v : Value) (xs : List Value), T ≠ 32 → T ≠ 35 → wo.ownsRow w.heap.size T size v k xs → w8.ownsRow w.heap.size T size v k xs := fun T size k v xs hne1 hne2 ho => by
    have h1 : wr.ownsRow w.heap.size T size v k xs := hi.fr.own ho (by
      rintro g hg (e | e)
      · subst e; exact own_own_ne ho h.rowX hne1 hg rfl
      · subst e; exact h.map.notOwn ho hg)
    exact f1.own h1 (fun g hg e => own_own_ne h1 hW hne2 hg e)
  have hnew : ∀ (T : TypeId) (size k : Nat) (v : Value) (xs : List Value), T ≠ 35 → wr.ownsRow w.heap.size T size v k xs → w8.ownsRow w.heap.size T size v k xs := fun T size k v xs hne2 ho => f1.own ho (fun g hg e => own_own_ne ho hW hne2 hg e)
  rw [hT]
  refine ⟨?_, by simp [h.lenX], ?_, ?_, ?_, ?_, ?_, ?_, ?_, ?_, h.gm, ?_⟩
  · have h1 := hnew _ _ _ _ _ (by decide) hi.rowX
    rw [flat_set_same (y := ⟨⟨[], ff, tt⟩, AO, x.n, cO⟩) (y' := ⟨⟨(accK made (accJ L0 made j).2 x x.n).1, ff, tt⟩, AO, x.n, cO⟩) rfl] at h1
    exact h1
  · rw [List.drop_set_of_lt (by omega)]
    have h1 := congrArg (List.drop 1) h.dropX
    rw [List.drop_drop, List.drop_drop] at h1
    exact h1
  · rw [hstep, hT]
    have h1 : (X.set j ⟨⟨(accK made (accJ L0 made j).2 x x.n).1, ff, tt⟩, AO, x.n, cO⟩).take (j + 1) = X.take j ++ [⟨⟨(accK made (accJ L0 made j).2 x x.n).1, ff, tt⟩, AO, x.n, cO⟩] := by
      rw [List.take_add_one, List.take_set_of_le (by omega)]
      simp [hXl]
    rw [h1]
    unfold tsOf
    rw [List.map_append]
    have := h.tsX
    unfold tsOf at this
    rw [this]; rfl
  · intro y hy
    have h1 : (X.set j ⟨⟨(accK made (accJ L0 made j).2 x x.n).1, ff, tt⟩, AO, x.n, cO⟩).take (j + 1) = X.take j ++ [⟨⟨(accK made (accJ L0 made j).2 x x.n).1, ff, tt⟩, AO, x.n, cO⟩] := by
      rw [List.take_add_one, List.take_set_of_le (by omega)]
      simp [hXl]
    rw [h1] at hy
    rcases List.mem_append.1 hy with hy | hy
    · exact hold _ _ _ _ _ (by decide) (by decide) (h.ownX y hy)
    · rw [List.mem_singleton.1 hy]
      have h2 := hnew _ _ _ _ _ (by decide) hi.rowO
      rw [List.drop_of_length_le (by omega), List.append_nil] at h2
      exact h2
  · rw [List.flatMap_append]
    simpa [txCells] using hrow
  · unfold tsOf
    rw [List.map_append, hstep, hT]
    have := h.tsW
    unfold tsOf at this
    rw [this]; rfl
  · intro y hy
    rcases List.mem_append.1 hy with hy | hy
    · exact hold _ _ _ _ _ (by decide) (by decide) (h.ownW y hy)
    · rw [List.mem_singleton.1 hy]
      exact hnew _ _ _ _ _ (by decide) hi.rowT
  · rw [hstep, hM]
    exact (hi.map.fr f1 (fun e => hi.map.notOwn hW e)).mono (by omega)
  · intro y hy
    rw [List.take_add_one, hxl] at hy
    rcases List.mem_append.1 hy with hy | hy
    · exact h.few y hy
    · have : y = x := by simpa using hy
      rw [this]; exact h12
  · have h1 : Below w.heap.size wo wr := hi.fr.below (by
      rintro i (e | e)
      · rw [e]; exact (h.rowX.lt gx rfl).1
      · rw [e]; exact h.gm) h.below.size
    exact (h.below.trans h1).trans (f1.below (fun i e => (hW.lt i e).1) (Nat.le_trans h.below.size hi.fr.size))
theorem acc_short (N : Nat) (made : Bool) : ∀ (l : List TxP) (a : List TxP × Mp), (∀ t ∈ a.1, t.ops.length ≤ N) → (∀ t ∈ l, t.ops.length ≤ N) → ∀ t ∈ (l.foldl (transL made) a).1, t.ops.length ≤ N
  | [], _, h, _ => h
  | t :: l, a, h, h2 => by
    rw [List.foldl_cons]
    refine acc_short N made l _ (fun u hu => ?_) (fun u hu => h2 u (List.mem_cons_of_mem _ hu))
    unfold transL at hu
    rcases List.mem_append.1 hu with hu | hu
    · exact h u hu
    · rw [List.mem_singleton.1 hu]
      unfold transT
      simp only
      rw [transS_len]
      simpa using h2 t (List.mem_cons_self ..)
/-- What is made of a history, read back: the program's, or the document's. -/
theorem out_reads {w wo : World} {L0 X : List TxR} {made : Bool} {B j : Nat} {A : Option Addr} {T : TypeId} (h0 : ReadsT w B A j L0) (hts : tsOf X = (accJ L0 made j).1) (few : ∀ x ∈ L0.take j, x.n ≤ 12)
    (hown : ∀ y ∈ X, wo.ownsRow w.heap.size T 4 (.slice y.A y.n y.c) y.n (y.t.ops.flatMap opCells)) :
    (∀ x ∈ X, ReadsO wo wo.heap.size x.A x.n x.t.ops ∧ ∀ o ∈ x.t.ops, opFine o) ∧ ∀ x ∈ X, x.n ≤ 12 := by
  have hlen : ∀ y ∈ X, y.t.ops.length = y.n := fun y hy => by
    have h1 := (hown y hy).1
    rw [flat_len 4 opCells (fun _ => rfl)] at h1
    omega
  have hfine : ∀ t ∈ tsOf X, ∀ o ∈ t.ops, fineP maxLen o := by
    rw [hts]
    refine accL_fine maxLen made _ _ (fun t ht => by cases ht) (fun k v hv => by cases hv) (fun t ht o ho => ?_)
    have ht := List.mem_of_mem_take ht
    unfold tsOf at ht
    obtain ⟨y, hy, rfl⟩ := List.mem_map.1 ht
    exact (h0.2.2 y hy).2 o ho
  have hshort : ∀ t ∈ tsOf X, t.ops.length ≤ 12 := by
    rw [hts]
    refine acc_short 12 made _ _ (fun t ht => by cases ht) (fun t ht => ?_)
    unfold tsOf at ht
    rw [← List.map_take] at ht
    obtain ⟨y, hy, rfl⟩ := List.mem_map.1 ht
    have h1 := few y hy
    have h2 := (h0.2.2 y (List.mem_of_mem_take hy)).1.1
    omega
  refine ⟨fun x hx => ⟨⟨hlen x hx, Rd.of_own (hown x hx)⟩, hfine x.t (List.mem_map.2 ⟨x, hx, rfl⟩)⟩, fun x hx => ?_⟩
  have h1 := hlen x hx
  have h2 := hshort x.t (List.mem_map.2 ⟨x, hx, rfl⟩)
  omega
theorem ReadsT.more {w : World} {B B' n : Nat} {A : Option Addr} {l : List TxR} (h : ReadsT w B A n l) (hB : B ≤ B') : ReadsT w B' A n l := ⟨h.1, h.2.1.more hB, fun x hx => ⟨⟨(h.2.2 x hx).1.1, (h.2.2 x hx).1.2.more hB⟩, (h.2.2 x hx).2⟩⟩
end Go.Proofs.Ytnahkpfamocnfaa
