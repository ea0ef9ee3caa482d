/- locks: the table's methods, told of a table of one's own. -/
import Derived.Test.YtopmehbncidpnaaGreatDoorRel2
import Derived.Test.YtopmehbncidpnaaGreatDoorLkA
namespace Go.Proofs.YtopmehbncidpnaaGreatDoor
open Go.RowKit
/-- A table whose variable is block g; W: the world ahead of it; U: blocks that are others'. -/
def TA (g n : Nat) (T : Tb) (W : World) (U : Nat → Prop) (w : World) : Prop :=
  ∃ mb loc, TabI w W.heap.size n g 0 25 #[.map mb] mb loc T ∧ Below W.heap.size W w ∧ W.heap.size ≤ g ∧ (∀ b, U b → b < w.heap.size ∧ b ≠ g ∧ ¬ TFoot mb loc T b)
theorem TA.turned {g n n' : Nat} {T T' : Tb} {W w w' : World} {U : Nat → Prop} {mb mb' : Option Nat} {loc loc' : Sx → KLoc} {ty : TypeId} {cs : Array Value} (hI : TabI w W.heap.size n g 0 ty cs mb loc T) (hB : Below W.heap.size W w) (hg : W.heap.size ≤ g) (hU : ∀ b, U b → b < w.heap.size ∧ b ≠ g ∧ ¬ TFoot mb loc T b)
    (hI' : TabI w' W.heap.size n' g 0 25 #[.map mb'] mb' loc' T') (hft : ∀ b, TFoot mb' loc' T' b → TFoot mb loc T b ∨ w.heap.size ≤ b) (hfr : Fr (TFr g mb loc T) w w') : TA g n' T' W U w' ∧ ∀ b, U b → w'.heap[b]? = w.heap[b]? := by
  refine ⟨⟨mb', loc', hI', hB.trans (hfr.below (fun i hi => ?_) hB.size), hg, fun b hb => ?_⟩, fun b hb => ?_⟩
  · rcases hi with rfl | hi
    · exact hg
    · exact (hI.foot_lt hi).1
  · obtain ⟨h1, h2, h3⟩ := hU b hb
    refine ⟨Nat.lt_of_lt_of_le h1 hfr.size, h2, fun h4 => ?_⟩
    rcases hft b h4 with h5 | h5
    · exact h3 h5
    · omega
  · obtain ⟨h1, h2, h3⟩ := hU b hb
    exact hfr.block b h1 (fun h4 => h4.elim h2 h3)
theorem TA.tall {g n : Nat} {T : Tb} {W w w' : World} {U : Nat → Prop} (h : TA g n T W U w) (hb : Below w.heap.size w w') : TA g n T W U w' := by
  obtain ⟨mb, loc, hI, hB, hg, hU⟩ := h
  exact ⟨mb, loc, hI.tall hb, hB.trans (hb.mono hB.size), hg, fun b h => ⟨Nat.lt_of_lt_of_le (hU b h).1 hb.size, (hU b h).2⟩⟩
theorem TA.mono {g n n' : Nat} {T : Tb} {W w : World} {U U' : Nat → Prop} (h : TA g n T W U w) (hn : n ≤ n') (hU' : ∀ b, U' b → U b) : TA g n' T W U' w := by
  obtain ⟨mb, loc, hI, hB, hg, hU⟩ := h
  exact ⟨mb, loc, hI.mono hn, hB, hg, fun b h => hU b (hU' b h)⟩
theorem TA.new (W : World) : TA W.heap.size 0 (fun _ => none) W (fun _ => False) (W.alloc (.cells #[.map none] 25)) :=
  ⟨none, fun _ => ⟨0, 0, .slice none 0 0⟩, ⟨Blk.new _ _ _, rfl, (fun x => rfl), (fun x k h => by cases h), (fun x y _ h => absurd rfl h), (fun x h => absurd rfl h), by decide, (fun b h => by cases h), (fun x h => absurd rfl h), by simp⟩, (Below.refl _ _).alloc (Nat.le_refl _) _, Nat.le_refl _, fun b h => h.elim⟩
/-- Other blocks that lie there already. -/
theorem TA.also {g n : Nat} {T : Tb} {W w : World} {U U' : Nat → Prop} (h : TA g n T W U w) (hU' : ∀ b, U' b → ∃ t cs, Blk w b t cs ∧ t ≠ 25 ∧ t ≠ 65 ∧ t ≠ 62) : TA g n T W (fun b => U b ∨ U' b) w := by
  obtain ⟨mb, loc, hI, hB, hg, hU⟩ := h
  refine ⟨mb, loc, hI, hB, hg, fun b hb => ?_⟩
  rcases hb with hb | hb
  · exact hU b hb
  · obtain ⟨t, cs, h1, h2, h3, h4⟩ := hU' b hb
    exact ⟨h1.lt, hI.notBlk h1 h2 h3 h4⟩
theorem lock_any (base n g off : Nat) (ty : TypeId) (cs : Array Value) (mb : Option Nat) (loc : Sx → KLoc) (T : Tb) (s : ByteArray) (tx mode : Int) (w : World) (hI : TabI w base n g off ty cs mb loc T) (hmode : OkMode mode) (hl : (sx s).length ≤ 20) (htx : okN tx) (hn : n < 1000000)
    (hsort : (atT T (sx s)).ws.Pairwise (·.1 < ·.1)) :
    Calls Tryz.prog 5 #[.pointer (some ⟨g, off, none⟩), .int .i64 tx, .string s, .int .i64 mode] w (LockPost base n g off ty cs mb loc T ⟨tx, sx s, mode⟩ w) := by
  rcases hw : waitsB (atT T (sx s)).ws tx with _ | _
  · rcases hf : freeB (atT T (sx s)).h tx mode (atT T (sx s)).ws with _ | _
    · exact lock_blocked base n g off ty cs mb loc T s tx mode w hI hmode hl htx hn hw hf hsort
    · exact lock_got base n g off ty cs mb loc T s tx mode w hI hmode hl htx hn hw hf
  · exact lock_twice base n g off ty cs mb loc T s tx mode w hI hmode hl htx hn hw
def TaLock (g n : Nat) (T : Tb) (W : World) (U : Nat → Prop) (x : Ak) (w : World) (e : Ending) (w' : World) : Prop :=
  ∃ (ok : Bool) (l : List Int) (er : Int) (T' : Tb) (A : Option Addr) (c : Nat), e = .returned (.tuple #[.bool ok, .slice A l.length c, erV er]) ∧ LockP T x ok l er T' ∧
    TA g (n + 2) T' W (fun b => U b ∨ ∃ o, A = some ⟨b, o, none⟩ ∧ 0 < l.length) w' ∧ Rd w' w'.heap.size 1 A l.length (l.map (Value.int .i64)) ∧ ∀ b, U b → w'.heap[b]? = w.heap[b]?
theorem ta_lock {g n : Nat} {T : Tb} {W w : World} {U : Nat → Prop} (h : TA g n T W U w) (s : ByteArray) (tx mode : Int) (hmode : OkMode mode) (hl : (sx s).length ≤ 20) (htx : okN tx) (hn : n < 1000000) (hsort : (atT T (sx s)).ws.Pairwise (·.1 < ·.1)) :
    Calls Tryz.prog 5 #[.pointer (some ⟨g, 0, none⟩), .int .i64 tx, .string s, .int .i64 mode] w (TaLock g n T W U ⟨tx, sx s, mode⟩ w) := by
  obtain ⟨mb, loc, hI, hB, hg, hU⟩ := h
  refine (lock_any _ n g 0 _ _ mb loc T s tx mode w hI hmode hl htx hn hsort).mono ?_
  rintro e w' ⟨ok, l, er, T', A, c, mb', loc', rfl, hP, hI', hft, hfr, hrd, hA⟩
  have h1 := TA.turned hI hB hg hU hI' hft hfr
  refine ⟨ok, l, er, T', A, c, rfl, hP, ?_, hrd, h1.2⟩
  obtain ⟨⟨mb2, loc2, hI2, hB2, hg2, hU2⟩, _⟩ := TA.turned (U := fun b => U b) hI hB hg hU hI' hft hfr
  have hU3 := (TA.turned hI hB hg hU hI' hft hfr).1
  refine ⟨mb', loc', hI', hB2, hg, fun b hb => ?_⟩
  rcases hb with hb | ⟨o, e, h0⟩
  · obtain ⟨k1, k2, k3⟩ := hU b hb
    refine ⟨Nat.lt_of_lt_of_le k1 hfr.size, k2, fun k4 => ?_⟩
    rcases hft b k4 with h5 | h5
    · exact k3 h5
    · omega
  · obtain ⟨k1, k2⟩ := hA b o e h0
    obtain ⟨g', off', e', hlt, _⟩ := hrd.2 h0
    rw [e] at e'
    injection e' with e'
    injection e' with e' _
    have := hI.blk.lt
    exact ⟨by omega, by omega, k2⟩
def TaRel (g n : Nat) (T : Tb) (W : World) (U : Nat → Prop) (tx : Int) (w : World) (e : Ending) (w' : World) : Prop :=
  ∃ (V : Value) (ks : List Sx), e = .returned V ∧ KeysP T ks ∧ w'.ownsRow (w.heap.size + 1) 47 3 V (ks.flatMap (grantsOf T tx)).length ((ks.flatMap (grantsOf T tx)).flatMap akCells) ∧ TA g (n + 50) (relT T tx) W U w' ∧ (∀ b, U b → w'.heap[b]? = w.heap[b]?) ∧ w.heap.size ≤ w'.heap.size
theorem ta_release {g n : Nat} {T : Tb} {W w : World} {U : Nat → Prop} (h : TA g n T W U w) (tx : Int) (htx : okN tx) (hn : n < 1000000) :
    Calls Tryz.prog 9 #[.pointer (some ⟨g, 0, none⟩), .int .i64 tx] w (TaRel g n T W U tx w) := by
  obtain ⟨mb, loc, hI, hB, hg, hU⟩ := h
  refine (release_any _ n g 0 _ _ mb loc T tx w hI htx hn ⟨by decide, by decide, by decide⟩).mono ?_
  rintro e w' ⟨V, ks, loc', rfl, hks, hrow, hI', hft, hfr⟩
  have h1 := TA.turned hI hB hg hU hI' hft hfr
  exact ⟨V, ks, rfl, hks, hrow, h1.1, h1.2, hfr.size⟩
theorem look_nil (w : World) (s : ByteArray) : (Instr.lookup 23 (.map none) (.string s) false).run Tryz.prog w = .ok (.pointer none) w := by kernel_rfl
theorem tab_look' {w : World} {n : Nat} {mb : Option Nat} {loc : Sx → KLoc} {T : Tb} (hm : TabM w n mb loc T) {s : ByteArray} (hs : (sx s).length ≤ 20) :
    (Instr.lookup 23 (.map mb) (.string s) false).run Tryz.prog w = .ok (match T (sx s) with | none => .pointer none | some _ => .pointer (some ⟨(loc (sx s)).g, 0, none⟩)) w := by
  rcases mb with _ | b
  · have : T (sx s) = none := hm (sx s)
    rw [this]
    exact look_nil w s
  · exact tab_look hm (by rw [size_sx]; unfold maxLen; omega)
set_option maxRecDepth 100000 in
set_option maxHeartbeats 4000000 in
theorem ta_holds {g n : Nat} {T : Tb} {W w : World} {U : Nat → Prop} (h : TA g n T W U w) (tx : Int) (s : ByteArray) (hl : (sx s).length ≤ 20) (htx : okN tx) :
    Calls Tryz.prog 12 #[.pointer (some ⟨g, 0, none⟩), .int .i64 tx, .string s] w fun e w' => e = .returned (.int .i64 (holdK (atT T (sx s)).h tx)) ∧ w' = w := by
  obtain ⟨mb, loc, hI, hB, hg, hU⟩ := h
  have c0 := (hI.blk.cell 0).trans hI.c0
  have hgl := hI.blk.lt
  have hlk := tab_look' hI.map hl
  rcases hT : T (sx s) with _ | k
  · rw [hT] at hlk
    have HF := Lib.hid (show holdK (atT T (sx s)).h tx = 0 by unfold atT; rw [hT]; rfl)
    clear hI hU hT
    go_enter Tryz.func12, Tryz.ntmps12
    go_wp2_with fail
    go_ret
    rw [HF.out]
    exact ⟨rfl, rfl⟩
  · rw [hT] at hlk
    have hK := hI.keys _ k hT
    have k0 := hK.blk.cell 0
    have hkl := hK.blk.lt
    simp only [List.getElem?_toArray, List.getElem?_cons_zero] at k0
    have hlk2 := hM_look hK.holds htx
    have HF := Lib.hid (show holdK (atT T (sx s)).h tx = holdK k.h tx by unfold atT; rw [hT]; rfl)
    clear hI hU hT hK
    go_enter Tryz.func12, Tryz.ntmps12
    go_wp2_with fail
    go_ret
    rw [HF.out]
    exact ⟨rfl, rfl⟩
theorem wpList_append1K {P : Program} (w : World) (H : Nat) (hH : w.heap.size = H) (o1 : Obj) {ops : Array Oper} {rest : List Oper} {o : Oper} {a : Act} {Q : Exit → Act → World → Prop} (hgd : o.guard = none) (s x : Operand) (t : TypeId)
    (ho : o.op = .call { callee := .builtin .append, args := #[s, x], argTypes := #[t, t] })
    (base : Nat) (e : TypeId) (z : Value) (size bytes : Nat) (ht : P.underlying t = some (.slice e)) (hi : (P.info? e).map (fun i => (i.zero, i.size, i.bytes)) = some (some z, size, bytes)) (hzs : z.cells.size = size) (hs0 : 0 < size)
    (v : Value) (n : Nat) (xs : List Value) (ys : Array Value) (hs : a.eval s = v) (hown : w.ownsRow base e size v n xs)
    (c : Nat) (hx : a.eval x = .slice (some ⟨H, 0, none⟩) 1 c) (e1 : TypeId) (hon : o1 = .cells ys e1) (hys : ys.size = size) (h1 : ∀ u ∈ ys.toList, u.oneCell' = true)
    (h63 : n + 1 ≤ maxLen) (hbytes : (n + 1) * bytes ≤ 140737488355328) (hbase : base ≤ w.heap.size)
    (h : ∀ v' w', w'.ownsRow base e size v' (n + 1) (xs ++ ys.toList) → Moved w w' v.ownBlock v'.ownBlock → wpList P ops Q rest (a.put o.dst v') w') :
    wpList P ops Q (o :: rest) a (w.alloc o1) := by
  subst hH
  exact wpList_append1 w o1 hgd s x t ho base e z size bytes ht hi hzs hs0 v n xs ys hs hown c hx e1 hon hys h1 h63 hbytes hbase h
def WtRel (w : World) (ws : List (Int × Int)) (v5 v22 : Value) (wr : World) : Prop :=
  ∃ i : Nat, v22 = .int .i64 i ∧ i ≤ ws.length ∧ wr.ownsRow w.heap.size 3 1 v5 i (((ws.take i).map (·.1)).map (Value.int .i64)) ∧ Below w.heap.size w wr
def WtPost (w : World) (ws : List (Int × Int)) (e : Ending) (w' : World) : Prop := ∃ V, e = .returned V ∧ w'.ownsRow w.heap.size 3 1 V ws.length ((ws.map (·.1)).map (Value.int .i64)) ∧ Below w.heap.size w w'
set_option maxRecDepth 100000 in
set_option maxHeartbeats 4000000 in
theorem ta_waits {g n : Nat} {T : Tb} {W w : World} {U : Nat → Prop} (h : TA g n T W U w) (s : ByteArray) (hl : (sx s).length ≤ 20) :
    Calls Tryz.prog 14 #[.pointer (some ⟨g, 0, none⟩), .string s] w (WtPost w (atT T (sx s)).ws) := by
  obtain ⟨mb, loc, hI, hB, hg, hU⟩ := h
  have c0 := (hI.blk.cell 0).trans hI.c0
  have hgl := hI.blk.lt
  have hlk := tab_look' hI.map hl
  rcases hT : T (sx s) with _ | k
  · rw [hT] at hlk
    have hfin : WtPost w (atT T (sx s)).ws (.returned (.slice none 0 0)) w := by
      rw [show (atT T (sx s)).ws = [] by unfold atT; rw [hT]; rfl]
      exact ⟨_, rfl, World.ownsRow_nil _ _ _ _, Below.refl _ _⟩
    have HF := Lib.hid hfin; clear hfin
    clear hI hU hT
    go_enter Tryz.func14, Tryz.ntmps14
    go_wp2_with fail
    go_ret
    exact HF.out
  · rw [hT] at hlk
    have hK := hI.keys _ k hT
    have k1 := hK.blk.cell 1
    have hkl := hK.blk.lt
    simp only [List.getElem?_toArray, List.getElem?_cons_zero, List.getElem?_cons_succ] at k1
    obtain ⟨A, c, hV, _, _⟩ := own_slice hK.row
    rw [hV] at k1
    have hrd := Rd.of_own (hV ▸ hK.row)
    rw [show (atT T (sx s)).ws = k.ws by unfold atT; rw [hT]; rfl]
    have hlen : k.ws.length ≤ 50 := hK.len
    have HRD := Lib.hid hrd; clear hrd
    clear hI hU hT hK hV
    go_enter Tryz.func14, Tryz.ntmps14
    go_wp2_with fail
    go_loopw [5, 22] (WtRel w k.ws) (fun _ v _ => k.ws.length - (intOf v).toNat)
    case atStart => exact ⟨0, rfl, Nat.zero_le _, World.ownsRow_nil _ _ _ _, Below.refl _ _⟩
    case round =>
      obtain ⟨i, rfl, hi, hown, hb⟩ := hrel
      by_cases hlt : (i : Int) < k.ws.length
      · obtain ⟨g', o', x, rfl, hga, hx, h0, h1⟩ := (HRD.out.below hb).cells2 rfl (j := i) (by omega)
        have hgw : g' < wr.heap.size := Nat.lt_of_lt_of_le hga hb.size
        have hbl : Below wr.heap.size wr (wr.alloc (.cells #[.int .i64 x.1, .int .i64 x.2] 62)) := (Below.refl _ _).alloc (Nat.le_refl _) _
        have hown1 := own_belowK hown hbl
        have hb1 := hb.trans (hbl.mono hb.size)
        have HX := Lib.hid hx; clear hx
        have HB1 := Lib.hid hb1; clear hb1 hbl
        have HO1 := Lib.hid hown1; clear hown1
        have HSZ := Lib.hid hb.size; clear hb hown
        go_wp2_with (at_builtin; refine stop ?_)
        refine back ?_
        refine wpList_append1K _ _ (by simp) _ rfl (.tmp 26) (.tmp 29) 32 rfl w.heap.size 3 (.int .i64 0) 1 8 Tryz.underlying32 int_infoL rfl (by decide) _ _ _ #[.int .i64 x.1] rfl HO1.out 1 rfl _ rfl rfl (by simp [Value.oneCell']) ?_ ?_ ?_ ?_
        · unfold maxLen; omega
        · omega
        · have := HSZ.out; simp; omega
        intro v' w9 hown9 hmv
        have hrel9 : WtRel w k.ws v' (.int .i64 ((i + 1 : Nat) : Int)) w9 := by
          refine ⟨i + 1, rfl, by omega, ?_, HB1.out.trans (hmv.below (fun b hb => (HO1.out.lt b hb).1) (by have := HSZ.out; simp; omega))⟩
          rw [List.take_add_one, HX.out]
          simpa using hown9
        have HR := Lib.hid hrel9; clear hrel9 hown9 hmv
        go_wp2_with fail
        go_roundw
        case rel => exact HR.out
        case measure => simp [intOf]; omega
      · obtain rfl : i = k.ws.length := by omega
        have hfin : WtPost w k.ws (.returned u5) wr := ⟨u5, rfl, by rw [List.take_length] at hown; exact hown, hb⟩
        have HF := Lib.hid hfin; clear hfin hown hb
        go_wp2_with fail
        go_ret
        exact HF.out
end Go.Proofs.YtopmehbncidpnaaGreatDoor
