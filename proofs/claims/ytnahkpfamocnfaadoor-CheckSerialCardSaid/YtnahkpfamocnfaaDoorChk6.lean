/- check's walker: walk, by induction on how many are not there yet. -/
import Derived.Test.YtnahkpfamocnfaaDoorChk5
namespace Go.Proofs.YtnahkpfamocnfaaDoor
open Go.RowKit
theorem int_info : (Tryd.prog.info? 3).map (fun i => (i.zero, i.size, i.bytes)) = some (some (.int .i64 0), 1, 8) := by kernel_rfl
/-- wpList_append1, the heap's size as the frame spells it. -/
theorem wpList_append1H {P : Program} (w : World) (H : Nat) (hH : w.heap.size = H) (o1 : Obj) {ops : Array Oper} {rest : List Oper} {o : Oper} {a : Act} {Q : Exit → Act → World → Prop} (hgd : o.guard = none) (s x : Operand) (t : TypeId)
    (ho : o.op = .call { callee := .builtin .append, args := #[s, x], argTypes := #[t, t] })
    (base : Nat) (e : TypeId) (z : Value) (size bytes : Nat) (ht : P.underlying t = some (.slice e)) (hi : (P.info? e).map (fun i => (i.zero, i.size, i.bytes)) = some (some z, size, bytes)) (hzs : z.cells.size = size) (hs0 : 0 < size)
    (v : Value) (n : Nat) (xs : List Value) (ys : Array Value) (hs : a.eval s = v) (hown : w.ownsRow base e size v n xs)
    (c : Nat) (hx : a.eval x = .slice (some ⟨H, 0, none⟩) 1 c) (e1 : TypeId) (hon : o1 = .cells ys e1) (hys : ys.size = size) (h1 : ∀ u ∈ ys.toList, u.oneCell' = true)
    (h63 : n + 1 ≤ maxLen) (hbytes : (n + 1) * bytes ≤ 140737488355328) (hbase : base ≤ w.heap.size)
    (h : ∀ v' w', w'.ownsRow base e size v' (n + 1) (xs ++ ys.toList) → Moved w w' v.ownBlock v'.ownBlock → wpList P ops Q rest (a.put o.dst v') w') :
    wpList P ops Q (o :: rest) a (w.alloc o1) := by
  subst hH
  exact wpList_append1 w o1 hgd s x t ho base e z size bytes ht hi hzs hs0 v n xs ys hs hown c hx e1 hon hys h1 h63 hbytes hbase h
def WalkPost (B p : Nat) (L : List TxR) (r : WkR) (order : List Nat) (nm : Nat) (m : Mp) (o : Option (List Nat)) (w : World) (e : Ending) (w' : World) : Prop :=
  e = .returned (.bool o.isSome) ∧ ∃ r' nm' m', Nx w r r' ∧ WkS w' B p L r' (o.getD order) nm' m' ∧ Fr (SW p r) w w' ∧ (o = none → nm' = nm ∧ m' = m)
def WalkRel (B p : Nat) (L : List TxR) (r : WkR) (f : Nat) (order : List Nat) (nm : Nat) (m : Mp) (w : World) (v : Value) (wr : World) : Prop :=
  ∃ (j : Nat) (r' : WkR), v = .int .i64 j ∧ j ≤ r.n ∧ Nx w r r' ∧ WkS wr B p L r' order nm m ∧ Fr (SW p r) w wr ∧ (List.range j).findSome? (tailF (tsOf L) f order m) = none
theorem WalkRel.step {B p : Nat} {L : List TxR} {r r' : WkR} {f : Nat} {order : List Nat} {nm : Nat} {m : Mp} {w wr : World} {j : Nat} (hj : j < r.n) (hn : Nx w r r') (hW : WkS wr B p L r' order nm m) (hF : Fr (SW p r) w wr)
    (h : (List.range j).findSome? (tailF (tsOf L) f order m) = none) (h1 : tailF (tsOf L) f order m j = none) : WalkRel B p L r f order nm m w (.int .i64 ((j : Int) + 1)) wr :=
  ⟨j + 1, r', rfl, hj, hn, hW, hF, by rw [find_step _ _ h]; exact h1⟩
theorem fr_of_below {S : Nat → Prop} {w w' : World} (h : Below w.heap.size w w') : Fr S w w' := Below.fr h S
set_option maxRecDepth 100000 in
set_option maxHeartbeats 4000000 in
theorem walk_any (B p : Nat) (L : List TxR) (hLs : ∀ x ∈ L, x.n ≤ 1000) : ∀ (f : Nat) (r : WkR) (order : List Nat) (nm : Nat) (m : Mp) (w : World), WkS w B p L r order nm m → order.Nodup → (∀ x ∈ order, x < r.n) → order.length + f = r.n → r.n ≤ 1000 → nm + 1000 * f ≤ 900000 →
    Calls Tryd.prog 41 #[.pointer (some ⟨p, 0, none⟩)] w (WalkPost B p L r order nm m (walkP (tsOf L) f order m) w) := by
  intro f
  induction f using Nat.strongRecOn with
  | ind f ih =>
  intro r order nm m w h hd hl hf hn hnm
  have hlen : (tsOf L).length = r.n := by rw [tsOf_len]; exact h.reads.1
  have hwe : walkP (tsOf L) f order m = if doneP (tsOf L) order then some order else (List.range r.n).findSome? (tailF (tsOf L) f order m) := by
    rw [← hlen]; exact walkP_eq hd (by rw [hlen]; exact hl) (by rw [hlen]; exact hf)
  have HWE := Lib.hid hwe; clear hwe
  have HLEN := Lib.hid hlen; clear hlen
  have IH := Lib.hid ih; clear ih
  have H := Lib.hid h; clear h
  have HD := Lib.hid hd; clear hd
  have HL := Lib.hid hl; clear hl
  have HF0 := Lib.hid hf; clear hf
  have HLS := Lib.hid hLs; clear hLs
  go_enter Tryd.func41, Tryd.ntmps41
  go_wp2_with fail
  refine (done_any B p nm L r order m w H.out hn).mono ?_
  rintro e w1 ⟨rfl, hb1⟩
  by_cases hdone : doneP (tsOf L) order
  · rw [decide_eq_true hdone]
    have hpost : WalkPost B p L r order nm m (walkP (tsOf L) f order m) w (.returned (.bool true)) w1 := by
      rw [HWE.out, if_pos hdone]
      exact ⟨rfl, r, nm, m, Nx.refl _ _, H.out.below hb1, fr_of_below hb1, fun h => by cases h⟩
    have HP := Lib.hid hpost; clear hpost hdone hb1
    go_wp2_with fail
    go_ret
    exact HP.out
  · rw [decide_eq_false hdone]
    have hwe2 : walkP (tsOf L) f order m = (List.range r.n).findSome? (tailF (tsOf L) f order m) := by rw [HWE.out, if_neg hdone]
    have HWE2 := Lib.hid hwe2; clear hwe2 HWE hdone
    have hW1 := H.out.below hb1
    have hp0 := hW1.c0
    have HW1 := Lib.hid hW1; clear hW1
    have HB1 := Lib.hid hb1; clear hb1
    go_wp2_with fail
    clear hp0
    go_loopw [12] (WalkRel B p L r f order nm m w) (fun v _ => r.n - (intOf v).toNat)
    case atStart => exact ⟨0, r, rfl, Nat.zero_le _, Nx.refl _ _, HW1.out, fr_of_below HB1.out, rfl⟩
    case round =>
      clear HW1 HB1
      obtain ⟨j, r', rfl, hj, hnx, hW, hF, hfind⟩ := hrel
      have HN := Lib.hid hnx; clear hnx
      have HF := Lib.hid hF; clear hF
      have HFI := Lib.hid hfind; clear hfind
      have hrn : r'.n = r.n := HN.out.n
      by_cases hlt : (j : Int) < r.n
      · have hjn : j < r'.n := by omega
        have hu := hW.cu hjn
        have hp1 := hW.c1
        have hp0 := hW.c0
        have hpl := hW.blk.lt
        rw [hrn] at hp1
        have HRN := Lib.hid hrn; clear hrn
        by_cases hin : j ∈ order
        · rw [decide_eq_true hin] at hu
          have ht : tailF (tsOf L) f order m j = none := by unfold tailF; rw [if_pos (.inl hin)]
          have HT := Lib.hid ht; clear ht hin
          have HW := Lib.hid hW; clear hW
          go_wp2_with fail
          go_roundw
          case rel => exact WalkRel.step (by omega) HN.out HW.out HF.out HFI.out HT.out
          case measure => simp [intOf]; omega
        · rw [decide_eq_false hin] at hu
          have HIN := Lib.hid hin; clear hin
          have HW := Lib.hid hW; clear hW
          go_wp2_with fail
          refine (may_any B p nm j L r' order m wr HW.out (by have := HRN.out; omega) hjn).mono ?_
          rintro e w2 ⟨rfl, hb2⟩
          have hW2 := HW.out.below hb2
          have hF2 : Fr (SW p r) w w2 := HF.out.trans (fr_of_below hb2)
          have HF2 := Lib.hid hF2; clear hF2
          clear hu hp1 hp0 hpl
          by_cases hm : mayP (tsOf L) order j
          · rw [decide_eq_true hm]
            have HM := Lib.hid hm; clear hm
            have HW2 := Lib.hid hW2; clear hW2
            go_wp2_with fail
            refine (copy_any B p nm L r' order m w2 HW2.out (by omega)).mono ?_
            rintro e w3 ⟨b', rfl, hbl, hmap, hb3⟩
            have hW3 := HW2.out.below hb3
            have hF3 : Fr (SW p r) w w3 := HF2.out.trans (fr_of_below hb3)
            have HF3 := Lib.hid hF3; clear hF3
            obtain ⟨g, off, x, hA, hg, hx, k0, k1, k2, hro, hfine⟩ := hW3.reads.at_ (k := j) hjn
            have hp0 := hW3.c0
            rw [hA] at hp0
            have hgl : g < w3.heap.size := by have := hW3.size; omega
            have hsz2 : w2.heap.size ≤ w3.heap.size := hb3.size
            have hops := opsA_of hx
            have hxn := HLS.out x (List.mem_of_getElem? hx)
            have hjr : (j : Int) < r'.n := by have := HRN.out; omega
            have HOPS := Lib.hid hops; clear hops hx hA
            have HW3 := Lib.hid hW3; clear hW3
            have HMAP := Lib.hid hmap; clear hmap
            have HRO := Lib.hid hro; clear hro
            have HFINE := Lib.hid hfine; clear hfine
            go_wp2_with fail
            refine (plays_any B p nm L r' order m x.A x.n x.c x.t.ops w3 HW3.out hxn (by omega) HRO.out HFINE.out).mono ?_
            rintro e w4 ⟨rfl, ⟨m1, hm1, hW4⟩, hf4⟩
            have hF4 : Fr (SW p r) w w4 := SW.trans HF3.out HN.out (hf4.mono (fun i _ e => .inr (.inr (.inr e))))
            have HF4 := Lib.hid hF4; clear hF4
            have hbb : b' ≠ r'.b := by have := HW2.out.map.lt; omega
            have hmap4 : MapV w4 b' nm m := HMAP.out.fr hf4 hbb
            have hsz4 := hf4.size
            have HMAP4 := Lib.hid hmap4; clear hmap4
            have hBb : B ≤ b' := by have := HW2.out.size; omega
            clear hp0 k0 k1 k2
            have hp3 := hW4.blk.frozen 3
            have hp3c := hW4.c3
            have hpl := hW4.blk.lt
            generalize hpp : playsP m x.t.ops = q at hm1
            have HPP := Lib.hid hpp; clear hpp
            have htf : tailF (tsOf L) f order m j = q.bind fun m' => nextP (tsOf L) order j m' f := by
              unfold tailF; rw [if_neg (by simp [HIN.out, HM.out]), HOPS.out, HPP.out]
            have HTF := Lib.hid htf; clear htf
            rcases q with _ | mq
            · have hW5 := hW4.back HMAP4.out hBb
              have hF5 : Fr (SW p r) w (w4.setCell ⟨p, 3, none⟩ (.map (some b'))) := HF4.out.trans ((Fr.set1 p w4 3 _).mono (fun i _ e => .inl e))
              have hN5 : Nx w r { r' with b := b' } := ⟨HN.out.A, HN.out.n, HN.out.c, HN.out.gu, HN.out.vo, .inr (by have := hF5.size; have := HF2.out.size; show w.heap.size ≤ b'; omega)⟩
              have hrel := WalkRel.step (by omega) hN5 hW5 hF5 HFI.out HTF.out
              have HREL := Lib.hid hrel; clear hrel hW5 hF5 hN5 hW4 hf4
              go_wp2_with fail
              go_roundw
              case rel => exact HREL.out
              case measure => simp [intOf]; omega
            · obtain rfl : m1 = mq := hm1 mq rfl
              obtain ⟨f', hff⟩ : ∃ f', f = f' + 1 := ⟨f - 1, by have := order_free HD.out HL.out (by omega : j < r.n) HIN.out; have := HF0.out; omega⟩
              have hu := hW4.cu hjn
              have huf := hW4.used.frozen j
              have hp1 := hW4.c1
              have hp2 := hW4.c2
              have hul := hW4.used.lt
              have hpf2 := hW4.blk.frozen 2
              have hngp := hW4.ne_p_gu
              have hnpg : p ≠ r'.gu := fun e => hngp e.symm
              clear hp3 hp3c
              rw [decide_eq_false HIN.out] at hu
              go_wp2_with (at_builtin; refine stop ?_)
              have hown := (Fr.set1 r'.gu w4 j (.bool true)).own hW4.row (fun g hg e => hW4.ne_vo_gu (by rw [hg, e]))
              have hbase : B ≤ (w4.setCell ⟨r'.gu, j, none⟩ (.bool true)).heap.size := by have := hW4.size; simp [World.setCell]; omega
              have hlo : order.length ≤ 1000 := by have := HF0.out; omega
              refine back ?_
              refine wpList_append1H (w4.setCell ⟨r'.gu, j, none⟩ (.bool true)) w4.heap.size (by simp [World.setCell]) _ rfl (.tmp 50) (.tmp 52) 47 rfl B 3 (.int .i64 0) 1 8 Tryd.underlying47 int_info rfl (by decide) _ _ _ #[.int .i64 j] rfl hown 1 rfl _ rfl rfl (by simp [Value.oneCell']) ?_ ?_ hbase ?_
              · unfold maxLen; omega
              · omega
              intro v' w5 hown' hmv
              obtain ⟨hW5, hF5, hN5⟩ := hW4.push hmv hown'
              have hb5 := hmv.1.blk ((Fr.set1 r'.gu w4 j (.bool true)).blk hW4.blk hnpg) (fun e => hW4.ne_vo_p e.symm)
              have hq0 := hb5.cell 2
              have hq1 := hb5.frozen 2
              have hfr5 : Fr (SW p r) w (w5.setCell ⟨p, 2, none⟩ v') := SW.trans HF4.out HN.out hF5
              have hnx5 : Nx w r { r' with vo := v' } := HN.out.trans hN5 (by have := HF4.out.size; omega)
              have hmap5 : MapV (w5.setCell ⟨p, 2, none⟩ v') b' nm m := HMAP4.out.fr hF5 (by
                have h2 := HW2.out.lt
                rintro (e | e | e | e)
                · have := (h2 b' (.inl e)).2; omega
                · have := (h2 b' (.inr (.inl e))).2; omega
                · have := (h2 b' (.inr (.inr (.inl e)))).2; omega
                · exact hbb e)
              have hd5 : (order ++ [j]).Nodup := by
                rw [List.nodup_append]
                exact ⟨HD.out, by simp, fun a ha b hb => by rw [List.mem_singleton.1 hb]; exact fun e => HIN.out (e ▸ ha)⟩
              have hl5 : ∀ x ∈ order ++ [j], x < ({ r' with vo := v' } : WkR).n := fun x hx => by
                show x < r'.n
                rcases List.mem_append.1 hx with h | h
                · have := HL.out x h; have := HRN.out; omega
                · rw [List.mem_singleton.1 h]; exact hjn
              have hw5 : w4.heap.size ≤ w5.heap.size := by have := hmv.size; simpa [World.setCell] using this
              have HIH := Lib.hid (IH.out f' (by omega) { r' with vo := v' } (order ++ [j]) (nm + x.n) m1 (w5.setCell ⟨p, 2, none⟩ v') hW5 hd5 hl5 (by have := HF0.out; have := HRN.out; show _ = r'.n; simp; omega) (by have := HRN.out; show r'.n ≤ 1000; omega) (by omega))
              obtain ⟨A5, c5, rfl, _, _⟩ := own_slice hown'
              have HF5 := Lib.hid hfr5; clear hfr5
              have HN5 := Lib.hid hnx5; clear hnx5
              have HMAP5 := Lib.hid hmap5; clear hmap5
              have HF5b := Lib.hid hF5; clear hF5
              have HFF := Lib.hid hff; clear hff
              clear hd5 hl5 hown hown' hb5 hW5 hmv hp2 hpf2 huf hu hp1 HW3 HMAP HRO HFINE hf4
              go_wp2_with fail
              refine HIH.out.mono ?_
              rintro e w6 ⟨rfl, r6, nm6, m6, hn6, hW6, hF6, ho6⟩
              have hfr6 : Fr (SW p r) w w6 := SW.trans HF5.out HN5.out hF6
              have hnx6 : Nx w r r6 := HN5.out.trans hn6 HF5.out.size
              have htf2 : tailF (tsOf L) f order m j = walkP (tsOf L) f' (order ++ [j]) m1 := by rw [HTF.out, HFF.out]; rfl
              have hbl4 := HMAP4.out.lt
              have hmap6 : MapV w6 b' nm m := HMAP5.out.fr hF6 (by
                have h2 := HW2.out.lt
                rintro (e | e | e | e)
                · have := (h2 b' (.inl e)).2; omega
                · have := (h2 b' (.inr (.inl e))).2; omega
                · rcases hN5.vo with e2 | ⟨g', e2, hg'⟩
                  · rw [e2] at e; have := (h2 b' (.inr (.inr (.inl e)))).2; omega
                  · rw [e2] at e; injection e with e; omega
                · exact hbb e)
              generalize walkP (tsOf L) f' (order ++ [j]) m1 = q6 at htf2 hW6 ho6
              have HTF2 := Lib.hid htf2; clear htf2 HTF
              rcases q6 with _ | o6
              · obtain ⟨rfl, rfl⟩ := ho6 rfl
                have hW6 : WkS w6 B p L r6 (order ++ [j]) (nm + x.n) m6 := hW6
                obtain ⟨A6, c6, hv6, hle6, _⟩ := own_slice hW6.row
                have hl1 : (order ++ [j]).length = order.length + 1 := by simp
                rw [hl1] at hv6 hle6
                clear hl1
                have hp2 := hW6.c2
                rw [hv6] at hp2
                have hjn6 : j < r6.n := by have := hnx6.n; omega
                have hjn6' : (j : Int) < r6.n := by omega
                have hu := hW6.cu hjn6
                have huf := hW6.used.frozen j
                have hul6 := hW6.used.lt
                have hpl6 := hW6.blk.lt
                have hp1 := hW6.c1
                have hpf2 := hW6.blk.frozen 2
                have hpf3 := hW6.blk.frozen 3
                have hp3 := hW6.c3
                have hngp6 := hW6.ne_p_gu
                have hnpg6 : p ≠ r6.gu := fun e => hngp6 e.symm
                have hpop := hW6.pop HIN.out hv6 hmap6 hBb _ rfl
                have hfr7 := SW.trans hfr6 hnx6 hpop.2
                have hnx7 : Nx w r { r6 with vo := .slice A6 order.length c6, b := b' } := ⟨hnx6.A, hnx6.n, hnx6.c, hnx6.gu, by
                  have h2 := hnx6.vo
                  rw [hv6] at h2
                  cases A6 <;> exact h2, .inr (by have := HF2.out.size; show w.heap.size ≤ b'; omega)⟩
                have hrel := WalkRel.step (by omega) hnx7 hpop.1 hfr7 HFI.out HTF2.out
                have HREL := Lib.hid hrel
                have hle7 : (order.length : Int) ≤ c6 := by omega
                clear hrel hpop hfr7 hnx7 hW6 hv6 hfr6 hnx6 hF6 hn6 ho6 hm1 hq0 hq1
                go_wp2_with fail
                refine wp_region_still_tail 14 (by kernel_rfl) (by kernel_rfl) ?_
                change wpStill _ _ (World.drew _) _ _ _
                simp only [List.take_succ_cons, List.take_zero, List.drop_succ_cons, List.drop_zero]
                have hwr : IntKind.i64.wrap (order.length : Int) = (order.length : Int) := IntWalk.i64_in _ ⟨by omega, by omega⟩
                repeat still_step
                clear hwr
                refine wpStill_nil ?_
                change wpList _ _ _ _ _ (World.drew _)
                go_wp2_with fail
                go_roundw
                case rel => exact HREL.out
                case measure => simp [intOf]; omega
              · have hpost : WalkPost B p L r order nm m (walkP (tsOf L) f order m) w (.returned (.bool true)) w6 := by
                  rw [HWE2.out, find_more (by omega) HFI.out HTF2.out]
                  exact ⟨rfl, r6, nm6, m6, hnx6, hW6, hfr6, fun h => by cases h⟩
                have HP := Lib.hid hpost; clear hpost hW6 hfr6 hnx6 hF6 hn6 ho6 hm1
                go_wp2_with fail
                go_ret
                exact HP.out
          · rw [decide_eq_false hm]
            have ht : tailF (tsOf L) f order m j = none := by unfold tailF; rw [if_pos (.inr hm)]
            have HT := Lib.hid ht; clear ht hm
            have HW2 := Lib.hid hW2; clear hW2
            go_wp2_with fail
            go_roundw
            case rel => exact WalkRel.step (by omega) HN.out HW2.out HF2.out HFI.out HT.out
            case measure => simp [intOf]; omega
      · have hjr : j = r.n := by omega
        subst hjr
        have hpost : WalkPost B p L r order nm m (walkP (tsOf L) f order m) w (.returned (.bool false)) wr := by
          rw [HWE2.out, HFI.out]
          exact ⟨rfl, r', nm, m, HN.out, hW, HF.out, fun _ => ⟨rfl, rfl⟩⟩
        have HP := Lib.hid hpost; clear hpost
        go_wp2_with fail
        go_ret
        exact HP.out
end Go.Proofs.YtnahkpfamocnfaaDoor
