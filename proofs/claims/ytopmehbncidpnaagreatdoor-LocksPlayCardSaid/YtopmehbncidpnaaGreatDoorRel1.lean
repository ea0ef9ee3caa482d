/- locks: what Release does to a table in memory, told of its parts. -/
import Derived.Test.YtopmehbncidpnaaGreatDoorLkB
import Derived.Test.YtopmehbncidpnaaGreatDoorLk9
import Derived.Test.YtopmehbncidpnaaGreatDoorSKeys
namespace Go.Proofs.YtopmehbncidpnaaGreatDoor
open Go.RowKit
theorem hM_del (h : Int → Option Int) (tx : Int) : putM (hM h) tx none = hM (setH h tx none) := by
  funext o
  unfold putM hM setH
  split <;> rfl
theorem key_del {w w' : World} {base n : Nat} {L : KLoc} {k : Kx} {tx : Int} (h : KeyI w base n L k) (hm : MapG kI w' L.hb n (putM (hM k.h) tx none)) (hf : Fr (fun b => b = L.hb) w w') : KeyI w' base n L ⟨setH k.h tx none, k.ws⟩ :=
  ⟨hf.blk h.blk (fun e => h.holds.notBlk h.blk e.symm), by rw [hM_del] at hm; exact hm, hf.own h.row (fun b hb e => by subst e; exact h.holds.notOwn h.row hb), h.log, h.loh, fun o m ho => by
    have ho' : setH k.h tx none o = some m := ho
    unfold setH at ho'
    split at ho'
    · cases ho'
    · exact h.okh o m ho', h.okw, h.len⟩
theorem gain_okN {h : Int → Option Int} {tx mode : Int} (hh : ∀ o m, h o = some m → okN o ∧ okN m) (htx : okN tx) (hm : okN mode) : ∀ o m, gainH h tx mode o = some m → okN o ∧ okN m := fun o m e => by
  unfold gainH setH at e
  split at e
  · rename_i e1
    injection e with e
    subst e1
    refine ⟨htx, ?_⟩
    rw [← e]
    unfold holdK
    rcases Int.le_total ((h o).getD 0) mode with h1 | h1
    · rw [Int.max_eq_right h1]; exact hm
    · rw [Int.max_eq_left h1]
      cases e2 : h o with
      | none => rfl
      | some m2 => exact (hh _ _ e2).2
  · exact hh o m e
theorem key_gain {w w' : World} {base n : Nat} {L : KLoc} {k : Kx} {tx mode : Int} (h : KeyI w base n L k) (hm : MapG kI w' L.hb (n + 1) (putM (hM k.h) tx (some (.int .i64 (if mode > holdK k.h tx then mode else holdK k.h tx))))) (hf : Fr (fun b => b = L.hb) w w') (htx : okN tx) (hmode : okN mode) :
    KeyI w' base (n + 1) L ⟨gainH k.h tx mode, k.ws⟩ :=
  ⟨hf.blk h.blk (fun e => h.holds.notBlk h.blk e.symm), by rw [hM_gain] at hm; exact hm, hf.own h.row (fun b hb e => by subst e; exact h.holds.notOwn h.row hb), h.log, h.loh, fun o m ho => gain_okN h.okh htx hmode o m ho, h.okw, h.len⟩
/-- Others wait now. -/
theorem key_row {W w5 : World} {base n : Nat} {L : KLoc} {k : Kx} {V' : Value} {ws' : List (Int × Int)} (h : KeyI W base n L k) (hb5 : Blk w5 L.g 65 #[.map (some L.hb), L.V]) (hm5 : MapG kI w5 L.hb n (hM k.h))
    (hrow : w5.ownsRow base 62 2 V' ws'.length (ws'.flatMap wtCells)) (hok : ∀ x ∈ ws', okN x.1 ∧ okN x.2) (hlen : ws'.length ≤ 50) : KeyI (w5.setCell ⟨L.g, 1, none⟩ V') base n ⟨L.g, L.hb, V'⟩ ⟨k.h, ws'⟩ := by
  have hf := Fr.set1 L.g w5 1 V'
  have hne := own_blk_ne hrow hb5 (by decide)
  exact ⟨hb5.set_ 1 V', hm5.fr hf (fun e => hm5.notBlk hb5 e), hf.own hrow (fun g hg e => hne (by rw [hg, e])), h.log, h.loh, h.okh, hok, hlen⟩
theorem wdelete_nil (b : Nat) (tx : Int) (w : World) (hb : w.cell? ⟨b, 0, none⟩ = some (.int .i64 tx)) : Calls Tryz.prog 31 #[.slice none 0 0, .func (.func 32) #[] #[.pointer (some ⟨b, 0, none⟩)]] w
    fun e w' => e = .returned (.slice none 0 0) ∧ Below w.heap.size w w' := by
  have hix := windex_any 32 #[.pointer (some ⟨b, 0, none⟩)] (wIs tx) none 0 0 [] w (enters_w Tryz.func32 (by kernel_rfl) rfl) (release1_any b tx w hb) (Rd.none_ _ _ _ _) rfl (by omega)
  rw [show wIdx (wIs tx) [] = -1 from rfl] at hix
  have HIX := Lib.hid hix; clear hix
  go_enter Tryz.func31, Tryz.ntmps31
  go_wp2_with fail
  refine HIX.out.mono ?_
  rintro e w1 ⟨rfl, hb1⟩
  have HB := Lib.hid hb1; clear hb1
  go_wp2_with fail
  go_ret
  exact ⟨rfl, HB.out⟩
theorem offW_le (ws : List (Int × Int)) (tx : Int) : (offW ws tx).length ≤ ws.length := List.length_filter_le _ _
theorem wdel_all (base n b : Nat) (tx : Int) (V : Value) (L : List (Int × Int)) (w : World) (hrow : w.ownsRow base 62 2 V n (L.flatMap wtCells)) (hl : L.length = n) (hn : n ≤ 100000) (hb : w.cell? ⟨b, 0, none⟩ = some (.int .i64 tx)) (hne : V.ownBlock ≠ some b) :
    Calls Tryz.prog 31 #[V, .func (.func 32) #[] #[.pointer (some ⟨b, 0, none⟩)]] w fun e w' =>
      ∃ A c, e = .returned (.slice A (offW L tx).length c) ∧ w'.ownsRow base 62 2 (.slice A (offW L tx).length c) (offW L tx).length ((offW L tx).flatMap wtCells) ∧ Fr (fun k => V.ownBlock = some k) w w' ∧ (Value.slice A (offW L tx).length c).ownBlock = V.ownBlock := by
  rcases hrow.2 with ⟨rfl, h0⟩ | ⟨g, cap, cur, rfl, _⟩
  · have e : L = [] := List.eq_nil_of_length_eq_zero (by omega)
    subst e
    refine (wdelete_nil b tx w hb).mono ?_
    rintro e w' ⟨rfl, hb1⟩
    exact ⟨none, 0, rfl, World.ownsRow_nil _ _ _ _, ⟨hb1.os, hb1.tape, hb1.output, hb1.size, fun k hk _ => hb1.block k hk⟩, rfl⟩
  · refine (wdelete_any base g n cap b tx L w hrow hl hn hb (fun e => hne (by rw [e]; rfl))).mono ?_
    rintro e w' ⟨rfl, hr, hf, _⟩
    exact ⟨some ⟨g, 0, none⟩, cap, rfl, hr, hf.mono (fun i _ (h : i = g) => by rw [h]; rfl), rfl⟩
/-- One key's parts turned, and blocks that are no table's: the table goes on. -/
theorem TabI.turn2 {w w' : World} {base n n' g off : Nat} {ty : TypeId} {cs : Array Value} {mb : Option Nat} {loc : Sx → KLoc} {T : Tb} (h : TabI w base n g off ty cs mb loc T) {x : Sx} {k k' : Kx} {L' : KLoc} (hx : T x = some k) (hn : n ≤ n')
    {U : Nat → Prop} (hf : Fr (fun b => KFoot (loc x) b ∨ U b) w w') (hU : ∀ b, U b → b ≠ g ∧ ¬ TFoot mb loc T b) (hk : KeyI w' base n' L' k') (hg : L'.g = (loc x).g) (hh : L'.hb = (loc x).hb) (hV : ∀ b, L'.V.ownBlock = some b → (loc x).V.ownBlock = some b ∨ w.heap.size ≤ b) :
    TabI w' base n' g off ty cs mb (locP loc x L') (putT T x (some k')) := by
  have hfoot : ∀ b, KFoot L' b → KFoot (loc x) b ∨ w.heap.size ≤ b := fun b hb => by
    rcases hb with hb | hb | hb
    · exact .inl (.inl (by rw [hb, hg]))
    · exact .inl (.inr (.inl (by rw [hb, hh])))
    · rcases hV b hb with h | h
      · exact .inl (.inr (.inr h))
      · exact .inr h
  have hput : ∀ y, putT T x (some k') y ≠ none → y = x ∨ (y ≠ x ∧ T y ≠ none) := fun y hy => by
    unfold putT at hy
    split at hy
    · rename_i e; exact .inl e
    · rename_i e; exact .inr ⟨e, hy⟩
  have hN : ∀ y, y ≠ x → locP loc x L' y = loc y := fun y e => by unfold locP; rw [if_neg e]
  have hS : locP loc x L' x = L' := by unfold locP; rw [if_pos rfl]
  have hxn : T x ≠ none := by rw [hx]; simp
  have hap : ∀ y, y ≠ x → T y ≠ none → ∀ b, KFoot (loc y) b → ¬ KFoot (loc x) b := fun y e hy b hb => h.apart y x e hy hxn b hb
  refine ⟨hf.blk h.blk (fun hb => hb.elim (fun hb => h.key_ne hx hb rfl) (fun hb => (hU _ hb).1 rfl)), h.c0, ?_, fun y ky hy => ?_, fun y z hyz hy hz b hb => ?_, fun y hy => ?_, h.ne, h.mlo, fun y hy => ?_, Nat.le_trans h.bg hf.size⟩
  · have hm := h.map
    rcases hmb : mb with _ | c
    · rw [hmb] at hm
      exact absurd (hm x) hxn
    · rw [hmb] at hm
      have e : mapOf (locP loc x L') (putT T x (some k')) = mapOf loc T := by
        funext t
        unfold mapOf
        by_cases e : sx t = x
        · rw [e, hS, hg]; unfold putT; rw [if_pos rfl, hx]; rfl
        · rw [hN _ e]; unfold putT; rw [if_neg e]
      show MapG kS w' c n' _
      rw [e]
      exact (MapG.fr (C := kS) hm hf (fun hb => hb.elim (fun hb => h.key_map hx hmb hb rfl) (fun hb => (hU _ hb).2 (.inl hmb.symm)))).mono hn
  · unfold putT at hy
    split at hy
    · rename_i e; subst e; injection hy with hy; rw [← hy, hS]; exact hk
    · rename_i e; rw [hN y e]; exact ((h.keys y ky hy).fr hf (fun b hb h2 => h2.elim (fun h2 => hap y e (by rw [hy]; simp) b hb h2) (fun h2 => (hU _ h2).2 (.inr ⟨y, by rw [hy]; simp, hb⟩)))).mono hn
  · rcases hput y hy with rfl | ⟨e1, h1⟩
    · rcases hput z hz with rfl | ⟨e2, h2⟩
      · exact absurd rfl hyz
      · rw [hN z e2]; rw [hS] at hb
        intro h3
        rcases hfoot b hb with h4 | h4
        · exact hap z e2 h2 b h3 h4
        · obtain ⟨kz, hkz⟩ := Option.ne_none_iff_exists'.1 h2
          have := ((h.keys z kz hkz).foot_lt h3).2; omega
    · rw [hN y e1] at hb
      rcases hput z hz with rfl | ⟨e2, h2⟩
      · rw [hS]
        intro h3
        rcases hfoot b h3 with h4 | h4
        · exact hap y e1 h1 b hb h4
        · obtain ⟨ky, hky⟩ := Option.ne_none_iff_exists'.1 h1
          have := ((h.keys y ky hky).foot_lt hb).2; omega
      · rw [hN z e2]; exact h.apart y z hyz h1 h2 b hb
  · rcases hput y hy with rfl | ⟨_, h1⟩
    · exact h.small y hxn
    · exact h.small y h1
  · rcases hput y hy with rfl | ⟨e1, h1⟩
    · rw [hS, hh]; exact h.mdis y hxn
    · rw [hN y e1]; exact h.mdis y h1
/-- A key that is gone. -/
theorem tab_gone {w w' : World} {base n g off b : Nat} {ty : TypeId} {cs : Array Value} {loc : Sx → KLoc} {T : Tb} {s : ByteArray} (h : TabI w base n g off ty cs (some b) loc T) (hm : MapG kS w' b n (putM (mapOf loc T) s none)) (hf : Fr (fun k => k = b) w w') :
    TabI w' base n g off ty cs (some b) loc (putT T (sx s) none) := by
  have hput : ∀ y, putT T (sx s) none y ≠ none → y ≠ sx s ∧ T y ≠ none := fun y hy => by
    unfold putT at hy
    split at hy
    · exact absurd rfl hy
    · rename_i e; exact ⟨e, hy⟩
  have hgb : g ≠ b := fun e => (MapG.notBlk (C := kS) h.map h.blk) e.symm
  refine ⟨hf.blk h.blk hgb, h.c0, ?_, fun y ky hy => ?_, fun y z hyz hy hz => h.apart y z hyz (hput y hy).2 (hput z hz).2, fun y hy => h.small y (hput y hy).2, h.ne, h.mlo, fun y hy => h.mdis y (hput y hy).2, Nat.le_trans h.bg hf.size⟩
  · show MapG kS w' b n _
    have e : mapOf loc (putT T (sx s) none) = putM (mapOf loc T) s none := by
      funext t
      unfold putM mapOf putT
      by_cases e : t = s
      · subst e; simp
      · have : ¬ sx t = sx s := fun h => e (sx_inj h)
        simp [e, this]
    rw [e]; exact hm
  · have h1 := hput y (by rw [hy]; simp)
    have hy' : T y = some ky := by unfold putT at hy; rw [if_neg h1.1] at hy; exact hy
    exact (h.keys y ky hy').fr hf (fun b' hb' e => by subst e; exact h.key_map hy' rfl hb' rfl)
def akCells (a : Ak) : List Value := [.int .i64 a.tx, .string ⟨a.key.toArray⟩, .int .i64 a.mode]
theorem g_info : (Tryz.prog.info? 47).map (fun i => (i.zero, i.size, i.bytes)) = some (some (.agg #[.int .i64 0, .string ⟨#[]⟩, .int .i64 0]), 3, 32) := by kernel_rfl
/-- A row of another type is no part of a table. -/
theorem TabI.notRow {w : World} {base n g off : Nat} {ty : TypeId} {cs : Array Value} {mb : Option Nat} {loc : Sx → KLoc} {T : Tb} (h : TabI w base n g off ty cs mb loc T) {base' size m : Nat} {e : TypeId} {v : Value} {xs : List Value} (hr : w.ownsRow base' e size v m xs)
    (h1 : e ≠ ty) (h2 : e ≠ 65) (h3 : e ≠ 62) {b : Nat} (hb : v.ownBlock = some b) : b ≠ g ∧ ¬ TFoot mb loc T b := by
  refine ⟨fun e' => own_blk_ne hr h.blk h1 (by rw [hb, e']), ?_⟩
  rintro (hm | ⟨x, hx, hk⟩)
  · have := h.map
    rw [← hm] at this
    exact MapG.notOwn (C := kS) this hr hb
  · obtain ⟨k, hk'⟩ := Option.ne_none_iff_exists'.1 hx
    have hK := h.keys x k hk'
    rcases hk with rfl | rfl | hk
    · exact own_blk_ne hr hK.blk h2 hb
    · exact hK.holds.notOwn hr hb
    · rcases hr.2 with ⟨rfl, _⟩ | ⟨g1, cap, cur, rfl, _, hh, _⟩
      · cases hb
      · have hb' : g1 = b := by injection hb
        subst hb'
        exact own_blk_ne hK.row (show Blk w g1 e cur from hh) (fun e' => h3 e'.symm) hk
end Go.Proofs.YtopmehbncidpnaaGreatDoor
