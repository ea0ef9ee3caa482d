/- locks: (*Table).Lock: no such mode; the name is too long; whatever is asked. -/
import Derived.Test.YtopmehbncidpnaaGreatDoorLkC
namespace Go.Proofs.YtopmehbncidpnaaGreatDoor
open Go.RowKit
theorem lock_none {base n g off : Nat} {ty : TypeId} {cs : Array Value} {mb : Option Nat} {loc : Sx → KLoc} {T : Tb} {w w' : World} (hI : TabI w base n g off ty cs mb loc T) (hb : Below w.heap.size w w') (x : Ak) {er : Int} (hP : LockP T x false [] er T) :
    LockPost base n g off ty cs mb loc T x w (.returned (.tuple #[.bool false, .slice none 0 0, erV er])) w' :=
  ⟨false, [], er, T, none, 0, mb, loc, rfl, hP, by rw [setIf_same' hI.c0]; exact (hI.tall hb).mono (by omega), fun b h => .inl h, ⟨hb.os, hb.tape, hb.output, hb.size, fun k hk _ => hb.block k hk⟩, Rd.none_ _ _ _ _, fun b o h => (nomatch h)⟩
set_option maxRecDepth 100000 in
set_option maxHeartbeats 8000000 in
theorem lock_arg (base n g off : Nat) (ty : TypeId) (cs : Array Value) (mb : Option Nat) (loc : Sx → KLoc) (T : Tb) (s : ByteArray) (tx mode : Int) (w : World) (hI : TabI w base n g off ty cs mb loc T) (hmode : ¬ OkMode mode) :
    Calls Tryz.prog 5 #[.pointer (some ⟨g, off, none⟩), .int .i64 tx, .string s, .int .i64 mode] w (LockPost base n g off ty cs mb loc T ⟨tx, sx s, mode⟩ w) := by
  have hb0 : Below w.heap.size w (w.alloc (.cells #[.int .i64 tx] 3)) := (Below.refl _ _).alloc (Nat.le_refl _) _
  have hfin := lock_none hI hb0 ⟨tx, sx s, mode⟩ (.arg hmode)
  unfold erV at hfin
  have HF := Lib.hid hfin; clear hfin hI hb0
  have d1 : (mode != 1) = true := by simpa using fun e => hmode (.inl e)
  have d2 : (mode != 2) = true := by simpa using fun e => hmode (.inr e)
  clear hmode
  go_enter Tryz.func5, Tryz.ntmps5
  go_wp2_with fail
  go_ret3
  exact HF.out
set_option maxRecDepth 100000 in
set_option maxHeartbeats 8000000 in
theorem lock_long (base n g off : Nat) (ty : TypeId) (cs : Array Value) (mb : Option Nat) (loc : Sx → KLoc) (T : Tb) (s : ByteArray) (tx mode : Int) (w : World) (hI : TabI w base n g off ty cs mb loc T) (hmode : OkMode mode) (hl : 20 < (sx s).length) :
    Calls Tryz.prog 5 #[.pointer (some ⟨g, off, none⟩), .int .i64 tx, .string s, .int .i64 mode] w (LockPost base n g off ty cs mb loc T ⟨tx, sx s, mode⟩ w) := by
  have hb0 : Below w.heap.size w (w.alloc (.cells #[.int .i64 tx] 3)) := (Below.refl _ _).alloc (Nat.le_refl _) _
  have hfin := lock_none hI hb0 ⟨tx, sx s, mode⟩ (.long hmode hl)
  unfold erV at hfin
  have HF := Lib.hid hfin; clear hfin hI hb0
  have hl20 : (s.size : Int) > 20 := by rw [sx_size]; omega
  clear hl
  go_enter Tryz.func5, Tryz.ntmps5
  rcases hmode with rfl | rfl
  · go_wp2_with fail
    go_ret3
    exact HF.out
  · go_wp2_with fail
    go_ret3
    exact HF.out
end Go.Proofs.YtopmehbncidpnaaGreatDoor
