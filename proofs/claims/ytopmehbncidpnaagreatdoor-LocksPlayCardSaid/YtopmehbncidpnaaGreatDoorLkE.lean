/- locks: (*Table).Keys. -/
import Derived.Test.YtopmehbncidpnaaGreatDoorLkD
namespace Go.Proofs.YtopmehbncidpnaaGreatDoor
open Go.RowKit Go.Maps Go.Sort Go.Shelf
set_option maxRecDepth 100000 in
set_option maxHeartbeats 2000000 in
theorem tkeys_any (base n g off : Nat) (ty : TypeId) (cs : Array Value) (mb : Option Nat) (loc : Sx → KLoc) (T : Tb) (w : World) (hI : TabI w base n g off ty cs mb loc T) (hn : n ≤ 2000000) :
    Calls Tryz.prog 11 #[.pointer (some ⟨g, off, none⟩)] w (KsPost T n w) := by
  have c0 := (hI.blk.cell off).trans hI.c0
  have hgl := hI.blk.lt
  have HKO := Lib.hid (keysOf_any mb w)
  have HSO := Lib.hid (sorted_any w hI.map hI.small hn)
  clear hI
  go_enter Tryz.func11, Tryz.ntmps11
  go_wp2_with fail
  refine HKO.out.mono ?_
  rintro e w2 ⟨rfl, rfl⟩
  go_wp2_with fail
  refine HSO.out.mono ?_
  rintro e w3 ⟨V, ks, rfl, hks, hl, hrow, hb⟩
  have hfin : KsPost T n w (.returned V) w3 := ⟨V, ks, rfl, hks, hl, hrow, hb⟩
  have HF := Lib.hid hfin; clear hfin hks hl hrow hb
  go_wp2_with fail
  go_ret
  exact HF.out
/-- Lock, whatever is asked. -/
theorem lock_all (base n g off : Nat) (ty : TypeId) (cs : Array Value) (mb : Option Nat) (loc : Sx → KLoc) (T : Tb) (s : ByteArray) (tx mode : Int) (w : World) (hI : TabI w base n g off ty cs mb loc T) (htx : okN tx) (hn : n < 1000000) (hsort : (atT T (sx s)).ws.Pairwise (·.1 < ·.1)) :
    Calls Tryz.prog 5 #[.pointer (some ⟨g, off, none⟩), .int .i64 tx, .string s, .int .i64 mode] w (LockPost base n g off ty cs mb loc T ⟨tx, sx s, mode⟩ w) := by
  by_cases hm : OkMode mode
  · by_cases hl : (sx s).length ≤ 20
    · exact lock_any base n g off ty cs mb loc T s tx mode w hI hm hl htx hn hsort
    · exact lock_long base n g off ty cs mb loc T s tx mode w hI hm (by omega)
  · exact lock_arg base n g off ty cs mb loc T s tx mode w hI hm
end Go.Proofs.YtopmehbncidpnaaGreatDoor
