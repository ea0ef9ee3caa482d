/- chainmailkeep.ordered: its contract. -/
import Derived.Test.YtnahkpfamocnfaaFits
import Derived.Test.YtnahkpfamocnfaaFitsPlain
namespace Go.Proofs.Ytnahkpfamocnfaa
open Go.RowKit
def ordL : List TxP := [⟨[⟨1, ⟨#[97]⟩, ⟨#[120]⟩, true⟩], 0, 9⟩, ⟨[⟨2, ⟨#[97]⟩, ⟨#[120]⟩, false⟩], 0, 9⟩]
theorem ord_walk : walkP ordL 2 [] Mp.empty = some [1, 0] := by decide +kernel
def ordR (h : Nat) : List TxR := [⟨⟨[⟨1, ⟨#[97]⟩, ⟨#[120]⟩, true⟩], 0, 9⟩, some ⟨h, 0, none⟩, 1, 1⟩, ⟨⟨[⟨2, ⟨#[97]⟩, ⟨#[120]⟩, false⟩], 0, 9⟩, some ⟨h + 1, 0, none⟩, 1, 1⟩]
theorem ordR_ts (h : Nat) : tsOf (ordR h) = ordL := rfl
set_option maxRecDepth 100000 in
set_option maxHeartbeats 1000000 in
theorem ordered_any (w : World) : Calls Try.prog 10 #[] w (BoolPost true w) := by
  have hc : ∃ W, W = ((w.alloc (.cells #[.int .i64 1, .string ⟨#[97]⟩, .string ⟨#[120]⟩, .bool true] 38)).alloc (.cells #[.int .i64 2, .string ⟨#[97]⟩, .string ⟨#[120]⟩, .bool false] 38)).alloc (.cells #[.slice (some ⟨w.heap.size, 0, none⟩) 1 1, .int .i64 0, .int .i64 9, .slice (some ⟨w.heap.size + 1, 0, none⟩) 1 1, .int .i64 0, .int .i64 9] 32) := ⟨_, rfl⟩
  obtain ⟨W, hW⟩ := hc
  have e1 : (w.alloc (.cells #[.int .i64 1, .string ⟨#[97]⟩, .string ⟨#[120]⟩, .bool true] 38)).heap.size = w.heap.size + 1 := by simp
  have e2 : ((w.alloc (.cells #[.int .i64 1, .string ⟨#[97]⟩, .string ⟨#[120]⟩, .bool true] 38)).alloc (.cells #[.int .i64 2, .string ⟨#[97]⟩, .string ⟨#[120]⟩, .bool false] 38)).heap.size = w.heap.size + 1 + 1 := by simp
  have b1 := ((Blk.new w 38 #[.int .i64 1, .string ⟨#[97]⟩, .string ⟨#[120]⟩, .bool true]).alloc (.cells #[.int .i64 2, .string ⟨#[97]⟩, .string ⟨#[120]⟩, .bool false] 38)).alloc (.cells #[.slice (some ⟨w.heap.size, 0, none⟩) 1 1, .int .i64 0, .int .i64 9, .slice (some ⟨w.heap.size + 1, 0, none⟩) 1 1, .int .i64 0, .int .i64 9] 32)
  have b2 := (Blk.new (w.alloc (.cells #[.int .i64 1, .string ⟨#[97]⟩, .string ⟨#[120]⟩, .bool true] 38)) 38 #[.int .i64 2, .string ⟨#[97]⟩, .string ⟨#[120]⟩, .bool false]).alloc (.cells #[.slice (some ⟨w.heap.size, 0, none⟩) 1 1, .int .i64 0, .int .i64 9, .slice (some ⟨w.heap.size + 1, 0, none⟩) 1 1, .int .i64 0, .int .i64 9] 32)
  have b3 := Blk.new ((w.alloc (.cells #[.int .i64 1, .string ⟨#[97]⟩, .string ⟨#[120]⟩, .bool true] 38)).alloc (.cells #[.int .i64 2, .string ⟨#[97]⟩, .string ⟨#[120]⟩, .bool false] 38)) 32 #[.slice (some ⟨w.heap.size, 0, none⟩) 1 1, .int .i64 0, .int .i64 9, .slice (some ⟨w.heap.size + 1, 0, none⟩) 1 1, .int .i64 0, .int .i64 9]
  have hbw : Below w.heap.size w W := by rw [hW]; exact (((Below.refl _ _).alloc (Nat.le_refl _) _).alloc (by simp) _).alloc (by simp; omega) _
  rw [← hW] at b1 b2 b3
  rw [e1] at b2
  rw [e2] at b3
  have hsz : W.heap.size = w.heap.size + 3 := by rw [hW]; simp
  have hread : ReadsT W W.heap.size (some ⟨w.heap.size + 1 + 1, 0, none⟩) 2 (ordR w.heap.size) := by
    have hfine : ∀ (k : Int) (b : Bool), opFine ⟨k, ⟨#[97]⟩, ⟨#[120]⟩, b⟩ := fun k b => ⟨by show 1 ≤ maxLen; unfold maxLen; omega, by show 1 ≤ maxLen; unfold maxLen; omega⟩
    refine ⟨rfl, ⟨rfl, fun _ => ⟨_, _, rfl, by omega, fun j u hu => by rw [Nat.zero_add]; exact (b3.cell j).trans (by rw [← Array.getElem?_toList]; exact hu)⟩⟩, fun x hx => ?_⟩
    rcases List.mem_cons.1 hx with rfl | hx
    · exact ⟨⟨rfl, rfl, fun _ => ⟨_, _, rfl, by omega, fun j u hu => by rw [Nat.zero_add]; exact (b1.cell j).trans (by rw [← Array.getElem?_toList]; exact hu)⟩⟩, fun o ho => by rw [List.mem_singleton.1 ho]; exact hfine 1 true⟩
    · obtain rfl := List.mem_singleton.1 hx
      exact ⟨⟨rfl, rfl, fun _ => ⟨_, _, rfl, by omega, fun j u hu => by rw [Nat.zero_add]; exact (b2.cell j).trans (by rw [← Array.getElem?_toList]; exact hu)⟩⟩, fun o ho => by rw [List.mem_singleton.1 ho]; exact hfine 2 false⟩
  have hser := serial_any (ordR w.heap.size) W.heap.size 2 2 (some ⟨w.heap.size + 1 + 1, 0, none⟩) W hread (Nat.le_refl _) (by omega) (fun x hx => by
    rcases List.mem_cons.1 hx with rfl | hx
    · show 1 ≤ 40; omega
    · obtain rfl := List.mem_singleton.1 hx
      show 1 ≤ 40; omega)
  rw [ordR_ts, ord_walk, hW] at hser
  rw [hW] at hbw
  have HSER := Lib.hid hser; clear hser
  have HBW := Lib.hid hbw; clear hbw
  clear hread hsz b1 b2 b3 e1 e2 hW W
  go_enter Try.func10, Try.ntmps10
  go_wp2_with fail
  refine HSER.out.mono ?_
  rintro e w2 ⟨A, k, c, rfl, hk, hrd, hb2⟩
  obtain rfl : k = 2 := hk
  obtain ⟨g, off, hA, hg, hc⟩ := hrd.2 (by omega)
  subst hA
  have hc0 : w2.cell? ⟨g, off, none⟩ = some (.int .i64 1) := hc 0 (.int .i64 1) rfl
  have hc1 := hc 1 (.int .i64 0) rfl
  have hfin : Below w.heap.size w w2 := HBW.out.trans (hb2.mono HBW.out.size)
  have HFIN := Lib.hid hfin; clear hfin hrd hc hb2
  go_wp2_with fail
  go_ret
  exact ⟨rfl, HFIN.out⟩
end Go.Proofs.Ytnahkpfamocnfaa
