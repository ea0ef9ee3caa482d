/- Part 1 of the texts that the claim rests on (of 19): Sorts, Iter, Words, Frame, MapG, Enc, Str, WirePlain, Msg0, NetP, Region, Clone, RowK. -/
import Derived.Shelf.Sort.Plain
import Derived.Shelf.Slices.In.SortNone
import Derived.Test.YtccahlhdifadfaaGreatDoorProg
import Derived.Shelf.SlIter.Nil
import Derived.Shelf.SortM.Plain
import Derived.Shelf.SortM.SortNone
import Derived.Ground.GgzProg
import Derived.Ground.SlgmProg
import Derived.Below
import Derived.Laws.OwnMore
import Derived.Deep.AppendLies
import Derived.Deep.Draws
import Derived.Laws.Rows
import Derived.Maps.AppendAt
import Derived.RegionTactic
import Derived.OwnWalk
import Derived.Lib.Hide
import Derived.Laws.Append
import Derived.Maps.OwnSet
import Derived.Maps.RangeWalk
import Derived.Maps.Ext
import Derived.WalkKit
import Derived.WalkSpells
import Derived.WalkLawsBesides
import Derived.Laws.BytesString
import Derived.Laws.Cells
import Derived.Laws.Concat
import Derived.Laws.Strings
import Derived.Test.YtccahlhdifadfaaGreatDoorRows
import Derived.OrdersHeld
import Derived.BigQuiet
import Derived.Lib.LazyBuf
import Derived.Deep.QuietTactic
import Derived.Lib.SliceRun
import Derived.Lib.AppendZerosOnto
import Derived.Lib.Overlaps
import Derived.Laws.CopyRow
import Derived.Laws.Tables
namespace Go.Proofs.YtccahlhdifadfaaGreatDoor
open Go.RowKit
set_option maxRecDepth 100000
set_option maxHeartbeats 16000000
theorem LH {p : Prop} (h : p) : Go.RowKit.Hid p := Go.Lib.hid h
section
open Go.Shelf
def q8h:Go.Shelf.Ren:=⟨fun|189=>92|125=>117|257=>116|128=>139|129=>140|294=>130|295=>131|296=>132|297=>133|298=>134|299=>135|216=>136|300=>137|301=>138|328=>146|329=>147|330=>148|331=>149|332=>150|215=>151|343=>162|n=>n,fun|28=>26|3=>3|46=>85|0=>0|51=>217|53=>219|4=>4|183=>211|182=>210|131=>126|5=>5|9=>9|218=>224|222=>228|228=>237|229=>238|n=>n,fun|n=>n⟩
theorem q8v:Go.Proofs.Lays.n189 Tryz.prog q8h:={
 mixed:=by kernel_rfl
 f125:=Tryz.func117.trans (congrArg some (by kernel_rfl))
 f128:=Tryz.func139.trans (congrArg some (by kernel_rfl))
 f129:=Tryz.func140.trans (congrArg some (by kernel_rfl))
 f189:=Tryz.func92.trans (congrArg some (by kernel_rfl))
 f215:=Tryz.func151.trans (congrArg some (by kernel_rfl))
 f216:=Tryz.func136.trans (congrArg some (by kernel_rfl))
 f257:=Tryz.func116.trans (congrArg some (by kernel_rfl))
 f294:=Tryz.func130.trans (congrArg some (by kernel_rfl))
 f295:=Tryz.func131.trans (congrArg some (by kernel_rfl))
 f296:=Tryz.func132.trans (congrArg some (by kernel_rfl))
 f297:=Tryz.func133.trans (congrArg some (by kernel_rfl))
 f298:=Tryz.func134.trans (congrArg some (by kernel_rfl))
 f299:=Tryz.func135.trans (congrArg some (by kernel_rfl))
 f300:=Tryz.func137.trans (congrArg some (by kernel_rfl))
 f301:=Tryz.func138.trans (congrArg some (by kernel_rfl))
 f328:=Tryz.func146.trans (congrArg some (by kernel_rfl))
 f329:=Tryz.func147.trans (congrArg some (by kernel_rfl))
 f330:=Tryz.func148.trans (congrArg some (by kernel_rfl))
 f331:=Tryz.func149.trans (congrArg some (by kernel_rfl))
 f332:=Tryz.func150.trans (congrArg some (by kernel_rfl))
 f343:=Tryz.func162.trans (congrArg some (by kernel_rfl))
 t0:=Tryz.underlying0
 a0:=Tryz.isAgg0
 z0:=Tryz.sizeOf0
 v0:=Tryz.zeroValue0
 t3:=Tryz.underlying3
 a3:=Tryz.isAgg3
 z3:=Tryz.sizeOf3
 v3:=Tryz.zeroValue3
 t4:=Tryz.underlying4
 a4:=Tryz.isAgg4
 z4:=Tryz.sizeOf4
 v4:=Tryz.zeroValue4
 t5:=Tryz.underlying5
 a5:=Tryz.isAgg5
 z5:=Tryz.sizeOf5
 v5:=Tryz.zeroValue5
 t9:=Tryz.underlying9
 a9:=Tryz.isAgg9
 z9:=Tryz.sizeOf9
 v9:=Tryz.zeroValue9
 t28:=Tryz.underlying26
 a28:=Tryz.isAgg26
 z28:=Tryz.sizeOf26
 v28:=Tryz.zeroValue26
 t46:=Tryz.underlying85
 a46:=Tryz.isAgg85
 z46:=Tryz.sizeOf85
 v46:=Tryz.zeroValue85
 t51:=Tryz.underlying217
 a51:=Tryz.isAgg217
 z51:=Tryz.sizeOf217
 v51:=Tryz.zeroValue217
 t53:=Tryz.underlying219
 a53:=Tryz.isAgg219
 z53:=Tryz.sizeOf219
 v53:=Tryz.zeroValue219
 t131:=Tryz.underlying126
 a131:=Tryz.isAgg126
 z131:=Tryz.sizeOf126
 v131:=Tryz.zeroValue126
 t182:=Tryz.underlying210
 a182:=Tryz.isAgg210
 z182:=Tryz.sizeOf210
 v182:=Tryz.zeroValue210
 t183:=Tryz.underlying211
 a183:=Tryz.isAgg211
 z183:=Tryz.sizeOf211
 v183:=Tryz.zeroValue211
 t218:=Tryz.underlying224
 a218:=Tryz.isAgg224
 z218:=Tryz.sizeOf224
 v218:=Tryz.zeroValue224
 t222:=Tryz.underlying228
 a222:=Tryz.isAgg228
 z222:=Tryz.sizeOf228
 v222:=Tryz.zeroValue228
 t228:=Tryz.underlying237
 a228:=Tryz.isAgg237
 z228:=Tryz.sizeOf237
 v228:=Tryz.zeroValue237
 t229:=Tryz.underlying238
 a229:=Tryz.isAgg238
 z229:=Tryz.sizeOf238
 v229:=Tryz.zeroValue238 }
open Go.Sort Go.RowKit in
theorem srt_int (blk off cap:Nat) (zs:List Int) (w:World) (hH:Holds (Value.int .i64) w blk off zs.toArray) (hblk:blk<w.heap.size) (hsz:zs.length<4611686018427387904) :
  Calls Tryz.prog 92 #[.slice (some ⟨blk,off,none⟩) zs.length cap] w fun e w'=>
   e=.returned (.tuple #[])∧∃ n os,w'=grow (putRow (Value.int .i64) (Sort.ahead w n) blk off (zs.mergeSort fun x y=>decide (x≤y)).toArray) os:=Any.slices_Sort_int q8v blk off cap zs w hH hblk hsz
open Go.RowKit Go.Sort in
theorem srt_int_none (p:Option Addr) (cap:Nat) (w:World) :
  Calls Tryz.prog 92 #[.slice p 0 cap] w fun e w'=>e=.returned (.tuple #[])∧w'=w:=Any.slices_Sort_int_none q8v p cap w
end
section
open Go.RowKit Go.Maps Go.Sort Go.Shelf
def q69:Go.Shelf.Ren:=⟨fun|7=>101|10=>123|n=>n,fun|23=>98|26=>9|3=>161|28=>183|0=>0|27=>182|33=>203|4=>4|n=>n,fun|n=>n⟩
theorem kyKeys:Go.Proofs.SlLaysZ.n7 Tryz.prog q69:={
 mixed:=by kernel_rfl
 f7:=⟨Tryz.f101.name,by decide,Tryz.func101.trans (congrArg some (by kernel_rfl))⟩
 f10:=⟨Tryz.f123.name,by decide,Tryz.func123.trans (congrArg some (by kernel_rfl))⟩
 t0:=Tryz.underlying0
 a0:=Tryz.isAgg0
 z0:=Tryz.sizeOf0
 v0:=Tryz.zeroValue0
 t4:=Tryz.underlying4
 a4:=Tryz.isAgg4
 z4:=Tryz.sizeOf4
 v4:=Tryz.zeroValue4
 t23:=Tryz.underlying98
 a23:=Tryz.isAgg98
 z23:=Tryz.sizeOf98
 v23:=Tryz.zeroValue98
 t26:=Tryz.underlying9
 a26:=Tryz.isAgg9
 z26:=Tryz.sizeOf9
 v26:=Tryz.zeroValue9
 t27:=Tryz.underlying182
 a27:=Tryz.isAgg182
 z27:=Tryz.sizeOf182
 v27:=Tryz.zeroValue182
 t28:=Tryz.underlying183
 a28:=Tryz.isAgg183
 z28:=Tryz.sizeOf183
 v28:=Tryz.zeroValue183
 t33:=Tryz.underlying203
 a33:=Tryz.isAgg203
 z33:=Tryz.sizeOf203
 v33:=Tryz.zeroValue203 }
def q6j:Go.Shelf.Ren:=⟨fun|6=>100|8=>121|9=>122|11=>141|13=>117|12=>142|23=>139|24=>140|14=>152|15=>153|16=>154|17=>155|18=>156|19=>157|20=>158|21=>159|22=>160|25=>163|26=>147|27=>148|28=>164|29=>165|30=>166|31=>167|n=>n,fun|26=>9|28=>183|24=>39|0=>0|3=>3|37=>85|48=>217|50=>219|4=>4|40=>211|39=>210|45=>126|5=>5|9=>9|51=>224|55=>228|57=>237|58=>238|33=>203|n=>n,fun|n=>n⟩
theorem kySorted:Go.Proofs.SlLaysZ.n6 Tryz.prog q6j:={
 mixed:=by kernel_rfl
 f6:=⟨Tryz.f100.name,by decide,Tryz.func100.trans (congrArg some (by kernel_rfl))⟩
 f8:=⟨Tryz.f121.name,by decide,Tryz.func121.trans (congrArg some (by kernel_rfl))⟩
 f11:=⟨Tryz.f141.name,by decide,Tryz.func141.trans (congrArg some (by kernel_rfl))⟩
 t0:=Tryz.underlying0
 a0:=Tryz.isAgg0
 z0:=Tryz.sizeOf0
 v0:=Tryz.zeroValue0
 t24:=Tryz.underlying39
 a24:=Tryz.isAgg39
 z24:=Tryz.sizeOf39
 v24:=Tryz.zeroValue39
 t26:=Tryz.underlying9
 a26:=Tryz.isAgg9
 z26:=Tryz.sizeOf9
 v26:=Tryz.zeroValue9
 t28:=Tryz.underlying183
 a28:=Tryz.isAgg183
 z28:=Tryz.sizeOf183
 v28:=Tryz.zeroValue183
 i26:=by kernel_rfl }
def kySort_ren:Go.Shelf.Ren:=⟨fun|6=>122|8=>117|9=>142|19=>139|20=>140|21=>152|22=>153|23=>154|24=>155|25=>156|26=>157|27=>158|28=>159|29=>160|36=>163|31=>147|32=>148|37=>164|38=>165|39=>166|41=>167|n=>n,fun|27=>39|29=>9|3=>3|32=>85|26=>39|0=>0|44=>217|46=>219|4=>4|36=>211|35=>210|41=>126|5=>5|9=>9|53=>224|57=>228|63=>237|64=>238|n=>n,fun|n=>n⟩
theorem kySort:Go.Proofs.SlLaysM.n6 Tryz.prog kySort_ren:={
 mixed:=by kernel_rfl
 f6:=⟨Tryz.f122.name,by decide,Tryz.func122.trans (congrArg some (by kernel_rfl))⟩
 f8:=Tryz.func117.trans (congrArg some (by kernel_rfl))
 f9:=⟨Tryz.f142.name,by decide,Tryz.func142.trans (congrArg some (by kernel_rfl))⟩
 f19:=Tryz.func139.trans (congrArg some (by kernel_rfl))
 f20:=Tryz.func140.trans (congrArg some (by kernel_rfl))
 f21:=⟨Tryz.f152.name,by decide,Tryz.func152.trans (congrArg some (by kernel_rfl))⟩
 f22:=⟨Tryz.f153.name,by decide,Tryz.func153.trans (congrArg some (by kernel_rfl))⟩
 f23:=⟨Tryz.f154.name,by decide,Tryz.func154.trans (congrArg some (by kernel_rfl))⟩
 f24:=⟨Tryz.f155.name,by decide,Tryz.func155.trans (congrArg some (by kernel_rfl))⟩
 f25:=⟨Tryz.f156.name,by decide,Tryz.func156.trans (congrArg some (by kernel_rfl))⟩
 f26:=⟨Tryz.f157.name,by decide,Tryz.func157.trans (congrArg some (by kernel_rfl))⟩
 f27:=⟨Tryz.f158.name,by decide,Tryz.func158.trans (congrArg some (by kernel_rfl))⟩
 f28:=⟨Tryz.f159.name,by decide,Tryz.func159.trans (congrArg some (by kernel_rfl))⟩
 f29:=⟨Tryz.f160.name,by decide,Tryz.func160.trans (congrArg some (by kernel_rfl))⟩
 f31:=Tryz.func147.trans (congrArg some (by kernel_rfl))
 f32:=Tryz.func148.trans (congrArg some (by kernel_rfl))
 f36:=⟨Tryz.f163.name,by decide,Tryz.func163.trans (congrArg some (by kernel_rfl))⟩
 f37:=⟨Tryz.f164.name,by decide,Tryz.func164.trans (congrArg some (by kernel_rfl))⟩
 f38:=⟨Tryz.f165.name,by decide,Tryz.func165.trans (congrArg some (by kernel_rfl))⟩
 f39:=⟨Tryz.f166.name,by decide,Tryz.func166.trans (congrArg some (by kernel_rfl))⟩
 f41:=⟨Tryz.f167.name,by decide,Tryz.func167.trans (congrArg some (by kernel_rfl))⟩
 t0:=Tryz.underlying0
 a0:=Tryz.isAgg0
 z0:=Tryz.sizeOf0
 v0:=Tryz.zeroValue0
 t3:=Tryz.underlying3
 a3:=Tryz.isAgg3
 z3:=Tryz.sizeOf3
 v3:=Tryz.zeroValue3
 t4:=Tryz.underlying4
 a4:=Tryz.isAgg4
 z4:=Tryz.sizeOf4
 v4:=Tryz.zeroValue4
 t5:=Tryz.underlying5
 a5:=Tryz.isAgg5
 z5:=Tryz.sizeOf5
 v5:=Tryz.zeroValue5
 t9:=Tryz.underlying9
 a9:=Tryz.isAgg9
 z9:=Tryz.sizeOf9
 v9:=Tryz.zeroValue9
 t26:=Tryz.underlying39
 a26:=Tryz.isAgg39
 z26:=Tryz.sizeOf39
 v26:=Tryz.zeroValue39
 t27:=Tryz.underlying39
 a27:=Tryz.isAgg39
 z27:=Tryz.sizeOf39
 v27:=Tryz.zeroValue39
 t29:=Tryz.underlying9
 a29:=Tryz.isAgg9
 z29:=Tryz.sizeOf9
 v29:=Tryz.zeroValue9
 t32:=Tryz.underlying85
 a32:=Tryz.isAgg85
 z32:=Tryz.sizeOf85
 v32:=Tryz.zeroValue85
 t35:=Tryz.underlying210
 a35:=Tryz.isAgg210
 z35:=Tryz.sizeOf210
 v35:=Tryz.zeroValue210
 t36:=Tryz.underlying211
 a36:=Tryz.isAgg211
 z36:=Tryz.sizeOf211
 v36:=Tryz.zeroValue211
 t41:=Tryz.underlying126
 a41:=Tryz.isAgg126
 z41:=Tryz.sizeOf126
 v41:=Tryz.zeroValue126
 t44:=Tryz.underlying217
 a44:=Tryz.isAgg217
 z44:=Tryz.sizeOf217
 v44:=Tryz.zeroValue217
 t46:=Tryz.underlying219
 a46:=Tryz.isAgg219
 z46:=Tryz.sizeOf219
 v46:=Tryz.zeroValue219
 t53:=Tryz.underlying224
 a53:=Tryz.isAgg224
 z53:=Tryz.sizeOf224
 v53:=Tryz.zeroValue224
 t57:=Tryz.underlying228
 a57:=Tryz.isAgg228
 z57:=Tryz.sizeOf228
 v57:=Tryz.zeroValue228
 t63:=Tryz.underlying237
 a63:=Tryz.isAgg237
 z63:=Tryz.sizeOf237
 v63:=Tryz.zeroValue237
 t64:=Tryz.underlying238
 a64:=Tryz.isAgg238
 z64:=Tryz.sizeOf238
 v64:=Tryz.zeroValue238 }
theorem kySorts (m:Nat):AnyZ.SortsIn Tryz.prog q6j Fence.wide m:=
 ⟨fun blk off cap ss W hH hblk hsz=>callsIn_wide.2 (AnyM.slices_Sort_string kySort blk off cap ss W hH hblk hsz),
  fun p cap W=>callsIn_wide.2 (AnyM.slices_Sort_string_none kySort p cap W)⟩
theorem kyKeysOf (mb:Option Nat) (W:World):CallsIn Fence.wide 5 Tryz.prog 101 #[.map mb] W fun e w'=>e=.returned (.func (.func 123) #[] #[.pointer (some ⟨W.heap.size,0,none⟩)])∧w'=W.alloc (.cells #[.map mb] 98):=
 AnyZ.keys_in kyKeys Fence.wide 5 trivial rfl mb W
theorem kySortedOf {H:Type} (b nn:Nat) (D0:DataW H) (R:Value→Option (DataW H×List MemPlace)) (w:World) (hown:w.ownsMap Tryz.prog 9 R b nn D0) (hmax:Maps.size D0≤maxLen) (hbytes:Maps.size D0*16≤140737488355328) :
  CallsIn Fence.wide 5 Tryz.prog 100 #[.func (.func 123) #[] #[.pointer (some ⟨w.heap.size,0,none⟩)]] (w.alloc (.cells #[.map (some b)] 98)) fun e w'=>∃ (v:Value) (ss:List (List UInt8)),e=.returned v∧ss.Perm (strKeys D0)∧
   w'.ownsRow (w.alloc (.cells #[.map (some b)] 98)).heap.size 9 1 v ss.length ((ss.mergeSort (fun x y=>decide (x≤y))).map encStr)∧(v=.slice none 0 0↔ss=[])∧Below (w.alloc (.cells #[.map (some b)] 98)).heap.size (w.alloc (.cells #[.map (some b)] 98)) w':=by
 have hbl:=hown.lt
 have hseq:SeqGives Fence.wide 2 Tryz.prog 123 #[.pointer (some ⟨w.heap.size,0,none⟩)] encStr (fun ss=>ss.Perm (strKeys D0)) (Maps.size D0) (w.alloc (.cells #[.map (some b)] 98)):=
  AnyZ.keys_gives (ρ:=q69) { kyKeys with } Fence.wide _ trivial rfl (by omega) w.heap.size b nn D0 _ (by simp) (by simp) (by
   obtain⟨es,clock,hb,Ft,hs,hD⟩:=hown
   exact⟨es,clock,(Below.heap_alloc _ _ b hbl).trans hb,Ft,hs,hD⟩)
 exact AnyZ.sorted_in kySorted Fence.wide 5 trivial trivial trivial trivial rfl (by omega) (kySorts _) (enters_of Tryz.func122 (by kernel_rfl) rfl) 123 #[.pointer (some ⟨w.heap.size,0,none⟩)] trivial (enters_of Tryz.func123 (by kernel_rfl) rfl) _ _ hmax hbytes _ hseq
theorem kySortedNil (w:World) :
  CallsIn Fence.wide 5 Tryz.prog 100 #[.func (.func 123) #[] #[.pointer (some ⟨w.heap.size,0,none⟩)]] (w.alloc (.cells #[.map none] 98)) fun e w'=>∃ (v:Value) (ss:List (List UInt8)),e=.returned v∧ss=[]∧
   w'.ownsRow (w.alloc (.cells #[.map none] 98)).heap.size 9 1 v ss.length ((ss.mergeSort (fun x y=>decide (x≤y))).map encStr)∧(v=.slice none 0 0↔ss=[])∧Below (w.alloc (.cells #[.map none] 98)).heap.size (w.alloc (.cells #[.map none] 98)) w':=by
 have hseq:SeqGives Fence.wide 2 Tryz.prog 123 #[.pointer (some ⟨w.heap.size,0,none⟩)] encStr (fun ss:List (List UInt8)=>ss=[]) 0 (w.alloc (.cells #[.map none] 98)):=
  AnyZ.keys_gives_nil (ρ:=q69) { kyKeys with } Fence.wide _ trivial rfl w.heap.size _ (by simp) (by simp)
 exact AnyZ.sorted_in kySorted Fence.wide 5 trivial trivial trivial trivial rfl (by omega) (kySorts _) (enters_of Tryz.func122 (by kernel_rfl) rfl) 123 #[.pointer (some ⟨w.heap.size,0,none⟩)] trivial (enters_of Tryz.func123 (by kernel_rfl) rfl) _ 0 (Nat.zero_le _) (by omega) _ hseq
end
theorem block_of_add (a:Addr) (n:Nat):(a.add n).block=a.block:=by unfold Addr.add;split <;> rfl
theorem add_of_add (a:Addr) (i j:Nat):(a.add i).add j=a.add (i+j):=by
 unfold Addr.add
 by_cases hi:i=0 <;> by_cases hj:j=0 <;> simp[hi,hj,Nat.add_assoc]
def Reads (w:World) (B size:Nat) (A:Option Addr) (n:Nat) (xs:List Value):Prop:=
 xs.length=n*size∧(0<n→∃ ad,A=some ad∧ad.block<B∧∀ j u,xs[j]? = some u→w.cell? (ad.add j)=some u)
def Blk (w:World) (g:Nat) (t:TypeId) (cs:Array Value):Prop:=w.heap[g]? = some (.cells cs t (0,0))
section
variable {w w':World} {g:Nat} {t:TypeId} {cs:Array Value}
theorem Blk.lt (h:Blk w g t cs):g<w.heap.size:=by
 rcases Nat.lt_or_ge g w.heap.size with hlt|hge
 ·exact hlt
 ·unfold Blk at h;rw[Array.getElem?_eq_none hge] at h;cases h
theorem Blk.cell (h:Blk w g t cs) (i:Nat):w.cell? ⟨g,i,none⟩=cs[i]?:=cell_of_row w g i cs t (0,0) h
theorem Blk.frozen (h:Blk w g t cs) (i:Nat):w.frozen? ⟨g,i,none⟩=false:=by
 unfold Blk at h
 simp[World.frozen?,h]
theorem Blk.new (w:World) (t:TypeId) (cs:Array Value):Blk (w.alloc (.cells cs t)) w.heap.size t cs:=heap_alloc_new w _
theorem Blk.alloc (h:Blk w g t cs) (o:Obj):Blk (w.alloc o) g t cs:=(Below.heap_alloc w o g h.lt).trans h
theorem Blk.set_ (h:Blk w g t cs) (i:Nat) (u:Value):Blk (w.setCell ⟨g,i,none⟩ u) g t (cs.setIfInBounds i u):=by
 unfold Blk at h ⊢
 simp[World.setCell,Array.getElem?_modify,h]
theorem Blk.far (h:Blk w g t cs) {p:Addr} (hp:g≠p.block) (u:Value):Blk (w.setCell p u) g t cs:=(Below.heap_setCell w p u g hp).trans h
theorem Blk.below {B:Nat} (h:Blk w g t cs) (hb:Below B w w') (hg:g<B):Blk w' g t cs:=(hb.block g hg).trans h
theorem Blk.ne_ {g':Nat} {t':TypeId} {cs':Array Value} (h:Blk w g t cs) (h':Blk w g' t' cs') (hne:t≠t'):g≠g':=by
 rintro rfl
 unfold Blk at h h'
 rw[h] at h'
 injection h' with h'
 injection h' with _ ht
 exact hne ht
theorem q02 {base:Nat} {e:TypeId} {size n:Nat} {v:Value} {xs:List Value} (h:w.ownsRow base e size v n xs) (hg:Blk w g t cs) (hne:e≠t):v.ownBlock≠some g:=by
 rcases h.2 with ⟨rfl,_⟩|⟨g',cap,cur,rfl,_,hh,_⟩
 ·simp[Value.ownBlock]
 ·intro he
  have:g'=g:=by simpa [Value.ownBlock] using he
  subst this
  exact Blk.ne_ (t:=e) hh hg hne rfl
end
section
variable {P:Program} (w:World)
theorem q5w (base:Nat) (t ty e:TypeId) (i:TypeInfo) (size:Nat) (ht:P.underlying t=some (.slice e)) (hi:P.info? e=some i)
  (v:Value) (n:Nat) (xs:List Value) (hown:w.ownsRow base e size v n xs) (c:Nat):(Builtin.append_ #[t,t] ty #[v,.slice none 0 c]).run P w=.ok v w:=by
 rcases hown.2 with ⟨rfl,rfl⟩|⟨g,cap,cur,rfl,_,_,hnc,_⟩
 ·simp[Builtin.append_,run_underlying ht,sizeOf,typeInfo,hi,Builtin.lenOf,Builtin.firstCells]
 ·simp[Builtin.append_,run_underlying ht,sizeOf,typeInfo,hi,Builtin.lenOf,Builtin.firstCells,hnc,storeCells]
theorem q8i (base:Nat) (t ty e:TypeId) (i:TypeInfo) (z:Value) (size bytes:Nat) (ht:P.underlying t=some (.slice e)) (hi:P.info? e=some i) (hz:i.zero=some z)
  (hsize:i.size=size) (hby:i.bytes=bytes) (hzs:z.cells.size=size) (hsz:0<size)
  (v:Value) (n:Nat) (xs:List Value) (hown:w.ownsRow base e size v n xs)
  (B:Nat) (A:Option Addr) (m c:Nat) (news:List Value) (hr:Reads w B size A m news) (h1:∀ u∈news,u.oneCell'=true)
  (h63:n+m≤maxLen) (hbytes:(n+m)*bytes≤140737488355328) (hbase:base≤w.heap.size) :
  ∃ v' w',(Builtin.append_ #[t,t] ty #[v,.slice A m c]).run P w=.ok v' w'∧w'.ownsRow base e size v' (n+m) (xs++news)∧w.grownBy w' v.ownBlock∧
   (v'.ownBlock=v.ownBlock∨v'.ownBlock=some w.heap.size):=by
 rcases A with _|ad
 ·have hm:m=0:=by
   rcases Nat.eq_zero_or_pos m with h0|h0
   ·exact h0
   ·obtain⟨ad,h,_⟩:=hr.2 h0
    cases h
  subst hm
  have hn:news=[]:=List.eq_nil_of_length_eq_zero (by simpa using hr.1)
  subst hn
  exact⟨v,w,q5w w base t ty e i size ht hi v n xs hown c,by simpa using hown,World.grownBy.refl w _,.inl rfl⟩
 ·have hcells:∀ j u,news[j]? = some u→w.cell? (ad.add j)=some u:=by
   intro j u hu
   rcases Nat.eq_zero_or_pos m with h0|h0
   ·subst h0
    have hn:news=[]:=List.eq_nil_of_length_eq_zero (by simpa using hr.1)
    subst hn
    simp at hu
   ·obtain⟨ad',h,_,hc⟩:=hr.2 h0
    injection h with h
    subst h
    exact hc j u hu
  obtain⟨v',w',hrun,h2,h3,_,h5⟩:=run_append_own_at (P:=P) w base t ty e i z size bytes ht hi hz hsize hby hzs hsz v n xs hown ad m c news hr.1 hcells h1 h63 hbytes hbase
  exact⟨v',w',hrun,h2,h3,h5⟩
theorem q4x {o:Oper} {a:Act} {K:Act→World→Prop} {Q:Exit→Act→World→Prop} (s x:Operand) (t:TypeId)
  (ho:o.op=.call { callee:=.builtin .append,args:=#[s,x],argTypes:=#[t,t] })
  (base:Nat) (e:TypeId) (i:TypeInfo) (z:Value) (size bytes:Nat) (ht:P.underlying t=some (.slice e)) (hi:P.info? e=some i) (hz:i.zero=some z)
  (hsize:i.size=size) (hby:i.bytes=bytes) (hzs:z.cells.size=size) (hsz:0<size)
  (v:Value) (n:Nat) (xs:List Value) (hs:a.eval s=v) (hown:w.ownsRow base e size v n xs)
  (B:Nat) (A:Option Addr) (m c:Nat) (news:List Value) (hx:a.eval x=.slice A m c) (hr:Reads w B size A m news) (h1:∀ u∈news,u.oneCell'=true)
  (h63:n+m≤maxLen) (hbytes:(n+m)*bytes≤140737488355328) (hbase:base≤w.heap.size)
  (h:∀ v' w',w'.ownsRow base e size v' (n+m) (xs++news)→w.grownBy w' v.ownBlock→(v'.ownBlock=v.ownBlock∨v'.ownBlock=some w.heap.size)→K (a.put o.dst v') w'):o.wp P a w K Q:=by
 obtain⟨v',w',hrun,h2,h3,h4⟩:=q8i (P:=P) w base t o.type e i z size bytes ht hi hz hsize hby hzs hsz v n xs hown B A m c news hr h1 h63 hbytes hbase
 unfold Oper.wp execOp
 simp only[ho,resolve,invoke,builtin,Sem.run_bind,Sem.run_pure,Result.andThen_ok,List.map_toArray,List.map_cons,List.map_nil,hs,hx,hrun]
 exact h v' w' h2 h3 h4
theorem q5o {ops:Array Oper} {rest:List Oper} {o:Oper} {a:Act} {Q:Exit→Act→World→Prop} (hgd:o.guard=none) (s x:Operand) (t:TypeId)
  (ho:o.op=.call { callee:=.builtin .append,args:=#[s,x],argTypes:=#[t,t] })
  (base:Nat) (e:TypeId) (i:TypeInfo) (z:Value) (size bytes:Nat) (ht:P.underlying t=some (.slice e)) (hi:P.info? e=some i) (hz:i.zero=some z)
  (hsize:i.size=size) (hby:i.bytes=bytes) (hzs:z.cells.size=size) (hsz:0<size)
  (v:Value) (n:Nat) (xs:List Value) (hs:a.eval s=v) (hown:w.ownsRow base e size v n xs)
  (B:Nat) (A:Option Addr) (m c:Nat) (news:List Value) (hx:a.eval x=.slice A m c) (hr:Reads w B size A m news) (h1:∀ u∈news,u.oneCell'=true)
  (h63:n+m≤maxLen) (hbytes:(n+m)*bytes≤140737488355328) (hbase:base≤w.heap.size)
  (h:∀ v' w',w'.ownsRow base e size v' (n+m) (xs++news)→w.grownBy w' v.ownBlock→(v'.ownBlock=v.ownBlock∨v'.ownBlock=some w.heap.size)→wpList P ops Q rest (a.put o.dst v') w'):wpList P ops Q (o::rest) a w:=
 wpList_plain hgd fun _ hK=>q4x w s x t ho base e i z size bytes ht hi hz hsize hby hzs hsz v n xs hs hown B A m c news hx hr h1 h63 hbytes hbase fun v' w' h2 h3 h4=>hK _ _ (h v' w' h2 h3 h4)
end
def Stop (p:Prop):Prop:=p
theorem stop {p:Prop} (h:Stop p):p:=h
theorem back {p:Prop} (h:p):Stop p:=h
structure Fr (S:Nat→Prop) (w w':World):Prop where
 os:w'.os=w.os
 tape:w'.tape=w.tape
 output:w'.output=w.output
 size:w.heap.size≤w'.heap.size
 block:∀ k,k<w.heap.size→¬S k→w'.heap[k]? = w.heap[k]?
section
variable {S T:Nat→Prop} {a b c w w':World}
theorem Fr.refl (S:Nat→Prop) (w:World):Fr S w w:=⟨rfl,rfl,rfl,Nat.le_refl _,fun _ _ _=>rfl⟩
theorem Fr.trans' (h:Fr S a b) (k:Fr T b c) (hT:∀ i,i<a.heap.size→T i→S i):Fr S a c:=
 ⟨k.os.trans h.os,k.tape.trans h.tape,k.output.trans h.output,Nat.le_trans h.size k.size,fun i hi hn=>(k.block i (Nat.lt_of_lt_of_le hi h.size) (fun ht=>hn (hT i hi ht))).trans (h.block i hi hn)⟩
theorem Fr.trans (h:Fr S a b) (k:Fr S b c):Fr S a c:=h.trans' k fun _ _ x=>x
theorem Fr.mono (h:Fr S a b) (hS:∀ i,i<a.heap.size→S i→T i):Fr T a b:=⟨h.os,h.tape,h.output,h.size,fun i hi hn=>h.block i hi (fun hs=>hn (hS i hi hs))⟩
theorem Fr.drew (h:Fr S a w):Fr S a w.drew:=⟨h.os,h.tape,h.output,h.size,h.block⟩
theorem Fr.drewN (h:Fr S a w) (n:Nat):Fr S a (w.drewN n):=⟨h.os,h.tape,h.output,h.size,h.block⟩
theorem Fr.alloc (h:Fr S a w) (o:Obj):Fr S a (w.alloc o):=h.trans ⟨rfl,rfl,rfl,by simp,fun k hk _=>Below.heap_alloc _ _ _ hk⟩
theorem Fr.setCell (h:Fr S a w) {p:Addr} (hp:S p.block∨a.heap.size≤p.block) (u:Value):Fr S a (w.setCell p u):=
 ⟨h.os,h.tape,h.output,by simpa [World.setCell] using h.size,fun k hk hn=>(Below.heap_setCell w p u k (by
  rintro rfl
  rcases hp with hp|hp
  ·exact hn hp
  ·omega)).trans (h.block k hk hn)⟩
theorem Fr.below {B:Nat} (h:Fr S a b) (hS:∀ i,S i→B≤i) (hB:B≤a.heap.size):Below B a b:=⟨h.os,h.tape,h.output,h.size,fun k hk=>h.block k (by omega) (fun hs=>by have:=hS k hs;omega)⟩
theorem Below.fr (h:Below w.heap.size w w') (S:Nat→Prop):Fr S w w':=⟨h.os,h.tape,h.output,h.size,fun k hk _=>h.block k hk⟩
theorem Fr.of_grown {row:Option Nat} (h:w.grownBy w' row) (hr:∀ k,row=some k→S k):Fr S w w':=⟨h.os,h.tape,h.output,h.size,fun k hk hn=>h.block k hk (fun e=>hn (hr k e.symm))⟩
theorem Fr.none_below (h:Fr (fun _=>False) w w'):Below w.heap.size w w':=⟨h.os,h.tape,h.output,h.size,fun k hk=>h.block k hk (fun x=>x)⟩
theorem Fr.cell (h:Fr S w w') {p:Addr} (hp:p.block<w.heap.size) (hn:¬S p.block):w'.cell? p=w.cell? p:=World.cell?_of_block (h.block p.block hp hn)
theorem Fr.blk {g:Nat} {t:TypeId} {cs:Array Value} (h:Fr S w w') (hb:Blk w g t cs) (hn:¬S g):Blk w' g t cs:=(h.block g hb.lt hn).trans hb
theorem Fr.own {base:Nat} {e:TypeId} {size n:Nat} {v:Value} {xs:List Value} (h:Fr S w w') (ho:w.ownsRow base e size v n xs) (hn:∀ g,v.ownBlock=some g→¬S g):w'.ownsRow base e size v n xs:=by
 refine⟨ho.1,?_⟩
 rcases ho.2 with hh|⟨g,cap,cur,rfl,hb,hgg,rest⟩
 ·exact .inl hh
 ·exact .inr ⟨g,cap,cur,rfl,hb,(h.block g (Array.getElem?_eq_some_iff.1 hgg).1 (hn g rfl)).trans hgg,rest⟩
end
theorem Fr.set1 (p:Nat) (w:World) (i:Nat) (u:Value):Fr (fun k=>k=p) w (w.setCell ⟨p,i,none⟩ u):=(Fr.refl (fun k=>k=p) w).setCell (p:=⟨p,i,none⟩) (.inl rfl) u
def Rd (w:World) (B size:Nat) (A:Option Addr) (n:Nat) (xs:List Value):Prop:=
 xs.length=n*size∧(0<n→∃ g off,A=some ⟨g,off,none⟩∧g<B∧∀ j u,xs[j]? = some u→w.cell? ⟨g,off+j,none⟩=some u)
section
variable {w w':World} {B size n:Nat} {A:Option Addr} {xs:List Value}
theorem Rd.reads (h:Rd w B size A n xs):Reads w B size A n xs:=⟨h.1,fun h0=>by
 obtain⟨g,off,rfl,hb,hc⟩:=h.2 h0
 exact⟨_,rfl,hb,fun j u hu=>by rw[Addr.add_lit];exact hc j u hu⟩⟩
theorem Rd.none_ (w:World) (B size:Nat) (A:Option Addr):Rd w B size A 0 []:=⟨by simp,fun h=>absurd h (by omega)⟩
theorem Rd.fr {S:Nat→Prop} (h:Rd w B size A n xs) (hf:Fr S w w') (hB:B≤w.heap.size) (hn:∀ g off,A=some ⟨g,off,none⟩→0<n→¬S g):Rd w' B size A n xs:=
 ⟨h.1,fun h0=>by
  obtain⟨g,off,e,hb,hc⟩:=h.2 h0
  exact⟨g,off,e,hb,fun j u hu=>(hf.cell (p:=⟨g,off+j,none⟩) (by show g<_;omega) (hn g off e h0)).trans (hc j u hu)⟩⟩
theorem Rd.more {B':Nat} (h:Rd w B size A n xs) (hB:B≤B'):Rd w B' size A n xs:=
 ⟨h.1,fun h0=>by
  obtain⟨g,off,e,hb,hc⟩:=h.2 h0
  exact⟨g,off,e,by omega,hc⟩⟩
theorem Rd.below (h:Rd w B size A n xs) (hb:Below B w w'):Rd w' B size A n xs:=
 ⟨h.1,fun h0=>by
  obtain⟨g,off,e,hg,hc⟩:=h.2 h0
  exact⟨g,off,e,hg,fun j u hu=>(hb.cell (p:=⟨g,off+j,none⟩) hg).trans (hc j u hu)⟩⟩
theorem Rd.of_own {base:Nat} {e:TypeId} {c:Nat} (h:w.ownsRow base e size (.slice A n c) n xs):Rd w w.heap.size size A n xs:=by
 refine⟨h.1,fun hn=>?_⟩
 obtain⟨g,cap,hv,_,hlt⟩:=h.form hn
 have hA:A=some ⟨g,0,none⟩:=by injection hv
 subst hA
 exact⟨g,0,rfl,hlt,fun j u hu=>by have:=h.cells (g:=g) rfl j u hu;rwa [Addr.add_lit] at this⟩
theorem Rd.lit (w:World) (cs:Array Value) (e:TypeId) (n size:Nat) (hs:cs.size=n*size):Rd (w.alloc (.cells cs e)) (w.heap.size+1) size (some ⟨w.heap.size,0,none⟩) n cs.toList:=
 ⟨by simpa using hs,fun _=>⟨w.heap.size,0,rfl,by omega,fun j u hu=>by
  have:=(Blk.new w e cs).cell j
  rw[Nat.zero_add,this]
  simpa using hu⟩⟩
theorem Rd.at1 {k:Nat} (h:Rd w B 1 A n xs) (hk:k<n):∃ g off u,A=some ⟨g,off,none⟩∧g<B∧xs[k]? = some u∧w.cell? ⟨g,off+k,none⟩=some u:=by
 obtain⟨g,off,e,hb,hc⟩:=h.2 (by omega)
 have hl:k<xs.length:=by have:=h.1;omega
 exact⟨g,off,xs[k],e,hb,List.getElem?_eq_getElem hl,hc k _ (List.getElem?_eq_getElem hl)⟩
end
def Moved (w w':World) (b b':Option Nat):Prop:=Fr (fun k=>some k=b) w w'∧(b'=b∨∃ g,b'=some g∧w.heap.size≤g)
theorem Moved.trans {a b c:World} {x y z:Option Nat} (h:Moved a b x y) (k:Moved b c y z):Moved a c x z:=by
 obtain⟨h1,h2⟩:=h
 obtain⟨k1,k2⟩:=k
 refine⟨h1.trans' k1 (fun i hi hy=>?_),?_⟩
 ·rcases h2 with h2|⟨g,h2,hg⟩
  ·rw[h2] at hy;exact hy
  ·rw[h2] at hy;injection hy;omega
 ·rcases k2 with k2|⟨g,k2,hg⟩
  ·rw[k2];exact h2
  ·exact .inr ⟨g,k2,Nat.le_trans h1.size hg⟩
theorem Moved.alloc (w:World) (o:Obj) (b:Option Nat):Moved w (w.alloc o) b b:=⟨(Fr.refl _ _).alloc o,.inl rfl⟩
theorem Moved.below {w w':World} {b b':Option Nat} {B:Nat} (h:Moved w w' b b') (hb:∀ g,b=some g→B≤g) (hB:B≤w.heap.size):Below B w w':=h.1.below (fun i hi=>hb i hi.symm) hB
theorem Moved.of_append {w w':World} {v v':Value} (hg:w.grownBy w' v.ownBlock) (hat:v'.ownBlock=v.ownBlock∨v'.ownBlock=some w.heap.size):Moved w w' v.ownBlock v'.ownBlock:=by
 refine⟨Fr.of_grown hg (fun k hk=>hk.symm),?_⟩
 rcases hat with h|h
 ·exact .inl h
 ·exact .inr ⟨_,h,Nat.le_refl _⟩
theorem q0h {P:Program} (w:World) (o1:Obj) {ops:Array Oper} {rest:List Oper} {o:Oper} {a:Act} {Q:Exit→Act→World→Prop} (hgd:o.guard=none) (s x:Operand) (t:TypeId)
  (ho:o.op=.call { callee:=.builtin .append,args:=#[s,x],argTypes:=#[t,t] })
  (base:Nat) (e:TypeId) (z:Value) (size bytes:Nat) (ht:P.underlying t=some (.slice e)) (hi:(P.info? e).map (fun i=>(i.zero,i.size,i.bytes))=some (some z,size,bytes)) (hzs:z.cells.size=size) (hs0:0<size)
  (v:Value) (n:Nat) (xs:List Value) (ys:Array Value) (hs:a.eval s=v) (hown:w.ownsRow base e size v n xs)
  (c:Nat) (hx:a.eval x=.slice (some ⟨w.heap.size,0,none⟩) 1 c) (e1:TypeId) (hon:o1=.cells ys e1) (hys:ys.size=size) (h1:∀ u∈ys.toList,u.oneCell'=true)
  (h63:n+1≤maxLen) (hbytes:(n+1)*bytes≤140737488355328) (hbase:base≤w.heap.size)
  (h:∀ v' w',w'.ownsRow base e size v' (n+1) (xs++ys.toList)→Moved w w' v.ownBlock v'.ownBlock→wpList P ops Q rest (a.put o.dst v') w') :
  wpList P ops Q (o::rest) a (w.alloc o1):=by
 obtain⟨i,hi,hz,hsize,hby⟩:=info_parts hi
 subst hon
 refine wpList_append_own_at _ hgd s x t ho base e i z size bytes ht hi hz hsize hby hzs hs0 v n xs hs (hown.alloc _) ⟨w.heap.size,0,none⟩ 1 c ys.toList hx (by simp[hys]) (fun j u hu=>?_) h1 h63 hbytes (by simp;omega)
  fun v' w' hown' hg _ hat=>h v' w' hown' ((Moved.alloc w _ _).trans (Moved.of_append hg hat))
 have hadd:(⟨w.heap.size,0,none⟩:Addr).add j=⟨w.heap.size,j,none⟩:=by unfold Addr.add;split <;> simp_all
 rw[hadd,(Blk.new w e1 ys).cell j]
 simpa using hu
theorem q1u {P:Program} (w:World) {ops:Array Oper} {rest:List Oper} {o:Oper} {a:Act} {Q:Exit→Act→World→Prop} (hgd:o.guard=none) (s x:Operand) (t:TypeId)
  (ho:o.op=.call { callee:=.builtin .append,args:=#[s,x],argTypes:=#[t,t] })
  (base:Nat) (e:TypeId) (z:Value) (size bytes:Nat) (ht:P.underlying t=some (.slice e)) (hi:(P.info? e).map (fun i=>(i.zero,i.size,i.bytes))=some (some z,size,bytes)) (hzs:z.cells.size=size) (hs0:0<size)
  (v:Value) (n:Nat) (xs:List Value) (hs:a.eval s=v) (hown:w.ownsRow base e size v n xs)
  (B:Nat) (A:Option Addr) (m c:Nat) (news:List Value) (hx:a.eval x=.slice A m c) (hr:Reads w B size A m news) (h1:∀ u∈news,u.oneCell'=true)
  (h63:n+m≤maxLen) (hbytes:(n+m)*bytes≤140737488355328) (hbase:base≤w.heap.size)
  (h:∀ v' w',w'.ownsRow base e size v' (n+m) (xs++news)→Moved w w' v.ownBlock v'.ownBlock→wpList P ops Q rest (a.put o.dst v') w') :
  wpList P ops Q (o::rest) a w:=by
 obtain⟨i,hi,hz,hsize,hby⟩:=info_parts hi
 exact q5o w hgd s x t ho base e i z size bytes ht hi hz hsize hby hzs hs0 v n xs hs hown B A m c news hx hr h1 h63 hbytes hbase
  fun v' w' hown' hg hat=>h v' w' hown' (Moved.of_append hg hat)
theorem q01 {w:World} {base e size n:Nat} {v:Value} {xs:List Value} (h:w.ownsRow base e size v n xs):∃ A c,v=.slice A n c∧n≤c∧(∀ ad,A=some ad→v.ownBlock=some ad.block):=by
 rcases h.2 with ⟨rfl,rfl⟩|⟨g,cap,cur,rfl,_,_,hn,_⟩
 ·exact⟨none,0,rfl,Nat.le_refl _,fun ad h=>by cases h⟩
 ·exact⟨_,_,rfl,hn,fun ad h=>by injection h with h;subst h;rfl⟩
section
open Go.RowKit Go.Maps Go.WideMaps
structure KeyC (P:Program) (kt:TypeId) (κ:Type) where
 law:Keyed P kt
 kl:κ→Lit
 val:κ→Value
 ok:κ→Prop
 mkk:∀ x,ok x→keyOf P kt (val x)=some (kl x)
 inv:∀ v l,keyOf P kt v=some l→∃ x,ok x∧v=val x∧l=kl x
 inj:∀ x y,kl x=kl y→x=y
def keyI {P:Program} {kt:TypeId} (h:P.underlying kt=some (.int .i64)):KeyC P kt Int where
 law:=int_keyed h
 kl x:=.int .i64 x
 val x:=.int .i64 x
 ok x:=(Lit.int .i64 x).wf=true
 mkk x hx:=keyOf_int_mk h hx
 inv v l hv:=by obtain⟨x,h1,h2,h3⟩:=Maps.keyOf_int_inv h hv;exact⟨x,h3,h1,h2⟩
 inj x y e:=by injection e
def keyS {P:Program} {kt:TypeId} (h:P.underlying kt=some .string):KeyC P kt ByteArray where
 law:=string_keyed h
 kl s:=.string s.data.toList
 val s:=.string s
 ok s:=s.size≤maxLen
 mkk s hs:=keyOf_string_mk h hs
 inv v l hv:=by
  cases v <;> simp[keyOf,h,mapKey] at hv
  rename_i s
  exact⟨s,hv.1,rfl,hv.2.symm⟩
 inj s t e:=by
  injection e with e
  have:s.data=t.data:=Array.ext' e
  cases s;cases t;simp_all
def heldR (v:Value):Option (DataW Value×List MemPlace):=some (.held v,[])
section
variable {P:Program} {kt:TypeId} {κ:Type}
theorem KeyC.key (C:KeyC P kt κ) {x:κ} (hx:C.ok x):WideAt.IsKeyLit (C.kl x):=C.law.key (C.mkk x hx)
def ViewG (C:KeyC P kt κ) (D:DataW Value) (m:κ→Option Value):Prop:=
 ∀ x,C.ok x→Maps.has D (C.kl x)=(m x).isSome∧∀ v,m x=some v→∀ z,D.atKey (C.kl x) z=.held v
def MapG (C:KeyC P kt κ) (w:World) (b n:Nat) (m:κ→Option Value):Prop:=∃ D:DataW Value,w.ownsMap P kt heldR b n D∧ViewG C D m
variable {C:KeyC P kt κ} {w w':World} {b n:Nat} {m:κ→Option Value}
theorem MapG.lt (h:MapG C w b n m):b<w.heap.size:=by obtain⟨D,h,_⟩:=h;exact h.lt
theorem MapG.mono (h:MapG C w b n m) {n':Nat} (hn:n≤n'):MapG C w b n' m:=by obtain⟨D,h,hv⟩:=h;exact⟨D,h.mono hn,hv⟩
theorem MapG.of_block (h:MapG C w b n m) (e:w'.heap[b]? = w.heap[b]?):MapG C w' b n m:=by
 obtain⟨D,⟨es,clock,hb,r⟩,hv⟩:=h
 exact⟨D,⟨es,clock,e.trans hb,r⟩,hv⟩
theorem MapG.fr {S:Nat→Prop} (h:MapG C w b n m) (hf:Fr S w w') (hn:¬S b):MapG C w' b n m:=h.of_block (hf.block b h.lt hn)
theorem MapG.below {B:Nat} (h:MapG C w b n m) (hb:Below B w w') (hB:b<B):MapG C w' b n m:=h.of_block (hb.block b hB)
theorem MapG.drewN (h:MapG C w b n m) (k:Nat):MapG C (w.drewN k) b n m:=h
theorem MapG.alloc (h:MapG C w b n m) (o:Obj):MapG C (w.alloc o) b n m:=h.fr (S:=fun _=>False) ((Fr.refl _ _).alloc o) (fun x=>x)
theorem MapG.notBlk {g:Nat} {t:TypeId} {cs:Array Value} (h:MapG C w b n m) (hb:Blk w g t cs):b≠g:=by
 rintro rfl
 obtain⟨D,⟨es,clock,e,_⟩,_⟩:=h
 unfold Blk at hb
 rw[e] at hb
 cases hb
theorem MapG.notOwn {base size k:Nat} {e:TypeId} {v:Value} {xs:List Value} (h:MapG C w b n m) (ho:w.ownsRow base e size v k xs):v.ownBlock≠some b:=by
 rcases ho.2 with ⟨rfl,_⟩|⟨g,cap,cur,rfl,_,hh,_⟩
 ·simp[Value.ownBlock]
 ·intro he
  have:g=b:=by simpa [Value.ownBlock] using he
  subst this
  obtain⟨D,⟨es,clock,e,_⟩,_⟩:=h
  rw[e] at hh
  cases hh
theorem viewG_empty (C:KeyC P kt κ):ViewG C (.map []) (fun _=>none):=fun s _=>⟨rfl,fun v h=>by cases h⟩
theorem MapG.made (C:KeyC P kt κ) (w:World):MapG C (w.alloc (.map #[] 0)) w.heap.size 0 (fun _=>none):=⟨_,World.ownsMap_made w _ _ _,viewG_empty C⟩
open Classical in
noncomputable def putM (m:κ→Option Value) (x:κ) (v:Option Value):κ→Option Value:=fun y=>if y=x then v else m y
theorem q3d (m:κ→Option Value) (x:κ) (v:Option Value):putM m x v x=v:=by unfold putM;rw[if_pos rfl]
theorem q60 {m:κ→Option Value} {x y:κ} (h:y≠x) (v:Option Value):putM m x v y=m y:=by unfold putM;rw[if_neg h]
theorem ViewG.set {D:DataW Value} (h:ViewG C D m) (hD:IsMap D) (x:κ) (v:Value):ViewG C (D.put (C.kl x) (.held v)) (putM m x (some v)):=fun t ht=>by
 by_cases e:t=x
 ·subst e
  rw[has_put_same hD (C.key ht),q3d]
  refine⟨rfl,fun u hu z=>?_⟩
  rw[atKey_put_same hD (C.key ht)]
  injection hu with hu
  rw[hu]
 ·have hne:C.kl t≠C.kl x:=fun h2=>e (C.inj _ _ h2)
  rw[has_put_other hne,q60 e]
  refine⟨(h t ht).1,fun u hu z=>?_⟩
  rw[atKey_put_other hne]
  exact(h t ht).2 u hu z
theorem ViewG.del {D:DataW Value} (h:ViewG C D m) (x:κ):ViewG C (D.del (C.kl x)) (putM m x none):=fun t ht=>by
 by_cases e:t=x
 ·subst e
  rw[has_del_same,q3d]
  exact⟨rfl,fun u hu z=>by cases hu⟩
 ·have hne:C.kl t≠C.kl x:=fun h2=>e (C.inj _ _ h2)
  rw[has_del_other hne,q60 e]
  refine⟨(h t ht).1,fun u hu z=>?_⟩
  rw[atKey_del_other hne]
  exact(h t ht).2 u hu z
theorem heldR_eq {v:Value} {d:DataW Value} {ps:List MemPlace} (h:heldR v=some (d,ps)):d=.held v:=by
 unfold heldR at h
 injection h with h
 injection h with h _
 exact h.symm
theorem MapG.look (h:MapG C w b n m) {t e:TypeId} (ht:P.underlying t=some (.map kt e)) {z:Value} (hz:(zeroValue e).run P w=.ok z w) {x:κ} (hx:C.ok x) :
  (Instr.lookup t (.map (some b)) (C.val x) true).run P w=.ok (.tuple #[(m x).getD z,.bool (m x).isSome]) w∧(Instr.lookup t (.map (some b)) (C.val x) false).run P w=.ok ((m x).getD z) w:=by
 obtain⟨D,ho,hv⟩:=h
 obtain⟨h1,h2⟩:=hv x hx
 have hval:∀ (v:Value) (ps:List MemPlace),heldR v=some (D.atKey (C.kl x) (.held z),ps)→v=(m x).getD z:=fun v ps hR=>by
  have e:=heldR_eq hR
  rcases hm:m x with _|y
  ·rw[atKey_of_not_has (by rw[h1,hm];rfl)] at e
   injection e with e
   exact e.symm
  ·rw[h2 y hm] at e
   injection e with e
   exact e.symm
 obtain⟨v,ps,hrun,hR⟩:=ho.look_ok C.law ht hz (zd:=.held z) (zp:=[]) rfl (C.mkk x hx)
 obtain⟨v',ps',hrun',hR'⟩:=ho.lookup C.law ht hz (zd:=.held z) (zp:=[]) rfl (C.mkk x hx)
 rw[hrun,hrun',hval v ps hR,hval v' ps' hR',h1]
 exact⟨rfl,rfl⟩
theorem look_nilG (C:KeyC P kt κ) (w:World) {t e:TypeId} (ht:P.underlying t=some (.map kt e)) {z:Value} (hz:(zeroValue e).run P w=.ok z w) {x:κ} (hx:C.ok x) :
  (Instr.lookup t (.map none) (C.val x) true).run P w=.ok (.tuple #[z,.bool false]) w∧(Instr.lookup t (.map none) (C.val x) false).run P w=.ok z w:=
 ⟨Maps.look_nil true C.law ht hz (C.mkk x hx),Maps.look_nil false C.law ht hz (C.mkk x hx)⟩
theorem MapG.len (h:MapG C w b n m) {t e:TypeId} (ht:P.underlying t=some (.map kt e)):∃ k:Nat,(∀ ty,(Builtin.len_ #[t] ty #[.map (some b)]).run P w=.ok (.int .i64 k) w)∧k≤n∧(k=0↔∀ x,C.ok x→m x=none):=by
 obtain⟨D,ho,hv⟩:=h
 refine⟨Maps.size D,fun ty=>ho.len ht ty,ho.size_le,fun h0 x hx=>?_,fun h0=>?_⟩
 ·have h1:=(hv x hx).1
  obtain⟨es,rfl⟩:=ho.isMap
  have:es=[]:=List.eq_nil_of_length_eq_zero h0
  subst this
  rcases hm:m x with _|y
  ·rfl
  ·rw[hm] at h1;cases h1
 ·obtain⟨es,hD,_,hk⟩:=ho.entries C.law
  obtain⟨es0,clock,hb,F,hs,hD2⟩:=ho
  rcases es with _|⟨p,es⟩
  ·rw[hD];rfl
  ·exfalso
   have hkeys:=Maps.fit_keys F
   have hp:p∈(es0.toList.map (Go.WideElems.rg P kt heldR)):=by
    have:p∈((es0.toList.map (Go.WideElems.rg P kt heldR)).foldr DataW.insert []):=by
     have e:DataW.map ((es0.toList.map (Go.WideElems.rg P kt heldR)).foldr DataW.insert [])=.map (p::es):=hD2.symm.trans hD
     injection e with e
     rw[e]
     exact List.mem_cons_self ..
    exact mem_sorted.1 this
   obtain⟨v,hv2⟩:=hkeys p hp
   obtain⟨x,hx,_,e2⟩:=C.inv v _ hv2
   have h1:=(hv x hx).1
   rw[h0 x hx,hD] at h1
   have:Maps.has (DataW.map (p::es)) (C.kl x)=true:=by
    rw[has_eq,List.any_cons,← e2,WideAt.sameKey_self (by rw[e2];exact C.key hx)]
    rfl
   rw[this] at h1
   cases h1
theorem MapG.turned (hf:w.grownBy w' (some b)):Fr (fun k=>k=b) w w':=Fr.of_grown hf (fun _k e=>(Option.some.inj e).symm)
theorem MapG.store (h:MapG C w b n m) {t e:TypeId} (ht:P.underlying t=some (.map kt e)) (hn:n<maxLen) {x:κ} (hx:C.ok x) (v:Value) :
  ∃ w',(Instr.mapUpdate t (.map (some b)) (C.val x) v).run P w=.ok () w'∧MapG C w' b (n+1) (putM m x (some v))∧Fr (fun k=>k=b) w w':=by
 obtain⟨D,ho,hview⟩:=h
 obtain⟨w',hrun,r1,r2⟩:=ho.update C.law ht hn (C.mkk x hx) (d:=.held v) (ps:=[]) rfl
 exact⟨w',hrun,⟨_,r1,hview.set ho.isMap x v⟩,MapG.turned r2⟩
theorem MapG.drop (h:MapG C w b n m) {t e:TypeId} (ht:P.underlying t=some (.map kt e)) {x:κ} (hx:C.ok x) (ty:TypeId) :
  ∃ w',(Builtin.delete_ #[t,kt] ty #[.map (some b),C.val x]).run P w=.ok (.tuple #[]) w'∧MapG C w' b n (putM m x none)∧Fr (fun k=>k=b) w w':=by
 obtain⟨D,ho,hview⟩:=h
 obtain⟨w',hrun,r1,r2⟩:=ho.drop C.law ht (C.mkk x hx) ty
 exact⟨w',hrun,⟨_,r1,hview.del x⟩,MapG.turned r2.grown⟩
def q0z (C:KeyC P kt κ) (w:World) (b r n:Nat) (m:κ→Option Value) (left:κ→Bool) (cnt:Nat):Prop:=
 ∃ (D:DataW Value) (l:Lit→Bool),w.ranges P kt heldR b r n D l cnt∧ViewG C D m∧∀ x,C.ok x→l (C.kl x)=left x
variable {r cnt:Nat} {left:κ→Bool}
theorem q0z.owns (h:q0z C w b r n m left cnt):MapG C w b n m:=by obtain⟨D,l,hr,hv,_⟩:=h;exact⟨D,hr.owns,hv⟩
theorem q0z.lt (h:q0z C w b r n m left cnt):r<w.heap.size:=by obtain⟨D,l,hr,hv,_⟩:=h;exact hr.lt
theorem q0z.of_blocks (h:q0z C w b r n m left cnt) (e:w'.heap[b]? = w.heap[b]?) (e2:w'.heap[r]? = w.heap[r]?):q0z C w' b r n m left cnt:=by
 obtain⟨D,l,⟨es,clock,since,seen,c0,hb,h1,h2,h3,hr,h4⟩,hv⟩:=h
 exact⟨D,l,⟨es,clock,since,seen,c0,e.trans hb,h1,h2,h3,e2.trans hr,h4⟩,hv⟩
theorem q0z.fr {S:Nat→Prop} (h:q0z C w b r n m left cnt) (hf:Fr S w w') (hn:¬S b) (hr:¬S r):q0z C w' b r n m left cnt:=
 h.of_blocks (hf.block b h.owns.lt hn) (hf.block r h.lt hr)
theorem MapG.range (h:MapG C w b n m) {t e:TypeId} (ht:P.underlying t=some (.map kt e)) :
  ∃ w' cnt,(Instr.range t (.map (some b))).run P w=.ok (.pointer (some ⟨w.heap.size,0,none⟩)) w'∧q0z C w' b w.heap.size n m (fun x=>(m x).isSome) cnt∧Fr (fun _=>False) w w'∧w'.heap.size=w.heap.size+1:=by
 obtain⟨D,ho,hv⟩:=h
 obtain⟨w',hrun,r1,r2,r3⟩:=ho.range C.law ht
 exact⟨w',_,hrun,⟨D,_,r1,hv,fun x hx=>(hv x hx).1⟩,Fr.of_grown r2 (fun _ e=>by cases e),r3⟩
open Classical in
theorem q0z.next (h:q0z C w b r n m left cnt) (ty:TypeId) :
  (cnt=0∧(∀ x,C.ok x→left x=false)∧(Instr.next (.pointer (some ⟨r,0,none⟩)) false ty).run P w=.ok (.tuple #[.bool false]) w)∨
  ∃ x v w' cnt',C.ok x∧left x=true∧m x=some v∧(Instr.next (.pointer (some ⟨r,0,none⟩)) false ty).run P w=.ok (.tuple #[.bool true,C.val x,v]) w'∧
   q0z C w' b r n m (fun y=>left y && !decide (y=x)) cnt'∧cnt'<cnt∧Fr (fun k=>k=r) w w'∧w'.heap.size=w.heap.size∧(Instr.entry (.pointer (some ⟨r,0,none⟩))).run P w'=.ok (.tuple #[C.val x,v]) w':=by
 obtain⟨D,l,hr,hv,hl⟩:=h
 rcases hr.next C.law ty with ⟨h0,h1,h2⟩|⟨key,v,kl,y,w',cnt',hkey,hlk,hv2,hat,hrun,hrg,hlt,hgr,hsz,hen⟩
 ·exact .inl ⟨h0,fun x hx=>by rw[← hl x hx,h1],h2⟩
 ·obtain⟨x,hx,rfl,rfl⟩:=C.inv key kl hkey
  obtain⟨h1,h2⟩:=hv x hx
  have hy:y=(.held v,[]):=by unfold heldR at hv2;injection hv2 with hv2;exact hv2.symm
  subst hy
  have hm:m x=some v:=by
   rw[has_true_of_atKey hat] at h1
   obtain⟨u,hu⟩:=Option.isSome_iff_exists.1 h1.symm
   have:=(h2 u hu (.held v)).symm.trans (hat (.held v))
   injection this with this
   rw[hu,this]
  refine .inr ⟨x,v,w',cnt',hx,by rw[← hl x hx];exact hlk,hm,hrun,⟨D,_,hrg,hv,fun y hy=>?_⟩,hlt,MapG.turned hgr,hsz,hen⟩
  rw[hl y hy]
  by_cases e:y=x
  ·subst e
   rw[WideAt.sameKey_self (C.key hy)]
   simp
  ·rw[sameKey_ne (fun e2=>e (C.inj _ _ e2))]
   simp[e]
end
section
variable {P:Program} {kt:TypeId} {κ:Type} {C:KeyC P kt κ} {w:World} {ops:Array Oper} {rest:List Oper} {o:Oper} {a:Act} {Q:Exit→Act→World→Prop} {K:Act→World→Prop} {b n:Nat} {m:κ→Option Value}
theorem wp_setG (t e:TypeId) (ht:P.underlying t=some (.map kt e)) (mo x v:Operand) (hop:o.op=Op.mapUpdate t mo x v) (hm:a.eval mo=.map (some b)) (hown:MapG C w b n m) (hn:n<maxLen) (key:κ) (val:Value) (hx:a.eval x=C.val key) (hv:a.eval v=val)
  (hk:C.ok key) (hK:∀ w',MapG C w' b (n+1) (putM m key (some val))→Fr (fun k=>k=b) w w'→K (a.put o.dst undef) w'):o.wp P a w K Q:=by
 obtain⟨w',hrun,r1,r2⟩:=hown.store ht hn hk val
 unfold Oper.wp
 simp[execOp,hop,hm,hx,hv,hrun,Result.andThen]
 exact hK _ r1 r2
theorem q0k (hg:o.guard=none) (t e:TypeId) (ht:P.underlying t=some (.map kt e)) (mo x v:Operand) (hop:o.op=Op.mapUpdate t mo x v) (hm:a.eval mo=.map (some b)) (hown:MapG C w b n m) (hn:n<maxLen) (key:κ) (val:Value) (hx:a.eval x=C.val key) (hv:a.eval v=val)
  (hk:C.ok key) (hK:∀ w',MapG C w' b (n+1) (putM m key (some val))→Fr (fun k=>k=b) w w'→wpList P ops Q rest (a.put o.dst undef) w'):wpList P ops Q (o::rest) a w:=
 wpList_plain hg fun _ hK'=>wp_setG t e ht mo x v hop hm hown hn key val hx hv hk fun w' h1 h2=>hK' _ _ (hK w' h1 h2)
theorem wp_delG (t e:TypeId) (ht:P.underlying t=some (.map kt e)) (mo x:Operand) (hop:o.op=Op.call { callee:=Callee.builtin Builtin.delete,args:=#[mo,x],argTypes:=#[t,kt] }) (hm:a.eval mo=.map (some b)) (hown:MapG C w b n m) (key:κ) (hx:a.eval x=C.val key)
  (hk:C.ok key) (hK:∀ w',MapG C w' b n (putM m key none)→Fr (fun k=>k=b) w w'→K (a.put o.dst (.tuple #[])) w'):o.wp P a w K Q:=by
 obtain⟨w',hrun,r1,r2⟩:=hown.drop ht hk o.type
 unfold Oper.wp
 simp[execOp,hop,resolve,invoke,builtin,hm,hx,hrun,Result.andThen]
 exact hK _ r1 r2
theorem wpList_delG (hg:o.guard=none) (t e:TypeId) (ht:P.underlying t=some (.map kt e)) (mo x:Operand) (hop:o.op=Op.call { callee:=Callee.builtin Builtin.delete,args:=#[mo,x],argTypes:=#[t,kt] }) (hm:a.eval mo=.map (some b)) (hown:MapG C w b n m) (key:κ) (hx:a.eval x=C.val key)
  (hk:C.ok key) (hK:∀ w',MapG C w' b n (putM m key none)→Fr (fun k=>k=b) w w'→wpList P ops Q rest (a.put o.dst (.tuple #[])) w'):wpList P ops Q (o::rest) a w:=
 wpList_plain hg fun _ hK'=>wp_delG t e ht mo x hop hm hown key hx hk fun w' h1 h2=>hK' _ _ (hK w' h1 h2)
end
end
def enc (n:Nat):List Nat:=if n<128 then [n] else(n % 128+128)::enc (n / 128)
termination_by n
decreasing_by omega
def strOf (l:List Nat):ByteArray:=⟨(l.map UInt8.ofNat).toArray⟩
structure Pr where
 key:ByteArray
 val:ByteArray
 gone:Bool
structure Cm where
 kind:Int
 tx:Int
 time:Int
 writes:List Pr
structure Ms where
 kind:Int
 from_:Int
 to_:Int
 epoch:Int
 n:Int
 cmd:Cm
def small (p:Pr):Prop:=p.key.size≤1048576∧p.val.size≤1048576
def q0g (p:Pr):List Value:=[.string p.key,.string p.val,.bool p.gone]
theorem flat_get:∀ (l:List Pr) (j:Nat) (p:Pr),l[j]? = some p→(l.flatMap q0g)[j*3]? = some (.string p.key)∧(l.flatMap q0g)[j*3+1]? = some (.string p.val)∧(l.flatMap q0g)[j*3+2]? = some (.bool p.gone)
 | [],j,p,h=>by simp at h
 | q::l,0,p,h=>by
  simp at h
  subst h
  simp[q0g]
 | q::l,j+1,p,h=>by
  have h':l[j]? = some p:=by simpa using h
  obtain⟨a,b,c⟩:=flat_get l j p h'
  have e:∀ i,((q::l).flatMap q0g)[(j+1)*3+i]? = (l.flatMap q0g)[j*3+i]?:=fun i=>by
   have:(j+1)*3+i=(j*3+i)+3:=by omega
   rw[this,List.flatMap_cons]
   rw[List.getElem?_append_right (by simp[q0g])]
   simp[q0g]
  exact⟨by simpa using (e 0).trans (by simpa using a),(e 1).trans b,(e 2).trans c⟩
def q1k (w:World) (B:Nat) (A:Option Addr) (n:Nat) (l:List Pr):Prop:=l.length=n∧Rd w B 3 A n (l.flatMap q0g)
theorem q1k.at_ {w:World} {B n k:Nat} {A:Option Addr} {l:List Pr} (h:q1k w B A n l) (hk:k<n):∃ g off p,A=some ⟨g,off,none⟩∧g<B∧l[k]? = some p∧
  w.cell? ⟨g,off+k*3,none⟩=some (.string p.key)∧w.cell? ⟨g,off+k*3+1,none⟩=some (.string p.val)∧w.cell? ⟨g,off+k*3+2,none⟩=some (.bool p.gone):=by
 obtain⟨g,off,e,hb,hc⟩:=h.2.2 (by omega)
 have hl:k<l.length:=by rw[h.1];exact hk
 have hp:l[k]? = some l[k]:=List.getElem?_eq_getElem hl
 obtain⟨a,b,c⟩:=flat_get l k _ hp
 exact⟨g,off,l[k],e,hb,hp,hc _ _ a,hc _ _ b,hc _ _ c⟩
theorem q1k.fr {S:Nat→Prop} {w w':World} {B n:Nat} {A:Option Addr} {l:List Pr} (h:q1k w B A n l) (hf:Fr S w w') (hB:B≤w.heap.size) (hn:∀ g off,A=some ⟨g,off,none⟩→0<n→¬S g):q1k w' B A n l:=⟨h.1,h.2.fr hf hB hn⟩
def cmdV (c:Cm) (A:Option Addr) (n k:Nat):Value:=.agg #[.int .i64 c.kind,.int .i64 c.tx,.int .i64 c.time,.slice A n k]
def q04 (m:Ms) (A:Option Addr) (n k:Nat):Array Value:=#[.int .i64 m.kind,.int .i64 m.from_,.int .i64 m.to_,.int .i64 m.epoch,.int .i64 m.n,.int .i64 m.cmd.kind,.int .i64 m.cmd.tx,.int .i64 m.cmd.time,.slice A n k]
def msgV (m:Ms) (A:Option Addr) (n k:Nat):Value:=.agg #[.int .i64 m.kind,.int .i64 m.from_,.int .i64 m.to_,.int .i64 m.epoch,.int .i64 m.n,.int .i64 m.cmd.kind,.int .i64 m.cmd.tx,.int .i64 m.cmd.time,.slice A n k]
structure CmR where
 c:Cm
 A:Option Addr
 n:Nat
 k:Nat
def q0m (x:CmR):List Value:=[.int .i64 x.c.kind,.int .i64 x.c.tx,.int .i64 x.c.time,.slice x.A x.n x.k]
def q6n (w:World) (B:Nat) (A:Option Addr) (n:Nat) (l:List CmR):Prop:=l.length=n∧Rd w B 4 A n (l.flatMap q0m)∧∀ x∈l,q1k w B x.A x.n x.c.writes
theorem flat4:∀ (l:List CmR) (j:Nat) (x:CmR),l[j]? = some x→(l.flatMap q0m)[j*4]? = some (.int .i64 x.c.kind)∧(l.flatMap q0m)[j*4+1]? = some (.int .i64 x.c.tx)∧(l.flatMap q0m)[j*4+2]? = some (.int .i64 x.c.time)∧(l.flatMap q0m)[j*4+3]? = some (.slice x.A x.n x.k)
 | [],j,p,h=>by simp at h
 | q::l,0,p,h=>by
  simp at h
  subst h
  simp[q0m]
 | q::l,j+1,p,h=>by
  have h':l[j]? = some p:=by simpa using h
  obtain⟨a,b,c,d⟩:=flat4 l j p h'
  have e:∀ i,((q::l).flatMap q0m)[(j+1)*4+i]? = (l.flatMap q0m)[j*4+i]?:=fun i=>by
   have:(j+1)*4+i=(j*4+i)+4:=by omega
   rw[this,List.flatMap_cons]
   rw[List.getElem?_append_right (by simp[q0m])]
   simp[q0m]
  exact⟨by simpa using (e 0).trans (by simpa using a),(e 1).trans b,(e 2).trans c,(e 3).trans d⟩
theorem q6n.at_ {w:World} {B n k:Nat} {A:Option Addr} {l:List CmR} (h:q6n w B A n l) (hk:k<n):∃ g off x,A=some ⟨g,off,none⟩∧g<B∧l[k]? = some x∧
  w.cell? ⟨g,off+k*4,none⟩=some (.int .i64 x.c.kind)∧w.cell? ⟨g,off+k*4+1,none⟩=some (.int .i64 x.c.tx)∧w.cell? ⟨g,off+k*4+2,none⟩=some (.int .i64 x.c.time)∧w.cell? ⟨g,off+k*4+3,none⟩=some (.slice x.A x.n x.k)∧q1k w B x.A x.n x.c.writes:=by
 obtain⟨g,off,e,hb,hc⟩:=h.2.1.2 (by omega)
 have hl:k<l.length:=by rw[h.1];exact hk
 have hp:l[k]? = some l[k]:=List.getElem?_eq_getElem hl
 obtain⟨a,b,c,d⟩:=flat4 l k _ hp
 exact⟨g,off,l[k],e,hb,hp,hc _ _ a,hc _ _ b,hc _ _ c,hc _ _ d,h.2.2 _ (List.getElem_mem hl)⟩
theorem q6n.below {w w':World} {B n:Nat} {A:Option Addr} {l:List CmR} (h:q6n w B A n l) (hb:Below B w w'):q6n w' B A n l:=⟨h.1,h.2.1.below hb,fun x hx=>⟨(h.2.2 x hx).1,(h.2.2 x hx).2.below hb⟩⟩
def csOf (l:List CmR):List Cm:=l.map (·.c)
theorem q17 {w:World} {base base' e size n:Nat} {v:Value} {xs:List Value} (h:w.ownsRow base e size v n xs) (hb:base'≤base):w.ownsRow base' e size v n xs:=
 ⟨h.1,h.2.imp id fun⟨g,cap,cur,h1,h2,r⟩=>⟨g,cap,cur,h1,Nat.le_trans hb h2,r⟩⟩
structure NetS where
 l:List Ms
 dead:Int→Bool
def stopB (s:NetS) (m:Ms):Bool:=s.dead m.from_ || s.dead m.to_ || decide (s.l.length=200)
def sendS (s:NetS) (m:Ms):NetS:=if stopB s m then s else { s with l:=s.l++[m] }
def q0o (s:NetS) (ms:List Ms):NetS:=ms.foldl sendS s
def takeS (s:NetS) (k:Nat):NetS:={ s with l:=s.l.eraseIdx k }
def gone (id:Int) (m:Ms):Bool:=decide (m.from_=id) || decide (m.to_=id)
def downS (s:NetS) (id:Int):NetS:=⟨s.l.filter (fun m=>!gone id m),fun i=>decide (i=id) || s.dead i⟩
theorem q5v (s:NetS) (m:Ms):(sendS s m).dead=s.dead:=by unfold sendS;split <;> rfl
theorem q20:∀ (ms:List Ms) (s:NetS),(q0o s ms).dead=s.dead
 | [],_=>rfl
 | m::ms,s=>(q20 ms (sendS s m)).trans (q5v s m)
theorem q7c (s:NetS) (ms:List Ms) (m:Ms):q0o s (ms++[m])=sendS (q0o s ms) m:=by simp[q0o,List.foldl_append]
structure MsR where
 m:Ms
 A:Option Addr
 n:Nat
 k:Nat
def q0c (x:MsR):List Value:=(q04 x.m x.A x.n x.k).toList
theorem q21 (x:MsR):(q0c x).length=9:=rfl
def msOf (l:List MsR):List Ms:=l.map (·.m)
def ReadsM (w:World) (N:Nat→Prop) (A:Option Addr) (n:Nat) (l:List MsR):Prop:=
 l.length=n∧Rd w w.heap.size 9 A n (l.flatMap q0c)∧(∀ g off,A=some ⟨g,off,none⟩→0<n→¬N g)∧
  ∀ x∈l,q1k w w.heap.size x.A x.n x.m.cmd.writes∧∀ g off,x.A=some ⟨g,off,none⟩→0<x.n→¬N g
def OwnW (w:World) (base:Nat) (x:MsR):Prop:=w.ownsRow base 45 3 (.slice x.A x.n x.k) x.n (x.m.cmd.writes.flatMap q0g)∧x.m.cmd.writes.length=x.n
noncomputable abbrev q05:KeyC Tryz.prog 3 Int:=keyI Tryz.underlying3
def DeadM (w:World) (nd:Nat) (D:Option Nat) (dead:Int→Bool):Prop:=
 match D with
 | none=>∀ i,dead i=false
 | some b=>MapG q05 w b nd (fun i=>if dead i then some (.bool true) else none)
def NewR (n:Nat) (x:MsR):Prop:=∀ b,Value.ownBlock (.slice x.A x.n x.k)=some b→n≤b
structure NetI (w:World) (base g off:Nat) (T:TypeId) (cs:Array Value) (V:Value) (D:Option Nat) (nd:Nat) (L:List MsR) (dead:Int→Bool) (lost:Int):Prop where
 blk:Blk w g T cs
 c0:cs[off]? = some V
 c1:cs[off+1]? = some (.map D)
 c2:cs[off+2]? = some (.int .i64 lost)
 row:w.ownsRow base 116 9 V L.length (L.flatMap q0c)
 own:∀ x∈L,OwnW w base x
 down:DeadM w nd D dead
 len:L.length≤200
 ne:T≠116∧T≠45
 bg:base≤w.heap.size
abbrev okI (i:Int):Prop:=(Lit.int .i64 i).wf=true
theorem DeadM.look {w:World} {nd:Nat} {D:Option Nat} {dead:Int→Bool} (h:DeadM w nd D dead) {i:Int} (hi:okI i):(Instr.lookup 60 (.map D) (.int .i64 i) false).run Tryz.prog w=.ok (.bool (dead i)) w:=by
 have hz:(zeroValue 4).run Tryz.prog w=.ok (.bool false) w:=by kernel_rfl
 unfold DeadM at h
 rcases D with _|b
 ·rw[h i]
  exact(look_nilG q05 w Tryz.underlying60 hz (x:=i) hi).2
 ·have:=(h.look Tryz.underlying60 hz (x:=i) hi).2
  rw[show q05.val i=Value.int .i64 i from rfl] at this
  rw[this]
  cases dead i <;> rfl
theorem DeadM.fr {S:Nat→Prop} {w w':World} {nd:Nat} {D:Option Nat} {dead:Int→Bool} (h:DeadM w nd D dead) (hf:Fr S w w') (hn:∀ b,D=some b→¬S b):DeadM w' nd D dead:=by
 unfold DeadM at h ⊢
 rcases D with _|b
 ·exact h
 ·exact h.fr hf (hn b rfl)
theorem DeadM.notBlk {w:World} {nd g:Nat} {D:Option Nat} {dead:Int→Bool} {t:TypeId} {cs:Array Value} (h:DeadM w nd D dead) (hb:Blk w g t cs):D≠some g:=by
 rintro rfl
 exact MapG.notBlk (C:=q05) h hb rfl
theorem DeadM.notOwn {w:World} {nd base size k:Nat} {e:TypeId} {v:Value} {xs:List Value} {D:Option Nat} {dead:Int→Bool} (h:DeadM w nd D dead) (ho:w.ownsRow base e size v k xs) {b:Nat} (hb:D=some b):v.ownBlock≠some b:=by
 subst hb
 exact MapG.notOwn (C:=q05) h ho
theorem DeadM.lt {w:World} {nd b:Nat} {dead:Int→Bool} (h:DeadM w nd (some b) dead):b<w.heap.size:=MapG.lt (C:=q05) h
theorem flat9:∀ (l:List MsR) (j:Nat) (x:MsR),l[j]? = some x→∀ i,i<9→(l.flatMap q0c)[j*9+i]? = (q0c x)[i]?
 | [],j,p,h,i,hi=>by simp at h
 | q::l,0,p,h,i,hi=>by
  simp at h
  subst h
  rw[List.flatMap_cons,List.getElem?_append_left (by rw[q21];omega)]
  simp
 | q::l,j+1,p,h,i,hi=>by
  have h':l[j]? = some p:=by simpa using h
  have:(j+1)*9+i=(j*9+i)+9:=by omega
  rw[this,List.flatMap_cons,List.getElem?_append_right (by rw[q21];omega),q21,Nat.add_sub_cancel]
  exact flat9 l j p h' i hi
def Cells9 (w:World) (g o:Nat) (x:MsR):Prop:=
 w.cell? ⟨g,o,none⟩=some (.int .i64 x.m.kind)∧w.cell? ⟨g,o+1,none⟩=some (.int .i64 x.m.from_)∧w.cell? ⟨g,o+2,none⟩=some (.int .i64 x.m.to_)∧w.cell? ⟨g,o+3,none⟩=some (.int .i64 x.m.epoch)∧w.cell? ⟨g,o+4,none⟩=some (.int .i64 x.m.n)∧
  w.cell? ⟨g,o+5,none⟩=some (.int .i64 x.m.cmd.kind)∧w.cell? ⟨g,o+6,none⟩=some (.int .i64 x.m.cmd.tx)∧w.cell? ⟨g,o+7,none⟩=some (.int .i64 x.m.cmd.time)∧w.cell? ⟨g,o+8,none⟩=some (.slice x.A x.n x.k)
theorem Rd.cells9 {w:World} {B n j:Nat} {A:Option Addr} {l:List MsR} (h:Rd w B 9 A n (l.flatMap q0c)) (hl:l.length=n) (hj:j<n):∃ g off x,A=some ⟨g,off,none⟩∧g<B∧l[j]? = some x∧Cells9 w g (off+j*9) x:=by
 obtain⟨g,off,e,hb,hc⟩:=h.2 (by omega)
 have hx:l[j]? = some l[j]:=List.getElem?_eq_getElem (by omega)
 have hf:=flat9 l j _ hx
 refine⟨g,off,l[j],e,hb,hx,?_,?_,?_,?_,?_,?_,?_,?_,?_⟩
 ·exact hc (j*9) _ (hf 0 (by omega))
 ·exact hc (j*9+1) _ (hf 1 (by omega))
 ·exact hc (j*9+2) _ (hf 2 (by omega))
 ·exact hc (j*9+3) _ (hf 3 (by omega))
 ·exact hc (j*9+4) _ (hf 4 (by omega))
 ·exact hc (j*9+5) _ (hf 5 (by omega))
 ·exact hc (j*9+6) _ (hf 6 (by omega))
 ·exact hc (j*9+7) _ (hf 7 (by omega))
 ·exact hc (j*9+8) _ (hf 8 (by omega))
def NetB (g:Nat) (V:Value) (D:Option Nat) (k:Nat):Prop:=k=g∨some k=V.ownBlock∨some k=D
section
variable {P:Program} {ops:Array Oper} {Q:Exit→Act→World→Prop} {md:Region.Mode}
theorem rtake (i:Nat) {oi:Oper} {v:Value} {fuel:Nat} {listed:Array Bool} {a:Act} {w:World} (hi:ops[i]? = some oi)
  (hs:Region.noSelect ops=true) (hf:Region.free md ops listed i=true) (hr:(Region.ready md ops listed).contains i=true)
  (hQ:∀ c a w,Q (.panic c) (a.put oi.dst v) w→Q (.panic c) a w) (hw:Region.wanted oi (yielded ops a.tmps)=true)
  (hy:∀ w,(execOp a.eval oi).run P w=.ok (.value v) w)
  (h:wpAny P md ops Q fuel (listed.setIfInBounds i true) (a.put oi.dst v) w):wpAny P md ops Q (fuel+1) listed a w:=
 wpAny_take hi hs hf hr hQ (.inl ⟨hw,hy⟩) h
theorem ronly (i:Nat) {o:Oper} {fuel:Nat} {listed:Array Bool} {a:Act} {w:World} (hr:Region.ready md ops listed=[i]) (ho:ops[i]? = some o)
  (hw:Region.wanted o (yielded ops a.tmps)=true) (h:∀ K':Act→World→Prop,(∀ a w,wpAny P md ops Q fuel (listed.setIfInBounds i true) a w→K' a w)→Oper.wp P o a w K' Q):wpAny P md ops Q (fuel+1) listed a w:=
 wpAny_ready hr (by simp) (AllReady.cons ho (fun K' hK=>by rw[if_pos hw];exact h K' hK) AllReady.nil)
theorem ronlyH {S:World→Prop} (i:Nat) {o:Oper} {fuel:Nat} {listed:Array Bool} {a:Act} {w:World} (hr:Region.ready md ops listed=[i]) (ho:ops[i]? = some o)
  (hw:Region.wanted o (yielded ops a.tmps)=true) (h:∀ K':Act→World→Prop,(∀ a w,S w→wpAnyH P md ops Q S fuel (listed.setIfInBounds i true) a w→K' a w)→Oper.wp P o a w K' Q):wpAnyH P md ops Q S (fuel+1) listed a w:=
 wpAnyH_all hr (by simp) (fun j hj=>by
  obtain rfl:j=i:=by simpa using hj
  exact wpOp_step ho (fun K' hK=>by rw[if_pos hw];exact h K' (fun a w hs ha=>hK a w ⟨hs,ha⟩)))
theorem q53 {S:World→Prop} (i:Nat) {oi:Oper} {v:Value} {fuel:Nat} {listed:Array Bool} {a:Act} {w:World} (hi:ops[i]? = some oi)
  (hs:Region.noSelect ops=true) (hf:Region.free md ops listed i=true) (hr:(Region.ready md ops listed).contains i=true)
  (hQ:∀ c a w,Q (.panic c) (a.put oi.dst v) w→Q (.panic c) a w) (hw:Region.wanted oi (yielded ops a.tmps)=true) (hS:S w)
  (hy:∀ w,S w→(execOp a.eval oi).run P w=.ok (.value v) w)
  (h:wpAnyH P md ops Q S fuel (listed.setIfInBounds i true) (a.put oi.dst v) w):wpAnyH P md ops Q S (fuel+1) listed a w:=
 wpAnyH_take hi hs hf hr hQ (.inl ⟨hw,hy⟩) hS h
theorem rheld (S:World→Prop) {fuel:Nat} {listed:Array Bool} {a:Act} {w:World} (h:wpAnyH P md ops Q S fuel listed a w):wpAny P md ops Q fuel listed a w:=wpAny_of_held fuel listed a w h
end
theorem pair_info':(Tryz.prog.info? 45).map (fun i=>(i.zero,i.size,i.bytes))=some (some (.agg #[.string ⟨#[]⟩,.string ⟨#[]⟩,.bool false]),3,40):=by kernel_rfl
theorem prs_one (l:List Pr):∀ u∈l.flatMap q0g,u.oneCell'=true:=fun u hu=>by
 obtain⟨p,_,hp⟩:=List.mem_flatMap.1 hu
 unfold q0g at hp
 rcases List.mem_cons.1 hp with rfl|hp
 ·rfl
 ·rcases List.mem_cons.1 hp with rfl|hp
  ·rfl
  ·rw[List.mem_singleton.1 hp];rfl
theorem q7l (w:World) (base:Nat) (e:TypeId) (size:Nat) (hb:base≤w.heap.size):(w.alloc (.cells #[] e)).ownsRow base e size (.slice (some ⟨w.heap.size,0,none⟩) 0 0) 0 []:=
 ⟨by simp,.inr ⟨w.heap.size,0,#[],rfl,hb,by simpa [Blk] using Blk.new w e #[],Nat.le_refl _,Nat.zero_le _,by simp,by simp⟩⟩
theorem q0i {w:World} {base base' e e' size size' n n':Nat} {v v':Value} {xs xs':List Value} (h:w.ownsRow base e size v n xs) (h':w.ownsRow base' e' size' v' n' xs') (hne:e≠e') {g:Nat} (hg:v.ownBlock=some g):v'.ownBlock≠some g:=by
 intro hg'
 rcases h.2 with ⟨rfl,_⟩|⟨g1,cap,cur,rfl,_,hh,_⟩
 ·simp[Value.ownBlock] at hg
 ·rcases h'.2 with ⟨rfl,_⟩|⟨g2,cap',cur',rfl,_,hh',_⟩
  ·simp[Value.ownBlock] at hg'
  ·have e1:g1=g:=by simpa [Value.ownBlock] using hg
   have e2:g2=g:=by simpa [Value.ownBlock] using hg'
   subst e1
   subst e2
   rw[hh] at hh'
   injection hh' with hh'
   injection hh' with _ ht
   exact hne ht
theorem q08 {B:Nat} {w w':World} (h:Below B w w') (n:Nat):Below B w (w'.drewN n):=⟨h.os,h.tape,h.output,h.size,h.block⟩
theorem size_dN (w:World) (n:Nat):(w.drewN n).heap.size=w.heap.size:=rfl
theorem q06 {B:Nat} {w w':World} (h:Below B w w'):Fr (fun k=>B≤k) w w':=⟨h.os,h.tape,h.output,h.size,fun k _ hn=>h.block k (by omega)⟩
def CloneP (base:Nat) (n:Nat) (l:List Pr) (w:World) (e:Ending) (w':World):Prop:=
 ∃ A k,e=.returned (.slice A n k)∧w'.ownsRow base 45 3 (.slice A n k) n (l.flatMap q0g)∧Below w.heap.size w w'
theorem q8b (base B n k:Nat) (A:Option Addr) (l:List Pr) (w:World) (h:q1k w B A n l) (hB:B≤w.heap.size) (hb:base≤w.heap.size) (hn:n≤100000) (hk:A=none→k=0) :
  Calls Tryz.prog 78 #[.slice A n k] w (CloneP base n l w):=by
 have H:=LH h;clear h
 rcases A with _|a
 ·have hk':=hk rfl
  subst hk'
  have hn0:n=0:=by
   rcases Nat.eq_zero_or_pos n with h0|h0
   ·exact h0
   ·obtain⟨g,off,h,_⟩:=H.out.2.2 h0;cases h
  subst hn0
  have hl:l=[]:=List.eq_nil_of_length_eq_zero H.out.1
  subst hl
  have hf:CloneP base 0 [] w (.returned (.slice none 0 0)) w:=⟨none,0,rfl,World.ownsRow_nil _ _ _ _,Below.refl _ _⟩
  have HF:=LH hf;clear hf H
  have hnil:=Lib.run_eql_slice_nil w 67 _ none 0 0 0 0 Tryz.underlying67
  go_enter Tryz.func78,Tryz.ntmps78
  go_wp2_with fail
  go_ret
  exact HF.out
 ·clear hk
  have hnil:=Lib.run_eql_slice_nil w 67 _ (some a) n k 0 0 Tryz.underlying67
  go_enter Tryz.func78,Tryz.ntmps78
  go_wp2_with (at_builtin;refine stop ?_)
  refine back ?_
  have hs:Below w.heap.size w (w.alloc (.cells #[] 45)):=(Below.refl _ _).alloc (Nat.le_refl _) _
  refine q1u _ rfl (.tmp 5) (.tmp 6) 67 rfl base 45 _ 3 40 Tryz.underlying67 pair_info' rfl (by decide) _ 0 [] rfl (q7l w base _ _ hb) B _ n k (l.flatMap q0g) rfl ((H.out.2.below (hs.mono hB)).reads) (prs_one l) (by unfold maxLen;omega) (by omega) (by simp;omega) ?_
  intro v' w' hown hm
  rw[Nat.zero_add,List.nil_append] at hown
  obtain⟨A',c,rfl,_,_⟩:=q01 hown
  have hf:CloneP base n l w (.returned (.slice A' n c)) w':=⟨A',c,rfl,hown,hs.trans (hm.below (fun g hg=>by have e:some w.heap.size=some g:=hg;injection e with e;omega) (by simp))⟩
  have HF:=LH hf;clear hf hown hm hs
  go_wp2_with fail
  go_ret
  exact HF.out
section
variable {P:Program} {w:World} {base e size g n cap:Nat} {xs:List Value}
theorem q32 (h:w.ownsRow base e size (.slice (some ⟨g,0,none⟩) n cap) n xs):∃ cur:Array Value,base≤g∧w.heap[g]? = some (.cells cur e (0,0))∧n≤cap∧cap≤maxLen∧cur.size=cap*size∧cur.toList.take (n*size)=xs:=by
 rcases h.2 with ⟨h,_⟩|⟨g',cap',cur,h,hbg,hg,hnc,hcm,hcs,htake⟩
 ·cases h
 ·simp only[Value.slice.injEq,Option.some.injEq,Addr.mk.injEq,and_true,true_and] at h
  obtain⟨rfl,rfl⟩:=h
  exact⟨cur,hbg,hg,hnc,hcm,hcs,htake⟩
theorem q2u (h:w.ownsRow base e size (.slice (some ⟨g,0,none⟩) n cap) n xs):n≤cap∧cap≤maxLen:=by
 obtain⟨cur,_,_,h1,h2,_⟩:=q32 h
 exact⟨h1,h2⟩
theorem q3m (h:w.ownsRow base e size (.slice (some ⟨g,0,none⟩) n cap) n xs) {i:Nat} (hi:i≤n):w.ownsRow base e size (.slice (some ⟨g,0,none⟩) i cap) i (xs.take (i*size)):=by
 have hm:i*size≤n*size:=Nat.mul_le_mul_right _ hi
 obtain⟨cur,hbg,hg,hnc,hcm,hcs,htake⟩:=q32 h
 exact⟨by rw[List.length_take,h.1];omega,.inr ⟨g,cap,cur,rfl,hbg,hg,by omega,hcm,hcs,by rw[← htake,List.take_take,Nat.min_eq_left hm]⟩⟩
theorem ownK_more (h:w.ownsRow base e size (.slice (some ⟨g,0,none⟩) n cap) n xs) (hn:n+1≤cap):∃ ex:List Value,ex.length=size∧w.ownsRow base e size (.slice (some ⟨g,0,none⟩) (n+1) cap) (n+1) (xs++ex):=by
 obtain⟨cur,hbg,hg,hnc,hcm,hcs,htake⟩:=q32 h
 have hl:(n+1)*size≤cap*size:=Nat.mul_le_mul_right _ hn
 have hl2:(n+1)*size=n*size+size:=by rw[Nat.add_mul,Nat.one_mul]
 refine⟨(cur.toList.drop (n*size)).take size,by rw[List.length_take,List.length_drop,Array.length_toList,hcs];omega,?_,.inr ⟨g,cap,cur,rfl,hbg,hg,hn,hcm,hcs,?_⟩⟩
 ·rw[List.length_append,h.1,List.length_take,List.length_drop,Array.length_toList,hcs];omega
 ·rw[hl2,List.take_add,htake]
theorem q9q (w:World) (dT sT ty elem:TypeId) (k g o dLen dCap:Nat) (a:Addr) (sLen sCap:Nat) (cur:Array Value) (t:TypeId) (cs:List Value)
  (hu:P.underlying dT=some (.slice elem)) (hs:(P.info? elem).map (·.size)=some k)
  (hg:w.heap[g]? = some (.cells cur t (0,0))) (hn:cs.length=Nat.min sLen dLen*k)
  (hsrc:∀ j v,cs[j]? = some v→w.cell? (a.add j)=some v) (hfit:o+cs.length≤cur.size) (h1:∀ v∈cs,v.oneCell'=true) :
  (Builtin.copy_ #[dT,sT] ty #[.slice (some ⟨g,o,none⟩) dLen dCap,.slice (some a) sLen sCap]).run P w =
   .ok (goInt (Nat.min sLen dLen)) (w.setRow g (cur.toList.take o++cs++cur.toList.drop (o+cs.length)).toArray):=by
 have hl:=run_loadCells_list (P:=P) w a cs hsrc
 have hst:=run_storeCells_at P g o t cs 0 cur w hg (by simpa using hfit) h1
 cases hq:P.info? elem with
 | none=>simp[hq] at hs
 | some i=>
  have hi:i.size=k:=by simpa [hq] using hs
  rw[hn] at hl
  simp[Builtin.copy_,run_underlying hu,Builtin.lenOf,Builtin.firstCells,sizeOf,typeInfo,hq,hi,hl,hst]
theorem q1h (dT sT elem:TypeId) (hu:P.underlying dT=some (.slice elem)) (hs:(P.info? elem).map (·.size)=some size)
  (h:w.ownsRow base e size (.slice (some ⟨g,0,none⟩) n cap) n xs) {i m:Nat} (him:i+m≤n) (vs:List Value) (hvs:vs.length=m*size) (a:Addr) (hsrc:∀ j v,vs[j]? = some v→w.cell? (a.add j)=some v)
  (h1:∀ v∈vs,v.oneCell'=true) (dl dc sl sc:Nat) (hmin:Nat.min sl dl=m) :
  ∃ w',(∀ ty,(Builtin.copy_ #[dT,sT] ty #[.slice (some ⟨g,i*size,none⟩) dl dc,.slice (some a) sl sc]).run P w=.ok (goInt m) w')∧
   w'.ownsRow base e size (.slice (some ⟨g,0,none⟩) n cap) n (xs.take (i*size)++vs++xs.drop ((i+m)*size))∧Fr (fun k=>k=g) w w':=by
 obtain⟨cur,hbg,hg,hnc,hcm,hcs,htake⟩:=q32 h
 have e1:(i+m)*size≤n*size:=Nat.mul_le_mul_right _ him
 have e2:n*size≤cap*size:=Nat.mul_le_mul_right _ hnc
 have e3:(i+m)*size=i*size+m*size:=Nat.add_mul _ _ _
 have hrun:=fun ty=>q9q (P:=P) w dT sT ty elem size g (i*size) dl dc a sl sc cur e vs hu hs hg (by rw[hmin,hvs]) hsrc (by rw[hvs,hcs];omega) h1
 simp only[hmin] at hrun
 refine⟨_,hrun,⟨?_,.inr ⟨g,cap,_,rfl,hbg,setRow_heap w g cur _ e _ hg,hnc,hcm,?_,?_⟩⟩,⟨rfl,rfl,rfl,by simp,fun k _ hk=>setRow_other w g k _ hk⟩⟩
 ·rw[List.length_append,List.length_append,List.length_take,List.length_drop,h.1,hvs];omega
 ·simp only[List.size_toArray,List.length_append,List.length_take,List.length_drop,Array.length_toList,hvs,hcs];omega
 ·rw[← htake]
  simp only[]
  have hlen:(cur.toList.take (i*size)++vs).length=(i+m)*size:=by
   rw[List.length_append,List.length_take,Array.length_toList,hcs,hvs];omega
  have hd:i*size+vs.length=(i+m)*size:=by rw[hvs];omega
  rw[hd,List.take_append,hlen,List.take_of_length_le (by rw[hlen];omega),List.take_take,Nat.min_eq_left (by omega),List.drop_take]
theorem q8z (t tn:TypeId) (i0:TypeInfo) (z:Value) (kq kn:IntKind) (ht:P.underlying t=some (.slice e)) (htn:P.underlying tn=some (.int kn)) (hi:P.info? e=some i0) (hz:i0.zero=some z) (hsz:i0.size=size) (hzs:z.cells.size=size) (hs0:0<size)
  (h:w.ownsRow base e size (.slice (some ⟨g,0,none⟩) n cap) n xs) {k:Nat} (h0:0<k) (hg:cap<n+k) (hlim:n+k≤1000000) (hby:i0.bytes≤1000000) (_hxs:∀ v∈xs,v.oneCell'=true) (hb:base≤w.heap.size) :
  ∃ c' w',(∀ ty,(Builtin.append_ #[t,tn] ty #[.slice (some ⟨g,0,none⟩) n cap,.int kq k]).run P w=.ok (.slice (some ⟨w.heap.size,0,none⟩) (n+k) c') w')∧
   w'.ownsRow base e size (.slice (some ⟨w.heap.size,0,none⟩) (n+k) c') (n+k) (xs++(Builtin.zeroCells z.cells k).toList)∧Fr (fun _=>False) w w'∧w'.heap.size=w.heap.size+1:=by
 obtain⟨cur,hbg,hgg,hnc,hcm,hcs,htake⟩:=q32 h
 have hle:n*size≤cap*size:=Nat.mul_le_mul_right _ hnc
 have hold:(Builtin.firstCells i0.size n (.slice (some ⟨g,0,none⟩) n cap)).run P w.drew=.ok xs.toArray w.drew:=by
  have:=run_loadCells_list (P:=P) w.drew ⟨g,0,none⟩ xs (fun j v hj=>by
   have hjl:j<xs.length:=(List.getElem?_eq_some_iff.1 hj).1
   rw[Addr.add_lit,Nat.zero_add]
   show w.cell? _=_
   have h2:cur[j]? = some v:=by
    rw[← htake] at hj
    rw[List.getElem?_take] at hj
    split at hj
    ·simpa using hj
    ·cases hj
   exact(cell_of_row w g j cur e (0,0) hgg).trans h2)
  rw[h.1] at this
  unfold Builtin.firstCells
  rw[hsz]
  exact this
 have hby2:(n+k)*i0.bytes≤140737488355328:=by
  have:(n+k)*i0.bytes≤1000000*1000000:=Nat.mul_le_mul hlim hby
  omega
 have hkb:k*i0.bytes≤(n+k)*i0.bytes:=Nat.mul_le_mul_right _ (by omega)
 have hrun:=fun ty=>Lib.run_append_grow_zeros (P:=P) w t tn ty e i0 z kq kn ht htn hi hz (some ⟨g,0,none⟩) n cap xs hold k h0 (by rw[hsz];exact hs0) hg (by omega) (by omega) (growslice_fits hg hby2)
 have hge:=grownCap_ge w (n+k) cap e
 have hcm2:grownCap w (n+k) cap e≤maxLen:=grownCap_le_maxLen w (n+k) cap e (by unfold maxLen;omega)
 refine⟨_,_,hrun,⟨?_,.inr ⟨w.heap.size,_,_,rfl,hb,heap_alloc_new w.drew _,hge,hcm2,?_,?_⟩⟩,(Fr.refl _ w).drew.alloc _,by simp⟩
 ·rw[List.length_append,h.1,Array.length_toList,size_zeroCells,hzs,Nat.add_mul]
 ·simp only[Array.size_append,List.size_toArray,size_zeroCells,hzs,h.1,← Nat.add_mul]
  congr 1
  omega
 ·have hl:(xs++(Builtin.zeroCells z.cells k).toList).length=(n+k)*size:=by rw[List.length_append,h.1,Array.length_toList,size_zeroCells,hzs,Nat.add_mul]
  simp only[Array.toList_append]
  rw[← hl]
  exact List.take_left
def skipK (g k cap size:Nat):Option Addr:=if cap=k then some ⟨g,0,none⟩ else some ⟨g,k*size,none⟩
theorem skipK_some (g k cap size:Nat):∃ o,skipK g k cap size=some ⟨g,o,none⟩∧(k<cap→o=k*size):=by
 unfold skipK
 split
 ·rename_i hk;exact⟨0,rfl,fun h=>by omega⟩
 ·exact⟨_,rfl,fun _=>rfl⟩
theorem q3w (t:TypeId) (z:Value) (ht:P.underlying t=some (.slice e)) (hv:∀ w,(zeroValue e).run P w=.ok z w) (hz:z.cells.size=size) (hz1:∀ u∈z.cells.toList,u.oneCell'=true)
  (h:w.ownsRow base e size (.slice (some ⟨g,0,none⟩) n cap) n xs) {m c:Nat} (hm:n+m≤cap) :
  ∃ w',(∀ ty,(Builtin.clear_ #[t] ty #[.slice (skipK g n cap size) m c]).run P w=.ok (.tuple #[]) w')∧w'.ownsRow base e size (.slice (some ⟨g,0,none⟩) n cap) n xs∧Fr (fun k=>k=g) w w':=by
 obtain⟨o,ho,ho2⟩:=skipK_some g n cap size
 rw[ho]
 rcases Nat.eq_zero_or_pos m with h0|h0
 ·subst h0
  exact⟨w,fun ty=>by simp[Builtin.clear_,run_underlying ht],h,Fr.refl _ _⟩
 have ho3:=ho2 (by omega)
 subst ho3
 rcases h.2 with ⟨h',_⟩|⟨g',cap',cur,h',hbg,hg,hnc,hcm,hcs,htake⟩
 ·cases h'
 ·simp only[Value.slice.injEq,Option.some.injEq,Addr.mk.injEq,and_true,true_and] at h'
  obtain⟨rfl,rfl⟩:=h'
  have hzl:(Builtin.zeroCells z.cells m).toList.length=m*size:=by rw[Array.length_toList,size_zeroCells,hz]
  have hzo:∀ u∈(Builtin.zeroCells z.cells m).toList,u.oneCell'=true:=fun u hu=>by
   obtain⟨i,hi,hu⟩:=List.getElem_of_mem hu
   have hzs:0<z.cells.size:=by
    rcases Nat.eq_zero_or_pos z.cells.size with h|h
    ·rw[hzl,← hz,h] at hi;omega
    ·exact h
   refine hz1 u ?_
   rw[← hu]
   simp[Builtin.zeroCells]
   have hlt:i % z.cells.size<z.cells.size:=Nat.mod_lt _ hzs
   simp[hlt]
  have hfit:n*size+(Builtin.zeroCells z.cells m).toList.length≤cur.size:=by rw[hzl,hcs,← Nat.add_mul];exact Nat.mul_le_mul_right _ hm
  have hst:=run_storeCells_at (P:=P) g (n*size) e (Builtin.zeroCells z.cells m).toList 0 cur w hg (by simpa using hfit) hzo
  simp only[Nat.add_zero] at hst
  obtain⟨m',rfl⟩:∃ m',m=m'+1:=⟨m-1,by omega⟩
  refine⟨w.setRow g (cur.toList.take (n*size)++(Builtin.zeroCells z.cells (m'+1)).toList++cur.toList.drop (n*size+(Builtin.zeroCells z.cells (m'+1)).toList.length)).toArray,?_,⟨h.1,.inr ⟨g,cap,_,rfl,hbg,setRow_heap w g cur _ e _ hg,hnc,hcm,?_,?_⟩⟩,⟨rfl,rfl,rfl,by simp,fun k _ hk=>setRow_other w g k _ hk⟩⟩
  ·intro ty;simp[Builtin.clear_,run_underlying ht,hv,hst]
  ·simp only[List.size_toArray,List.length_append,List.length_take,List.length_drop,Array.length_toList]
   simp only[Array.length_toList] at hfit
   omega
  ·have hlen:(cur.toList.take (n*size)).length=n*size:=by rw[htake,h.1]
   rw[List.append_assoc,List.take_append_of_le_length (by rw[hlen];omega),List.take_of_length_le (by rw[hlen];omega),htake]
theorem q3u (T:TypeId) (hu:P.underlying T=some (.slice (P.elem T))) (hs:∀ w,(sizeOf (P.elem T)).run P w=.ok size w) (w:World) (g n c v:Nat) (h:Int) (hh:h=v) (hv:v≤n) :
  (Instr.slice T (.slice (some ⟨g,0,none⟩) n c) (some (.int .i64 h)) none none).run P w=.ok (.slice (skipK g v c size) (n-v) (c-v)) w:=by
 subst hh
 rw[run_slice_l w T _ n c hu .i64 (v:Int) (by omega) (by omega),hs]
 simp only[Result.andThen,sliced,Int.toNat_natCast,skipK]
 congr 2
 split <;> simp[Addr.add_lit]
theorem q0s (T:TypeId) (hu:P.underlying T=some (.slice e)) (hel:P.elem T=e) (hs:∀ w,(sizeOf e).run P w=.ok size w) (w:World) (g n c v:Nat) (h:Int) (hh:h=v) (hv:v≤n) (hc:v<c) :
  (Instr.slice T (.slice (some ⟨g,0,none⟩) n c) (some (.int .i64 h)) none none).run P w=.ok (.slice (some ⟨g,v*size,none⟩) (n-v) (c-v)) w:=by
 subst hh
 subst hel
 rw[run_slice_l w T _ n c hu .i64 (v:Int) (by omega) (by omega),hs]
 simp only[Result.andThen,sliced,Int.toNat_natCast]
 rw[if_neg (by omega)]
 simp[Addr.add_lit]
theorem q0x (T:TypeId) (hu:P.underlying T=some (.slice e)) (hel:P.elem T=e) (hs:∀ w,(sizeOf e).run P w=.ok size w) (w:World) (A:Option Addr) (n c v:Nat) (hv:v≤n) :
  ∃ r,(Instr.slice T (.slice A n c) (some (.int .i64 (v:Int))) none none).run P w=.ok r w:=by
 subst hel
 rw[run_slice_l w T _ n c hu .i64 (v:Int) (by omega) (by omega),hs]
 exact⟨_,rfl⟩
theorem q2x (T:TypeId) (hu:P.underlying T=some (.slice e)) (hel:P.elem T=e) (hs:∀ w,(sizeOf e).run P w=.ok size w) (w:World) (g n c v:Nat) (h:Int) (hh:h=v) (hv:v≤c) :
  (Instr.slice T (.slice (some ⟨g,0,none⟩) n c) none (some (.int .i64 h)) none).run P w=.ok (.slice (some ⟨g,0,none⟩) v c) w:=by
 subst hh
 subst hel
 rw[run_slice_h w T _ n c hu .i64 (v:Int) (by omega) (by omega),hs]
 simp only[Result.andThen,sliced,Int.toNat_natCast,Nat.zero_mul,Nat.sub_zero]
 congr 2
 split <;> simp[Addr.add]
end
section
variable {P:Program} {w w':World} {ops:Array Oper} {rest:List Oper} {o:Oper} {a:Act} {Q:Exit→Act→World→Prop} {K:Act→World→Prop}
theorem q8g (s x:Operand) (t t':TypeId) (ho:o.op=.call { callee:=.builtin .append,args:=#[s,x],argTypes:=#[t,t'] }) (v u r:Value) (hs:a.eval s=v) (hx:a.eval x=u)
  (hrun:(Builtin.append_ #[t,t'] o.type #[v,u]).run P w=.ok r w') (h:K (a.put o.dst r) w'):o.wp P a w K Q:=by
 unfold Oper.wp execOp
 simp only[ho,resolve,invoke,builtin,Sem.run_bind,Sem.run_pure,Result.andThen_ok,List.map_toArray,List.map_cons,List.map_nil,hs,hx,hrun]
 exact h
theorem q1j (hgd:o.guard=none) (s x:Operand) (t t':TypeId) (ho:o.op=.call { callee:=.builtin .append,args:=#[s,x],argTypes:=#[t,t'] }) (v u r:Value) (hs:a.eval s=v) (hx:a.eval x=u)
  (hrun:(Builtin.append_ #[t,t'] o.type #[v,u]).run P w=.ok r w') (h:wpList P ops Q rest (a.put o.dst r) w'):wpList P ops Q (o::rest) a w:=
 wpList_plain hgd fun _ hK=>q8g s x t t' ho v u r hs hx hrun (hK _ _ h)
theorem q22 (d s:Operand) (t t':TypeId) (ho:o.op=.call { callee:=.builtin .copy,args:=#[d,s],argTypes:=#[t,t'] }) (v u r:Value) (hd:a.eval d=v) (hs:a.eval s=u)
  (hrun:(Builtin.copy_ #[t,t'] o.type #[v,u]).run P w=.ok r w') (h:K (a.put o.dst r) w'):o.wp P a w K Q:=by
 unfold Oper.wp execOp
 simp only[ho,resolve,invoke,builtin,Sem.run_bind,Sem.run_pure,Result.andThen_ok,List.map_toArray,List.map_cons,List.map_nil,hd,hs,hrun]
 exact h
theorem q1e (hgd:o.guard=none) (d s:Operand) (t t':TypeId) (ho:o.op=.call { callee:=.builtin .copy,args:=#[d,s],argTypes:=#[t,t'] }) (v u r:Value) (hd:a.eval d=v) (hs:a.eval s=u)
  (hrun:(Builtin.copy_ #[t,t'] o.type #[v,u]).run P w=.ok r w') (h:wpList P ops Q rest (a.put o.dst r) w'):wpList P ops Q (o::rest) a w:=
 wpList_plain hgd fun _ hK=>q22 d s t t' ho v u r hd hs hrun (hK _ _ h)
end
def putIn (size i:Nat) (vs xs:List Value):List Value:=xs.take (i*size)++vs++xs.drop (i*size)
theorem q7i {size i n:Nat} {vs xs ex:List Value} (hl:xs.length=n*size) (hi:i<n) (hex:ex.length=size) :
  (((xs++ex).take ((i+1)*size)++xs.drop (i*size)++(xs++ex).drop ((i+1+(n-i))*size)).take (i*size)++vs++((xs++ex).take ((i+1)*size)++xs.drop (i*size)++(xs++ex).drop ((i+1+(n-i))*size)).drop ((i+1)*size))=putIn size i vs xs:=by
 have e1:(i+1)*size=i*size+size:=by rw[Nat.add_mul,Nat.one_mul]
 have e2:(i+1)*size≤n*size:=Nat.mul_le_mul_right _ hi
 have e3:(i+1+(n-i))*size=n*size+size:=by rw[show i+1+(n-i)=n+1 by omega,Nat.add_mul,Nat.one_mul]
 have h1:(xs++ex).take ((i+1)*size)=xs.take ((i+1)*size):=by rw[List.take_append_of_le_length (by omega)]
 have h2:(xs++ex).drop ((i+1+(n-i))*size)=[]:=List.drop_eq_nil_of_le (by rw[List.length_append,hl,hex,e3];omega)
 have hlen:(xs.take ((i+1)*size)).length=(i+1)*size:=by rw[List.length_take,hl];omega
 rw[h1,h2,List.append_nil,List.take_append_of_le_length (by rw[hlen];omega),List.take_take,Nat.min_eq_left (by omega),List.drop_append_of_le_length (by rw[hlen];omega),List.drop_of_length_le (by rw[hlen];omega)]
 rfl
theorem q61 {size i n:Nat} {vs xs zs:List Value} (hl:xs.length=n*size) (hi:i≤n) (hz:zs.length=(n+1-i)*size) (hv:vs.length=size) :
  ((((xs.take (i*size)++zs).take (i*size)++vs++(xs.take (i*size)++zs).drop ((i+1)*size)).take ((i+1)*size))++xs.drop (i*size)++((xs.take (i*size)++zs).take (i*size)++vs++(xs.take (i*size)++zs).drop ((i+1)*size)).drop ((i+1+(n-i))*size))=putIn size i vs xs:=by
 have e1:(i+1)*size=i*size+size:=by rw[Nat.add_mul,Nat.one_mul]
 have e2:i*size≤n*size:=Nat.mul_le_mul_right _ hi
 have e3:(i+1+(n-i))*size=n*size+size:=by rw[show i+1+(n-i)=n+1 by omega,Nat.add_mul,Nat.one_mul]
 have e4:(n+1-i)*size=n*size+size-i*size:=by rw[Nat.sub_mul,Nat.add_mul,Nat.one_mul]
 have hlen:(xs.take (i*size)).length=i*size:=by rw[List.length_take,hl];omega
 have h1:(xs.take (i*size)++zs).take (i*size)=xs.take (i*size):=by rw[List.take_append_of_le_length (by omega),List.take_of_length_le (by omega)]
 rw[h1]
 have hlen2:(xs.take (i*size)++vs).length=(i+1)*size:=by rw[List.length_append,hlen,hv];omega
 have h2:((xs.take (i*size)++vs++(xs.take (i*size)++zs).drop ((i+1)*size)).take ((i+1)*size))=xs.take (i*size)++vs:=by
  rw[List.take_append_of_le_length (by omega),List.take_of_length_le (by omega)]
 have h3:(xs.take (i*size)++vs++(xs.take (i*size)++zs).drop ((i+1)*size)).drop ((i+1+(n-i))*size)=[]:=by
  refine List.drop_eq_nil_of_le ?_
  rw[List.length_append,hlen2,List.length_drop,List.length_append,hlen,hz]
  omega
 rw[h2,h3,List.append_nil]
 rfl
end Go.Proofs.YtccahlhdifadfaaGreatDoor
