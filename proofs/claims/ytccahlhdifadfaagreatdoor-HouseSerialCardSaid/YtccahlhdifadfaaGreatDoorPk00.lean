/- Part 1 of the texts that the claim rests on (of 9): Sorts, Iter, Words, Frame, MapG, Enc, Str, WirePlain, Msg0, NetP, Region, Clone, RowK, HeldN, HeldD, HeldW, HeldX, ChP, Net1, RowOps, Net2, Net3, Ch1, Ch2, Ch3, Ch4, HeldT, Ch5. -/
import Derived.Shelf.Sort.Plain
import Derived.Shelf.Slices.In.SortNone
import Derived.Test.YtccahlhdifadfaaGreatDoorProg
import Derived.Shelf.SlIter.Nil
import Derived.Shelf.SortM.Plain
import Derived.Shelf.SortM.SortNone
import Derived.Ground.GgzProg
import Derived.Ground.SlgmProg
import Derived.Below
import Derived.Laws.OwnMore
import Derived.Deep.AppendLies
import Derived.Deep.Draws
import Derived.Laws.Rows
import Derived.Maps.AppendAt
import Derived.RegionTactic
import Derived.OwnWalk
import Derived.Lib.Hide
import Derived.Laws.Append
import Derived.Maps.OwnSet
import Derived.Maps.RangeWalk
import Derived.Maps.Ext
import Derived.WalkKit
import Derived.WalkSpells
import Derived.WalkLawsBesides
import Derived.Laws.BytesString
import Derived.Laws.Cells
import Derived.Laws.Concat
import Derived.Laws.Strings
import Derived.Test.YtccahlhdifadfaaGreatDoorRows
import Derived.OrdersHeld
import Derived.BigQuiet
import Derived.Lib.LazyBuf
import Derived.Deep.QuietTactic
import Derived.Lib.SliceRun
import Derived.Lib.AppendZerosOnto
import Derived.Lib.Overlaps
import Derived.Laws.CopyRow
import Derived.Laws.Tables
import Derived.IntWalk
import Derived.Laws.ResultCell
import Derived.Deep.DeepCutAuto
import Derived.StillTailTactics
namespace Go.RowKit
theorem Hid.o {p:Prop} (h:Hid p):p:=h
end Go.RowKit
namespace Go.Proofs.YtccahlhdifadfaaGreatDoor
open Go.RowKit
open _root_.And renaming intro → Wm
open _root_.Array renaming getElem?_setIfInBounds_ne → We, length_toList → Ws, getElem?_eq_none → WX
open _root_.Bool renaming false → Jx, true → T2, and_eq_true → Wq, or_eq_true → YB, true_and → YD
open _root_.Go renaming World → B1, Value → Hi, TypeId → VQ, Calls → VX, maxLen → VZ, Ending → WA, Program → WQ, Addr → Xb, yielded → Xp, size_zeroCells → Xr, Oper → Xw, zeroValue → X5, Operand → X6, wpList → Yb, undef → Yc, execOp → Yg, wpList_plain → Yk, Exit → Yn, run_underlying → Yu, DataW → Yv, info_parts → Yy, sizeOf → YX, bodyPost_ret → Za, MemPlace → Zc
open _root_.Go.Act renaming put → Xj
open _root_.Go.Addr renaming add_lit → WJ
open _root_.Go.Addr.mk renaming injEq → W7
open _root_.Go.Builtin renaming zeroCells → WC, append_ → Xv, firstCells → XW, clear_ → YL
open _root_.Go.Fence renaming wide → XV
open _root_.Go.Instr renaming lookup → XH, slice → Yw
open _root_.Go.IntWalk renaming i64_in → V8
open _root_.Go.Lib renaming run_eql_slice_nil → XR
open _root_.Go.Oper renaming wp → Ye
open _root_.Go.Region renaming ready → Wn, wanted → Wo, noSelect → WN, free → Xl, binds → Xx, Mode → XE
open _root_.Go.Result renaming andThen → WV, andThen_ok → Zb
open _root_.Go.RowKit renaming Below → VJ, wrap64 → Xa
open _root_.Go.RowKit.Below renaming refl → S2
open _root_.Go.Value renaming ownBlock → V4, int → Wi, oneCell' → Wy, slice → WI
open _root_.Go.Value.slice renaming injEq → YI
open _root_.Go.World renaming ownsRow_nil → VY, cell?_alloc_lt → WY, drew → Ym
open _root_.Int renaming toNat_natCast → XD
open _root_.List renaming getElem?_cons_zero → D0, getElem?_toArray → Ft, getElem?_eq_getElem → K0, getElem?_cons_succ → N2, mem_of_getElem? → O0, flatMap_cons → VI, length_append → VP, getElem?_map → VT, take_of_length_le → VU, mem_singleton → VW, getElem?_append_right → Wd, take_append_of_le_length → Wp, range → Wu, eq_nil_of_length_eq_zero → Ww, flatMap_append → Wx, length_take → Wz, nil_append → WL, append_nil → WM, take_succ_cons → WU, length_drop → W8, drop_succ_cons → Xd, size_toArray → Xn, map_cons → Xt, set_cons_succ → XK, not_mem_nil → XS, mem_cons → XZ, append_assoc → X4, map_nil → X8, drop_of_length_le → Ya, getElem_of_mem → YV
open _root_.Nat renaming le_refl → L1, lt_of_lt_of_le → VH, zero_le → VK, le_trans → VO, zero_add → Wg, mul_le_mul_right → WO, lt_or_ge → W9, add_mul → Xc, eq_zero_or_pos → XJ, sub_mul → YJ, zero_mul → Y6
open _root_.Option renaming some → Bs, none → B0
open _root_.Option.some renaming injEq → VN, inj → Wj
set_option linter.all false
set_option maxRecDepth 100000
set_option maxHeartbeats 16000000
theorem LH {p : Prop} (h : p) : Go.RowKit.Hid p := Go.Lib.hid h
section
open Go.Shelf
def qag:Go.Shelf.Ren:=⟨fun|189=>92|125=>117|257=>116|128=>139|129=>140|294=>130|295=>131|296=>132|297=>133|298=>134|299=>135|216=>136|300=>137|301=>138|328=>146|329=>147|330=>148|331=>149|332=>150|215=>151|343=>162|n=>n,fun|28=>26|3=>3|46=>85|0=>0|51=>217|53=>219|4=>4|183=>211|182=>210|131=>126|5=>5|9=>9|218=>224|222=>228|228=>237|229=>238|n=>n,fun|n=>n⟩
theorem qaw:Go.Proofs.Lays.n189 Tryz.prog qag:={
 mixed:=by kernel_rfl
 f125:=Tryz.func117.trans (congrArg Bs (by kernel_rfl))
 f128:=Tryz.func139.trans (congrArg Bs (by kernel_rfl))
 f129:=Tryz.func140.trans (congrArg Bs (by kernel_rfl))
 f189:=Tryz.func92.trans (congrArg Bs (by kernel_rfl))
 f215:=Tryz.func151.trans (congrArg Bs (by kernel_rfl))
 f216:=Tryz.func136.trans (congrArg Bs (by kernel_rfl))
 f257:=Tryz.func116.trans (congrArg Bs (by kernel_rfl))
 f294:=Tryz.func130.trans (congrArg Bs (by kernel_rfl))
 f295:=Tryz.func131.trans (congrArg Bs (by kernel_rfl))
 f296:=Tryz.func132.trans (congrArg Bs (by kernel_rfl))
 f297:=Tryz.func133.trans (congrArg Bs (by kernel_rfl))
 f298:=Tryz.func134.trans (congrArg Bs (by kernel_rfl))
 f299:=Tryz.func135.trans (congrArg Bs (by kernel_rfl))
 f300:=Tryz.func137.trans (congrArg Bs (by kernel_rfl))
 f301:=Tryz.func138.trans (congrArg Bs (by kernel_rfl))
 f328:=Tryz.func146.trans (congrArg Bs (by kernel_rfl))
 f329:=Tryz.func147.trans (congrArg Bs (by kernel_rfl))
 f330:=Tryz.func148.trans (congrArg Bs (by kernel_rfl))
 f331:=Tryz.func149.trans (congrArg Bs (by kernel_rfl))
 f332:=Tryz.func150.trans (congrArg Bs (by kernel_rfl))
 f343:=Tryz.func162.trans (congrArg Bs (by kernel_rfl))
 t0:=Tryz.underlying0
 a0:=Tryz.isAgg0
 z0:=Tryz.sizeOf0
 v0:=Tryz.zeroValue0
 t3:=Tryz.underlying3
 a3:=Tryz.isAgg3
 z3:=Tryz.sizeOf3
 v3:=Tryz.zeroValue3
 t4:=Tryz.underlying4
 a4:=Tryz.isAgg4
 z4:=Tryz.sizeOf4
 v4:=Tryz.zeroValue4
 t5:=Tryz.underlying5
 a5:=Tryz.isAgg5
 z5:=Tryz.sizeOf5
 v5:=Tryz.zeroValue5
 t9:=Tryz.underlying9
 a9:=Tryz.isAgg9
 z9:=Tryz.sizeOf9
 v9:=Tryz.zeroValue9
 t28:=Tryz.underlying26
 a28:=Tryz.isAgg26
 z28:=Tryz.sizeOf26
 v28:=Tryz.zeroValue26
 t46:=Tryz.underlying85
 a46:=Tryz.isAgg85
 z46:=Tryz.sizeOf85
 v46:=Tryz.zeroValue85
 t51:=Tryz.underlying217
 a51:=Tryz.isAgg217
 z51:=Tryz.sizeOf217
 v51:=Tryz.zeroValue217
 t53:=Tryz.underlying219
 a53:=Tryz.isAgg219
 z53:=Tryz.sizeOf219
 v53:=Tryz.zeroValue219
 t131:=Tryz.underlying126
 a131:=Tryz.isAgg126
 z131:=Tryz.sizeOf126
 v131:=Tryz.zeroValue126
 t182:=Tryz.underlying210
 a182:=Tryz.isAgg210
 z182:=Tryz.sizeOf210
 v182:=Tryz.zeroValue210
 t183:=Tryz.underlying211
 a183:=Tryz.isAgg211
 z183:=Tryz.sizeOf211
 v183:=Tryz.zeroValue211
 t218:=Tryz.underlying224
 a218:=Tryz.isAgg224
 z218:=Tryz.sizeOf224
 v218:=Tryz.zeroValue224
 t222:=Tryz.underlying228
 a222:=Tryz.isAgg228
 z222:=Tryz.sizeOf228
 v222:=Tryz.zeroValue228
 t228:=Tryz.underlying237
 a228:=Tryz.isAgg237
 z228:=Tryz.sizeOf237
 v228:=Tryz.zeroValue237
 t229:=Tryz.underlying238
 a229:=Tryz.isAgg238
 z229:=Tryz.sizeOf238
 v229:=Tryz.zeroValue238 }
open Go.Sort Go.RowKit in
theorem Ue (f off cap:Nat) (h:List Int) (w:B1) (q:Holds (Wi .i64) w f off h.toArray) (i:f<w.heap.size) (k:h.length<4611686018427387904) :
  VX Tryz.prog 92 #[.slice (Bs ⟨f,off,B0⟩) h.length cap] w fun e w'=>
   e=.returned (.tuple #[])/\∃ n p,w'=grow (putRow (Wi .i64) (Sort.ahead w n) f off (h.mergeSort fun x y=>decide (x<=y)).toArray) p:=Any.slices_Sort_int qaw f off cap h w q i k
open Go.RowKit Go.Sort in
theorem GN (p:Option Xb) (cap:Nat) (w:B1) :
  VX Tryz.prog 92 #[.slice p 0 cap] w fun e w'=>e=.returned (.tuple #[])/\w'=w:=Any.slices_Sort_int_none qaw p cap w
end
section
open Go.RowKit Go.Maps Go.Sort Go.Shelf
def q7r:Go.Shelf.Ren:=⟨fun|7=>101|10=>123|n=>n,fun|23=>98|26=>9|3=>161|28=>183|0=>0|27=>182|33=>203|4=>4|n=>n,fun|n=>n⟩
theorem Md:Go.Proofs.SlLaysZ.n7 Tryz.prog q7r:={
 mixed:=by kernel_rfl
 f7:=⟨Tryz.f101.name,by decide,Tryz.func101.trans (congrArg Bs (by kernel_rfl))⟩
 f10:=⟨Tryz.f123.name,by decide,Tryz.func123.trans (congrArg Bs (by kernel_rfl))⟩
 t0:=Tryz.underlying0
 a0:=Tryz.isAgg0
 z0:=Tryz.sizeOf0
 v0:=Tryz.zeroValue0
 t4:=Tryz.underlying4
 a4:=Tryz.isAgg4
 z4:=Tryz.sizeOf4
 v4:=Tryz.zeroValue4
 t23:=Tryz.underlying98
 a23:=Tryz.isAgg98
 z23:=Tryz.sizeOf98
 v23:=Tryz.zeroValue98
 t26:=Tryz.underlying9
 a26:=Tryz.isAgg9
 z26:=Tryz.sizeOf9
 v26:=Tryz.zeroValue9
 t27:=Tryz.underlying182
 a27:=Tryz.isAgg182
 z27:=Tryz.sizeOf182
 v27:=Tryz.zeroValue182
 t28:=Tryz.underlying183
 a28:=Tryz.isAgg183
 z28:=Tryz.sizeOf183
 v28:=Tryz.zeroValue183
 t33:=Tryz.underlying203
 a33:=Tryz.isAgg203
 z33:=Tryz.sizeOf203
 v33:=Tryz.zeroValue203 }
def q82:Go.Shelf.Ren:=⟨fun|6=>100|8=>121|9=>122|11=>141|13=>117|12=>142|23=>139|24=>140|14=>152|15=>153|16=>154|17=>155|18=>156|19=>157|20=>158|21=>159|22=>160|25=>163|26=>147|27=>148|28=>164|29=>165|30=>166|31=>167|n=>n,fun|26=>9|28=>183|24=>39|0=>0|3=>3|37=>85|48=>217|50=>219|4=>4|40=>211|39=>210|45=>126|5=>5|9=>9|51=>224|55=>228|57=>237|58=>238|33=>203|n=>n,fun|n=>n⟩
theorem JJ:Go.Proofs.SlLaysZ.n6 Tryz.prog q82:={
 mixed:=by kernel_rfl
 f6:=⟨Tryz.f100.name,by decide,Tryz.func100.trans (congrArg Bs (by kernel_rfl))⟩
 f8:=⟨Tryz.f121.name,by decide,Tryz.func121.trans (congrArg Bs (by kernel_rfl))⟩
 f11:=⟨Tryz.f141.name,by decide,Tryz.func141.trans (congrArg Bs (by kernel_rfl))⟩
 t0:=Tryz.underlying0
 a0:=Tryz.isAgg0
 z0:=Tryz.sizeOf0
 v0:=Tryz.zeroValue0
 t24:=Tryz.underlying39
 a24:=Tryz.isAgg39
 z24:=Tryz.sizeOf39
 v24:=Tryz.zeroValue39
 t26:=Tryz.underlying9
 a26:=Tryz.isAgg9
 z26:=Tryz.sizeOf9
 v26:=Tryz.zeroValue9
 t28:=Tryz.underlying183
 a28:=Tryz.isAgg183
 z28:=Tryz.sizeOf183
 v28:=Tryz.zeroValue183
 i26:=by kernel_rfl }
def Mc:Go.Shelf.Ren:=⟨fun|6=>122|8=>117|9=>142|19=>139|20=>140|21=>152|22=>153|23=>154|24=>155|25=>156|26=>157|27=>158|28=>159|29=>160|36=>163|31=>147|32=>148|37=>164|38=>165|39=>166|41=>167|n=>n,fun|27=>39|29=>9|3=>3|32=>85|26=>39|0=>0|44=>217|46=>219|4=>4|36=>211|35=>210|41=>126|5=>5|9=>9|53=>224|57=>228|63=>237|64=>238|n=>n,fun|n=>n⟩
theorem R0:Go.Proofs.SlLaysM.n6 Tryz.prog Mc:={
 mixed:=by kernel_rfl
 f6:=⟨Tryz.f122.name,by decide,Tryz.func122.trans (congrArg Bs (by kernel_rfl))⟩
 f8:=Tryz.func117.trans (congrArg Bs (by kernel_rfl))
 f9:=⟨Tryz.f142.name,by decide,Tryz.func142.trans (congrArg Bs (by kernel_rfl))⟩
 f19:=Tryz.func139.trans (congrArg Bs (by kernel_rfl))
 f20:=Tryz.func140.trans (congrArg Bs (by kernel_rfl))
 f21:=⟨Tryz.f152.name,by decide,Tryz.func152.trans (congrArg Bs (by kernel_rfl))⟩
 f22:=⟨Tryz.f153.name,by decide,Tryz.func153.trans (congrArg Bs (by kernel_rfl))⟩
 f23:=⟨Tryz.f154.name,by decide,Tryz.func154.trans (congrArg Bs (by kernel_rfl))⟩
 f24:=⟨Tryz.f155.name,by decide,Tryz.func155.trans (congrArg Bs (by kernel_rfl))⟩
 f25:=⟨Tryz.f156.name,by decide,Tryz.func156.trans (congrArg Bs (by kernel_rfl))⟩
 f26:=⟨Tryz.f157.name,by decide,Tryz.func157.trans (congrArg Bs (by kernel_rfl))⟩
 f27:=⟨Tryz.f158.name,by decide,Tryz.func158.trans (congrArg Bs (by kernel_rfl))⟩
 f28:=⟨Tryz.f159.name,by decide,Tryz.func159.trans (congrArg Bs (by kernel_rfl))⟩
 f29:=⟨Tryz.f160.name,by decide,Tryz.func160.trans (congrArg Bs (by kernel_rfl))⟩
 f31:=Tryz.func147.trans (congrArg Bs (by kernel_rfl))
 f32:=Tryz.func148.trans (congrArg Bs (by kernel_rfl))
 f36:=⟨Tryz.f163.name,by decide,Tryz.func163.trans (congrArg Bs (by kernel_rfl))⟩
 f37:=⟨Tryz.f164.name,by decide,Tryz.func164.trans (congrArg Bs (by kernel_rfl))⟩
 f38:=⟨Tryz.f165.name,by decide,Tryz.func165.trans (congrArg Bs (by kernel_rfl))⟩
 f39:=⟨Tryz.f166.name,by decide,Tryz.func166.trans (congrArg Bs (by kernel_rfl))⟩
 f41:=⟨Tryz.f167.name,by decide,Tryz.func167.trans (congrArg Bs (by kernel_rfl))⟩
 t0:=Tryz.underlying0
 a0:=Tryz.isAgg0
 z0:=Tryz.sizeOf0
 v0:=Tryz.zeroValue0
 t3:=Tryz.underlying3
 a3:=Tryz.isAgg3
 z3:=Tryz.sizeOf3
 v3:=Tryz.zeroValue3
 t4:=Tryz.underlying4
 a4:=Tryz.isAgg4
 z4:=Tryz.sizeOf4
 v4:=Tryz.zeroValue4
 t5:=Tryz.underlying5
 a5:=Tryz.isAgg5
 z5:=Tryz.sizeOf5
 v5:=Tryz.zeroValue5
 t9:=Tryz.underlying9
 a9:=Tryz.isAgg9
 z9:=Tryz.sizeOf9
 v9:=Tryz.zeroValue9
 t26:=Tryz.underlying39
 a26:=Tryz.isAgg39
 z26:=Tryz.sizeOf39
 v26:=Tryz.zeroValue39
 t27:=Tryz.underlying39
 a27:=Tryz.isAgg39
 z27:=Tryz.sizeOf39
 v27:=Tryz.zeroValue39
 t29:=Tryz.underlying9
 a29:=Tryz.isAgg9
 z29:=Tryz.sizeOf9
 v29:=Tryz.zeroValue9
 t32:=Tryz.underlying85
 a32:=Tryz.isAgg85
 z32:=Tryz.sizeOf85
 v32:=Tryz.zeroValue85
 t35:=Tryz.underlying210
 a35:=Tryz.isAgg210
 z35:=Tryz.sizeOf210
 v35:=Tryz.zeroValue210
 t36:=Tryz.underlying211
 a36:=Tryz.isAgg211
 z36:=Tryz.sizeOf211
 v36:=Tryz.zeroValue211
 t41:=Tryz.underlying126
 a41:=Tryz.isAgg126
 z41:=Tryz.sizeOf126
 v41:=Tryz.zeroValue126
 t44:=Tryz.underlying217
 a44:=Tryz.isAgg217
 z44:=Tryz.sizeOf217
 v44:=Tryz.zeroValue217
 t46:=Tryz.underlying219
 a46:=Tryz.isAgg219
 z46:=Tryz.sizeOf219
 v46:=Tryz.zeroValue219
 t53:=Tryz.underlying224
 a53:=Tryz.isAgg224
 z53:=Tryz.sizeOf224
 v53:=Tryz.zeroValue224
 t57:=Tryz.underlying228
 a57:=Tryz.isAgg228
 z57:=Tryz.sizeOf228
 v57:=Tryz.zeroValue228
 t63:=Tryz.underlying237
 a63:=Tryz.isAgg237
 z63:=Tryz.sizeOf237
 v63:=Tryz.zeroValue237
 t64:=Tryz.underlying238
 a64:=Tryz.isAgg238
 z64:=Tryz.sizeOf238
 v64:=Tryz.zeroValue238 }
theorem Nu (m:Nat):AnyZ.SortsIn Tryz.prog q82 XV m:=
 ⟨fun i off cap k W q f h=>callsIn_wide.2 (AnyM.slices_Sort_string R0 i off cap k W q f h),
  fun p cap W=>callsIn_wide.2 (AnyM.slices_Sort_string_none R0 p cap W)⟩
theorem R1 (f:Option Nat) (W:B1):CallsIn XV 5 Tryz.prog 101 #[.map f] W fun e w'=>e=.returned (.func (.func 123) #[] #[.pointer (Bs ⟨W.heap.size,0,B0⟩)])/\w'=W.alloc (.cells #[.map f] 98):=
 AnyZ.keys_in Md XV 5 trivial rfl f W
theorem Mb {H:Type} (b z:Nat) (k:Yv H) (R:Hi->Option (Yv H×List Zc)) (w:B1) (h:w.ownsMap Tryz.prog 9 R b z k) (s:Maps.size k<=VZ) (f:Maps.size k*16<=140737488355328) :
  CallsIn XV 5 Tryz.prog 100 #[.func (.func 123) #[] #[.pointer (Bs ⟨w.heap.size,0,B0⟩)]] (w.alloc (.cells #[.map (Bs b)] 98)) fun e w'=>∃ (v:Hi) (p:List (List UInt8)),e=.returned v/\p.Perm (strKeys k)/\
   w'.ownsRow (w.alloc (.cells #[.map (Bs b)] 98)).heap.size 9 1 v p.length ((p.mergeSort (fun x y=>decide (x<=y))).map encStr)/\(v=.slice B0 0 0↔p=[])/\VJ (w.alloc (.cells #[.map (Bs b)] 98)).heap.size (w.alloc (.cells #[.map (Bs b)] 98)) w':=by
 have u:=h.lt;have q:SeqGives XV 2 Tryz.prog 123 #[.pointer (Bs ⟨w.heap.size,0,B0⟩)] encStr (fun p=>p.Perm (strKeys k)) (Maps.size k) (w.alloc (.cells #[.map (Bs b)] 98)):=
  AnyZ.keys_gives (ρ:=q7r) { Md with } XV _ trivial rfl (by omega) w.heap.size b z k _ (by simp) (by simp) (by
   obtain⟨G,i,E,I,hs,F⟩:=h;exact⟨G,i,(Below.heap_alloc _ _ b u).trans E,I,hs,F⟩)
 exact AnyZ.sorted_in JJ XV 5 trivial trivial trivial trivial rfl (by omega) (Nu _) (enters_of Tryz.func122 (by kernel_rfl) rfl) 123 #[.pointer (Bs ⟨w.heap.size,0,B0⟩)] trivial (enters_of Tryz.func123 (by kernel_rfl) rfl) _ _ s f _ q
theorem JI (w:B1) :
  CallsIn XV 5 Tryz.prog 100 #[.func (.func 123) #[] #[.pointer (Bs ⟨w.heap.size,0,B0⟩)]] (w.alloc (.cells #[.map B0] 98)) fun e w'=>∃ (v:Hi) (f:List (List UInt8)),e=.returned v/\f=[]/\
   w'.ownsRow (w.alloc (.cells #[.map B0] 98)).heap.size 9 1 v f.length ((f.mergeSort (fun x y=>decide (x<=y))).map encStr)/\(v=.slice B0 0 0↔f=[])/\VJ (w.alloc (.cells #[.map B0] 98)).heap.size (w.alloc (.cells #[.map B0] 98)) w':=by
 have h:SeqGives XV 2 Tryz.prog 123 #[.pointer (Bs ⟨w.heap.size,0,B0⟩)] encStr (fun f:List (List UInt8)=>f=[]) 0 (w.alloc (.cells #[.map B0] 98)):=
  AnyZ.keys_gives_nil (ρ:=q7r) { Md with } XV _ trivial rfl w.heap.size _ (by simp) (by simp)
 exact AnyZ.sorted_in JJ XV 5 trivial trivial trivial trivial rfl (by omega) (Nu _) (enters_of Tryz.func122 (by kernel_rfl) rfl) 123 #[.pointer (Bs ⟨w.heap.size,0,B0⟩)] trivial (enters_of Tryz.func123 (by kernel_rfl) rfl) _ 0 (VK _) (by omega) _ h
end
theorem Ht (a:Xb) (n:Nat):(a.add n).block=a.block:=by unfold Addr.add;split <;> rfl
theorem MP (a:Xb) (i j:Nat):(a.add i).add j=a.add (i+j):=by
 unfold Addr.add;by_cases h:i=0 <;> by_cases f:j=0 <;> simp[h,f,Nat.add_assoc]
def DR (w:B1) (B size:Nat) (A:Option Xb) (n:Nat) (xs:List Hi):Prop:=
 xs.length=n*size/\(0<n->∃ f,A=Bs f/\f.block<B/\∀ j u,xs[j]? = Bs u->w.cell? (f.add j)=Bs u)
def Ab (w:B1) (g:Nat) (t:VQ) (cs:Array Hi):Prop:=w.heap[g]? = Bs (.cells cs t (0,0))
section
variable {w w':B1} {g:Nat} {t:VQ} {cs:Array Hi}
theorem Ab.lt (h:Ab w g t cs):g<w.heap.size:=by
 rcases W9 g w.heap.size with f|i
 ·exact f
 ·unfold Ab at h;rw[WX i] at h;cases h
theorem Ab.cell (h:Ab w g t cs) (i:Nat):w.cell? ⟨g,i,B0⟩=cs[i]?:=cell_of_row w g i cs t (0,0) h
theorem Ab.frozen (h:Ab w g t cs) (i:Nat):w.frozen? ⟨g,i,B0⟩=Jx:=by
 unfold Ab at h;simp[World.frozen?,h]
theorem Ab.new (w:B1) (t:VQ) (cs:Array Hi):Ab (w.alloc (.cells cs t)) w.heap.size t cs:=heap_alloc_new w _
theorem Ab.drewN (h:Ab w g t cs) (n:Nat):Ab (w.drewN n) g t cs:=h
theorem Ab.alloc (h:Ab w g t cs) (o:Obj):Ab (w.alloc o) g t cs:=(Below.heap_alloc w o g h.lt).trans h
theorem Ab.aC (h:Ab w g t cs) (i:Nat) (u:Hi):Ab (w.setCell ⟨g,i,B0⟩ u) g t (cs.setIfInBounds i u):=by
 unfold Ab at h ⊢;simp[World.setCell,Array.getElem?_modify,h]
theorem Ab.far (h:Ab w g t cs) {p:Xb} (f:g≠p.block) (u:Hi):Ab (w.setCell p u) g t cs:=(Below.heap_setCell w p u g f).trans h
theorem Ab.below {B:Nat} (h:Ab w g t cs) (i:VJ B w w') (f:g<B):Ab w' g t cs:=(i.block g f).trans h
theorem Ab.ne_ {p:Nat} {t':VQ} {k:Array Hi} (h:Ab w g t cs) (f:Ab w p t' k) (i:t≠t'):g≠p:=by
 rintro rfl;unfold Ab at h f;rw[h] at f;injection f with f;injection f with _ ht;exact i ht
theorem Be {base:Nat} {e:VQ} {size n:Nat} {v:Hi} {xs:List Hi} (h:w.ownsRow base e size v n xs) (k:Ab w g t cs) (f:e≠t):v.ownBlock≠Bs g:=by
 rcases h.2 with ⟨rfl,_⟩|⟨q,cap,s,rfl,_,i,_⟩
 ·simp[V4]
 ·intro p;have:q=g:=by simpa [V4] using p
  subst this;exact Ab.ne_ (t:=e) i k f rfl
end
section
variable {P:WQ} (w:B1)
theorem q7k (base:Nat) (t q e:VQ) (i:TypeInfo) (size:Nat) (k:P.underlying t=Bs (.slice e)) (p:P.info? e=Bs i)
  (v:Hi) (n:Nat) (xs:List Hi) (f:w.ownsRow base e size v n xs) (c:Nat):(Xv #[t,t] q #[v,.slice B0 0 c]).run P w=.ok v w:=by
 rcases f.2 with ⟨rfl,rfl⟩|⟨g,cap,s,rfl,_,_,h,_⟩
 ·simp[Xv,Yu k,YX,typeInfo,p,Builtin.lenOf,XW]
 ·simp[Xv,Yu k,YX,typeInfo,p,Builtin.lenOf,XW,h,storeCells]
theorem qah (base:Nat) (t I e:VQ) (i:TypeInfo) (z:Hi) (size k:Nat) (Y:P.underlying t=Bs (.slice e)) (Z:P.info? e=Bs i) (hz:i.zero=Bs z)
  (y:i.size=size) (R:i.bytes=k) (J:z.cells.size=size) (M:0<size)
  (v:Hi) (n:Nat) (xs:List Hi) (p:w.ownsRow base e size v n xs)
  (B:Nat) (A:Option Xb) (m c:Nat) (f:List Hi) (H:DR w B size A m f) (h1:∀ u∈f,u.oneCell'=T2)
  (U:n+m<=VZ) (s:(n+m)*k<=140737488355328) (E:base<=w.heap.size) :
  ∃ v' w',(Xv #[t,t] I #[v,.slice A m c]).run P w=.ok v' w'/\w'.ownsRow base e size v' (n+m) (xs++f)/\w.grownBy w' v.ownBlock/\
   (v'.ownBlock=v.ownBlock\/v'.ownBlock=Bs w.heap.size):=by
 rcases A with _|W
 ·have hm:m=0:=by
   rcases XJ m with F|F
   ·exact F
   ·obtain⟨W,h,_⟩:=H.2 F;cases h
  subst hm;have O:f=[]:=Ww (by simpa using H.1);subst O;exact⟨v,w,q7k w base t I e i size Y Z v n xs p c,by simpa using p,World.grownBy.refl w _,.inl rfl⟩
 ·have q:∀ j u,f[j]? = Bs u->w.cell? (W.add j)=Bs u:=by
   intro j u X;rcases XJ m with F|F
   ·subst F;have O:f=[]:=Ww (by simpa using H.1);subst O;simp at X
   ·obtain⟨a0,h,_,hc⟩:=H.2 F;injection h with h;subst h;exact hc j u X
  obtain⟨v',w',G,h2,h3,_,h5⟩:=run_append_own_at (P:=P) w base t I e i z size k Y Z hz y R J M v n xs p W m c f H.1 q h1 U s E;exact⟨v',w',G,h2,h3,h5⟩
theorem q4d {o:Xw} {a:Act} {K:Act->B1->Prop} {Q:Yn->Act->B1->Prop} (s x:X6) (t:VQ)
  (W:o.op=.call { callee:=.builtin .append,args:=#[s,x],argTypes:=#[t,t] })
  (base:Nat) (e:VQ) (i:TypeInfo) (z:Hi) (size f:Nat) (R:P.underlying t=Bs (.slice e)) (X:P.info? e=Bs i) (M:i.zero=Bs z)
  (q:i.size=size) (I:i.bytes=f) (G:z.cells.size=size) (H:0<size)
  (v:Hi) (n:Nat) (xs:List Hi) (hs:a.eval s=v) (F:w.ownsRow base e size v n xs)
  (B:Nat) (A:Option Xb) (m c:Nat) (k:List Hi) (O:a.eval x=.slice A m c) (U:DR w B size A m k) (h1:∀ u∈k,u.oneCell'=T2)
  (J:n+m<=VZ) (p:(n+m)*f<=140737488355328) (y:base<=w.heap.size)
  (h:∀ v' w',w'.ownsRow base e size v' (n+m) (xs++k)->w.grownBy w' v.ownBlock->(v'.ownBlock=v.ownBlock\/v'.ownBlock=Bs w.heap.size)->K (a.put o.dst v') w'):o.wp P a w K Q:=by
 obtain⟨v',w',E,h2,Z,Y⟩:=qah (P:=P) w base t o.type e i z size f R X M q I G H v n xs F B A m c k U h1 J p y;unfold Ye Yg;simp only[W,resolve,invoke,builtin,Sem.run_bind,Sem.run_pure,Zb,List.map_toArray,Xt,X8,hs,O,E];exact h v' w' h2 Z Y
theorem q7d {ops:Array Xw} {rest:List Xw} {o:Xw} {a:Act} {Q:Yn->Act->B1->Prop} (H:o.guard=B0) (s x:X6) (t:VQ)
  (W:o.op=.call { callee:=.builtin .append,args:=#[s,x],argTypes:=#[t,t] })
  (base:Nat) (e:VQ) (i:TypeInfo) (z:Hi) (size f:Nat) (R:P.underlying t=Bs (.slice e)) (X:P.info? e=Bs i) (M:i.zero=Bs z)
  (q:i.size=size) (I:i.bytes=f) (F:z.cells.size=size) (G:0<size)
  (v:Hi) (n:Nat) (xs:List Hi) (hs:a.eval s=v) (E:w.ownsRow base e size v n xs)
  (B:Nat) (A:Option Xb) (m c:Nat) (k:List Hi) (O:a.eval x=.slice A m c) (U:DR w B size A m k) (h1:∀ u∈k,u.oneCell'=T2)
  (J:n+m<=VZ) (p:(n+m)*f<=140737488355328) (y:base<=w.heap.size)
  (h:∀ v' w',w'.ownsRow base e size v' (n+m) (xs++k)->w.grownBy w' v.ownBlock->(v'.ownBlock=v.ownBlock\/v'.ownBlock=Bs w.heap.size)->Yb P ops Q rest (a.put o.dst v') w'):Yb P ops Q (o::rest) a w:=
 Yk H fun _ Y=>q4d w s x t W base e i z size f R X M q I F G v n xs hs E B A m c k O U h1 J p y fun v' w' h2 h3 Z=>Y _ _ (h v' w' h2 h3 Z)
end
def Stop (p:Prop):Prop:=p
theorem stop {p:Prop} (h:Stop p):p:=h
theorem Cn {p:Prop} (h:p):Stop p:=h
structure Fr (S:Nat->Prop) (w w':B1):Prop where
 os:w'.os=w.os
 tape:w'.tape=w.tape
 output:w'.output=w.output
 size:w.heap.size<=w'.heap.size
 block:∀ k,k<w.heap.size->¬S k->w'.heap[k]? = w.heap[k]?
section
variable {S T:Nat->Prop} {a b c w w':B1}
theorem Fr.refl (S:Nat->Prop) (w:B1):Fr S w w:=⟨rfl,rfl,rfl,L1 _,fun _ _ _=>rfl⟩
theorem Fr.trans' (h:Fr S a b) (k:Fr T b c) (s:∀ i,i<a.heap.size->T i->S i):Fr S a c:=
 ⟨k.os.trans h.os,k.tape.trans h.tape,k.output.trans h.output,VO h.size k.size,fun i f p=>(k.block i (VH f h.size) (fun q=>p (s i f q))).trans (h.block i f p)⟩
theorem Fr.trans (h:Fr S a b) (k:Fr S b c):Fr S a c:=h.trans' k fun _ _ x=>x
theorem Fr.mono (h:Fr S a b) (p:∀ i,i<a.heap.size->S i->T i):Fr T a b:=⟨h.os,h.tape,h.output,h.size,fun i f k=>h.block i f (fun hs=>k (p i f hs))⟩
theorem Fr.drew (h:Fr S a w):Fr S a w.drew:=⟨h.os,h.tape,h.output,h.size,h.block⟩
theorem Fr.drewN (h:Fr S a w) (n:Nat):Fr S a (w.drewN n):=⟨h.os,h.tape,h.output,h.size,h.block⟩
theorem Fr.alloc (h:Fr S a w) (o:Obj):Fr S a (w.alloc o):=h.trans ⟨rfl,rfl,rfl,by simp,fun k f _=>Below.heap_alloc _ _ _ f⟩
theorem Fr.setCell (h:Fr S a w) {p:Xb} (f:S p.block\/a.heap.size<=p.block) (u:Hi):Fr S a (w.setCell p u):=
 ⟨h.os,h.tape,h.output,by simpa [World.setCell] using h.size,fun k q i=>(Below.heap_setCell w p u k (by
  rintro rfl;rcases f with f|f
  ·exact i f
  ·omega)).trans (h.block k q i)⟩
theorem Fr.below {B:Nat} (h:Fr S a b) (f:∀ i,S i->B<=i) (q:B<=a.heap.size):VJ B a b:=⟨h.os,h.tape,h.output,h.size,fun k p=>h.block k (by omega) (fun hs=>by have:=f k hs;omega)⟩
theorem Below.fr (h:VJ w.heap.size w w') (S:Nat->Prop):Fr S w w':=⟨h.os,h.tape,h.output,h.size,fun k f _=>h.block k f⟩
theorem Fr.aP {f:Option Nat} (h:w.grownBy w' f) (i:∀ k,f=Bs k->S k):Fr S w w':=⟨h.os,h.tape,h.output,h.size,fun k q p=>h.block k q (fun e=>p (i k e.symm))⟩
theorem Fr.aU (h:Fr (fun _=>False) w w'):VJ w.heap.size w w':=⟨h.os,h.tape,h.output,h.size,fun k f=>h.block k f (fun x=>x)⟩
theorem Fr.cell (h:Fr S w w') {p:Xb} (f:p.block<w.heap.size) (i:¬S p.block):w'.cell? p=w.cell? p:=World.cell?_of_block (h.block p.block f i)
theorem Fr.ah {g:Nat} {t:VQ} {cs:Array Hi} (h:Fr S w w') (f:Ab w g t cs) (i:¬S g):Ab w' g t cs:=(h.block g f.lt i).trans f
theorem Fr.own {base:Nat} {e:VQ} {size n:Nat} {v:Hi} {xs:List Hi} (h:Fr S w w') (k:w.ownsRow base e size v n xs) (p:∀ g,v.ownBlock=Bs g->¬S g):w'.ownsRow base e size v n xs:=by
 refine⟨k.1,?_⟩;rcases k.2 with q|⟨g,cap,i,rfl,s,f,rest⟩
 ·exact .inl q
 ·exact .inr ⟨g,cap,i,rfl,s,(h.block g (Array.getElem?_eq_some_iff.1 f).1 (p g rfl)).trans f,rest⟩
end
theorem Fr.ax (p:Nat) (w:B1) (i:Nat) (u:Hi):Fr (fun k=>k=p) w (w.setCell ⟨p,i,B0⟩ u):=(Fr.refl (fun k=>k=p) w).setCell (p:=⟨p,i,B0⟩) (.inl rfl) u
def Rd (w:B1) (B size:Nat) (A:Option Xb) (n:Nat) (xs:List Hi):Prop:=
 xs.length=n*size/\(0<n->∃ g off,A=Bs ⟨g,off,B0⟩/\g<B/\∀ j u,xs[j]? = Bs u->w.cell? ⟨g,off+j,B0⟩=Bs u)
section
variable {w w':B1} {B size n:Nat} {A:Option Xb} {xs:List Hi}
theorem Rd.reads (h:Rd w B size A n xs):DR w B size A n xs:=⟨h.1,fun p=>by
 obtain⟨g,off,rfl,k,i⟩:=h.2 p;exact⟨_,rfl,k,fun j u f=>by rw[WJ];exact i j u f⟩⟩
theorem Rd.none_ (w:B1) (B size:Nat) (A:Option Xb):Rd w B size A 0 []:=⟨by simp,fun h=>absurd h (by omega)⟩
theorem Rd.fr {S:Nat->Prop} (h:Rd w B size A n xs) (q:Fr S w w') (y:B<=w.heap.size) (k:∀ g off,A=Bs ⟨g,off,B0⟩->0<n->¬S g):Rd w' B size A n xs:=
 ⟨h.1,fun f=>by
  obtain⟨g,off,e,v,s⟩:=h.2 f;exact⟨g,off,e,v,fun j u i=>(q.cell (p:=⟨g,off+j,B0⟩) (by show g<_;omega) (k g off e f)).trans (s j u i)⟩⟩
theorem Rd.more {B':Nat} (h:Rd w B size A n xs) (p:B<=B'):Rd w B' size A n xs:=
 ⟨h.1,fun i=>by
  obtain⟨g,off,e,k,f⟩:=h.2 i;exact⟨g,off,e,by omega,f⟩⟩
theorem Rd.below (h:Rd w B size A n xs) (q:VJ B w w'):Rd w' B size A n xs:=
 ⟨h.1,fun s=>by
  obtain⟨g,off,e,f,k⟩:=h.2 s;exact⟨g,off,e,f,fun j u i=>(q.cell (p:=⟨g,off+j,B0⟩) f).trans (k j u i)⟩⟩
theorem Rd.au {base:Nat} {e:VQ} {c:Nat} (h:w.ownsRow base e size (.slice A n c) n xs):Rd w w.heap.size size A n xs:=by
 refine⟨h.1,fun p=>?_⟩;obtain⟨g,cap,i,_,f⟩:=h.form p;have q:A=Bs ⟨g,0,B0⟩:=by injection i
 subst q;exact⟨g,0,rfl,f,fun j u k=>by have:=h.cells (g:=g) rfl j u k;rwa [WJ] at this⟩
theorem Rd.lit (w:B1) (cs:Array Hi) (e:VQ) (n size:Nat) (hs:cs.size=n*size):Rd (w.alloc (.cells cs e)) (w.heap.size+1) size (Bs ⟨w.heap.size,0,B0⟩) n cs.toList:=
 ⟨by simpa using hs,fun _=>⟨w.heap.size,0,rfl,by omega,fun j u f=>by
  have:=(Ab.new w e cs).cell j;rw[Wg,this];simpa using f⟩⟩
theorem Rd.bQ {k:Nat} (h:Rd w B 1 A n xs) (q:k<n):∃ g off u,A=Bs ⟨g,off,B0⟩/\g<B/\xs[k]? = Bs u/\w.cell? ⟨g,off+k,B0⟩=Bs u:=by
 obtain⟨g,off,e,p,i⟩:=h.2 (by omega);have f:k<xs.length:=by have:=h.1;omega
 exact⟨g,off,xs[k],e,p,K0 f,i k _ (K0 f)⟩
end
def Aq (w w':B1) (b f:Option Nat):Prop:=Fr (fun k=>Bs k=b) w w'/\(f=b\/∃ g,f=Bs g/\w.heap.size<=g)
theorem Aq.trans {a b c:B1} {x y z:Option Nat} (h:Aq a b x y) (k:Aq b c y z):Aq a c x z:=by
 obtain⟨u,f⟩:=h;obtain⟨v,p⟩:=k;refine⟨u.trans' v (fun i E q=>?_),?_⟩
 ·rcases f with f|⟨g,f,s⟩
  ·rw[f] at q;exact q
  ·rw[f] at q;injection q;omega
 ·rcases p with p|⟨g,p,s⟩
  ·rw[p];exact f
  ·exact .inr ⟨g,p,VO u.size s⟩
theorem Aq.alloc (w:B1) (o:Obj) (b:Option Nat):Aq w (w.alloc o) b b:=⟨(Fr.refl _ _).alloc o,.inl rfl⟩
theorem Aq.size {w w':B1} {b f:Option Nat} (h:Aq w w' b f):w.heap.size<=w'.heap.size:=h.1.size
theorem Aq.below {w w':B1} {b q:Option Nat} {B:Nat} (h:Aq w w' b q) (k:∀ g,b=Bs g->B<=g) (p:B<=w.heap.size):VJ B w w':=h.1.below (fun i f=>k i f.symm) p
theorem Aq.bk {w w':B1} {v v':Hi} (p:w.grownBy w' v.ownBlock) (f:v'.ownBlock=v.ownBlock\/v'.ownBlock=Bs w.heap.size):Aq w w' v.ownBlock v'.ownBlock:=by
 refine⟨Fr.aP p (fun k i=>i.symm),?_⟩;rcases f with h|h
 ·exact .inl h
 ·exact .inr ⟨_,h,L1 _⟩
theorem Nf {P:WQ} (w:B1) (X:Obj) {ops:Array Xw} {rest:List Xw} {o:Xw} {a:Act} {Q:Yn->Act->B1->Prop} (M:o.guard=B0) (s x:X6) (t:VQ)
  (ho:o.op=.call { callee:=.builtin .append,args:=#[s,x],argTypes:=#[t,t] })
  (base:Nat) (e:VQ) (z:Hi) (size f:Nat) (ht:P.underlying t=Bs (.slice e)) (J:(P.info? e).map (fun i=>(i.zero,i.size,i.bytes))=Bs (Bs z,size,f)) (G:z.cells.size=size) (BD:0<size)
  (v:Hi) (n:Nat) (xs:List Hi) (y:Array Hi) (hs:a.eval s=v) (E:w.ownsRow base e size v n xs)
  (c:Nat) (Z:a.eval x=.slice (Bs ⟨w.heap.size,0,B0⟩) 1 c) (e1:VQ) (I:X=.cells y e1) (H:y.size=size) (h1:∀ u∈y.toList,u.oneCell'=T2)
  (W:n+1<=VZ) (k:(n+1)*f<=140737488355328) (R:base<=w.heap.size)
  (h:∀ v' w',w'.ownsRow base e size v' (n+1) (xs++y.toList)->Aq w w' v.ownBlock v'.ownBlock->Yb P ops Q rest (a.put o.dst v') w') :
  Yb P ops Q (o::rest) a (w.alloc X):=by
 obtain⟨i,J,Y,p,O⟩:=Yy J;subst I;refine wpList_append_own_at _ M s x t ho base e i z size f ht J Y p O G BD v n xs hs (E.alloc _) ⟨w.heap.size,0,B0⟩ 1 c y.toList Z (by simp[H]) (fun j u hu=>?_) h1 W k (by simp;omega)
  fun v' w' q hg _ U=>h v' w' q ((Aq.alloc w _ _).trans (Aq.bk hg U))
 have F:(⟨w.heap.size,0,B0⟩:Xb).add j=⟨w.heap.size,j,B0⟩:=by unfold Addr.add;split <;> simp_all
 rw[F,(Ab.new w e1 y).cell j];simpa using hu
theorem q1e {P:WQ} (w:B1) {ops:Array Xw} {rest:List Xw} {o:Xw} {a:Act} {Q:Yn->Act->B1->Prop} (I:o.guard=B0) (s x:X6) (t:VQ)
  (Y:o.op=.call { callee:=.builtin .append,args:=#[s,x],argTypes:=#[t,t] })
  (base:Nat) (e:VQ) (z:Hi) (size f:Nat) (W:P.underlying t=Bs (.slice e)) (H:(P.info? e).map (fun i=>(i.zero,i.size,i.bytes))=Bs (Bs z,size,f)) (G:z.cells.size=size) (BD:0<size)
  (v:Hi) (n:Nat) (xs:List Hi) (hs:a.eval s=v) (F:w.ownsRow base e size v n xs)
  (B:Nat) (A:Option Xb) (m c:Nat) (k:List Hi) (U:a.eval x=.slice A m c) (X:DR w B size A m k) (h1:∀ u∈k,u.oneCell'=T2)
  (O:n+m<=VZ) (p:(n+m)*f<=140737488355328) (E:base<=w.heap.size)
  (h:∀ v' w',w'.ownsRow base e size v' (n+m) (xs++k)->Aq w w' v.ownBlock v'.ownBlock->Yb P ops Q rest (a.put o.dst v') w') :
  Yb P ops Q (o::rest) a w:=by
 obtain⟨i,H,R,q,J⟩:=Yy H;exact q7d w I s x t Y base e i z size f W H R q J G BD v n xs hs F B A m c k U X h1 O p E
  fun v' w' y Z M=>h v' w' y (Aq.bk Z M)
theorem q2k {P:WQ} (w:B1) {o:Xw} {a:Act} {K:Act->B1->Prop} {Q:Yn->Act->B1->Prop} (s x:X6) (t:VQ)
  (X:o.op=.call { callee:=.builtin .append,args:=#[s,x],argTypes:=#[t,t] })
  (base:Nat) (e:VQ) (z:Hi) (size f:Nat) (U:P.underlying t=Bs (.slice e)) (H:(P.info? e).map (fun i=>(i.zero,i.size,i.bytes))=Bs (Bs z,size,f)) (G:z.cells.size=size) (BD:0<size)
  (v:Hi) (n:Nat) (xs:List Hi) (hs:a.eval s=v) (F:w.ownsRow base e size v n xs)
  (B:Nat) (A:Option Xb) (m c:Nat) (k:List Hi) (R:a.eval x=.slice A m c) (W:DR w B size A m k) (Z:∀ u∈k,u.oneCell'=T2)
  (M:n+m<=VZ) (p:(n+m)*f<=140737488355328) (E:base<=w.heap.size)
  (h:∀ v' w',w'.ownsRow base e size v' (n+m) (xs++k)->Aq w w' v.ownBlock v'.ownBlock->K (a.put o.dst v') w'):o.wp P a w K Q:=by
 obtain⟨i,H,O,q,I⟩:=Yy H;exact q4d w s x t X base e i z size f U H O q I G BD v n xs hs F B A m c k R W Z M p E
  fun v' w' y Y J=>h v' w' y (Aq.bk Y J)
theorem AK {w:B1} {base e size n:Nat} {v:Hi} {xs:List Hi} (h:w.ownsRow base e size v n xs):∃ A c,v=.slice A n c/\n<=c/\(∀ f,A=Bs f->v.ownBlock=Bs f.block):=by
 rcases h.2 with ⟨rfl,rfl⟩|⟨g,cap,k,rfl,_,_,i,_⟩
 ·exact⟨B0,0,rfl,L1 _,fun f h=>by cases h⟩
 ·exact⟨_,_,rfl,i,fun f h=>by injection h with h;subst h;rfl⟩
section
open Go.RowKit Go.Maps Go.WideMaps
structure CQ (P:WQ) (kt:VQ) (κ:Type) where
 law:Keyed P kt
 kl:κ->Lit
 val:κ->Hi
 ok:κ->Prop
 mkk:∀ x,ok x->keyOf P kt (val x)=Bs (kl x)
 inv:∀ v l,keyOf P kt v=Bs l->∃ x,ok x/\v=val x/\l=kl x
 inj:∀ x y,kl x=kl y->x=y
def keyI {P:WQ} {kt:VQ} (h:P.underlying kt=Bs (.int .i64)):CQ P kt Int where
 law:=int_keyed h
 kl x:=.int .i64 x
 val x:=.int .i64 x
 ok x:=(Lit.int .i64 x).wf=T2
 mkk x hx:=keyOf_int_mk h hx
 inv v l hv:=by obtain⟨x,k,i,f⟩:=Maps.keyOf_int_inv h hv;exact⟨x,f,k,i⟩
 inj x y e:=by injection e
def keyS {P:WQ} {kt:VQ} (h:P.underlying kt=Bs .string):CQ P kt ByteArray where
 law:=string_keyed h
 kl s:=.string s.data.toList
 val s:=.string s
 ok s:=s.size<=VZ
 mkk s hs:=keyOf_string_mk h hs
 inv v l hv:=by
  cases v <;> simp[keyOf,h,mapKey] at hv;rename_i s;exact⟨s,hv.1,rfl,hv.2.symm⟩
 inj s t e:=by
  injection e with e;have:s.data=t.data:=Array.ext' e;cases s;cases t;simp_all
def CW (v:Hi):Option (Yv Hi×List Zc):=Bs (.held v,[])
section
variable {P:WQ} {kt:VQ} {κ:Type}
theorem CQ.key (C:CQ P kt κ) {x:κ} (f:C.ok x):WideAt.IsKeyLit (C.kl x):=C.law.key (C.mkk x f)
def Dy (C:CQ P kt κ) (D:Yv Hi) (m:κ->Option Hi):Prop:=
 ∀ x,C.ok x->Maps.has D (C.kl x)=(m x).isSome/\∀ v,m x=Bs v->∀ z,D.atKey (C.kl x) z=.held v
def Aa (C:CQ P kt κ) (w:B1) (b n:Nat) (m:κ->Option Hi):Prop:=∃ D:Yv Hi,w.ownsMap P kt CW b n D/\Dy C D m
variable {C:CQ P kt κ} {w w':B1} {b n:Nat} {m:κ->Option Hi}
theorem Aa.lt (h:Aa C w b n m):b<w.heap.size:=by obtain⟨D,h,_⟩:=h;exact h.lt
theorem Aa.mono (h:Aa C w b n m) {n':Nat} (i:n<=n'):Aa C w b n' m:=by obtain⟨D,h,f⟩:=h;exact⟨D,h.mono i,f⟩
theorem Aa.of_block (h:Aa C w b n m) (e:w'.heap[b]? = w.heap[b]?):Aa C w' b n m:=by
 obtain⟨D,⟨p,f,k,r⟩,i⟩:=h;exact⟨D,⟨p,f,e.trans k,r⟩,i⟩
theorem Aa.fr {S:Nat->Prop} (h:Aa C w b n m) (i:Fr S w w') (f:¬S b):Aa C w' b n m:=h.of_block (i.block b h.lt f)
theorem Aa.below {B:Nat} (h:Aa C w b n m) (f:VJ B w w') (i:b<B):Aa C w' b n m:=h.of_block (f.block b i)
theorem Aa.drewN (h:Aa C w b n m) (k:Nat):Aa C (w.drewN k) b n m:=h
theorem Aa.alloc (h:Aa C w b n m) (o:Obj):Aa C (w.alloc o) b n m:=h.fr (S:=fun _=>False) ((Fr.refl _ _).alloc o) (fun x=>x)
theorem Aa.a6 {g:Nat} {t:VQ} {cs:Array Hi} (h:Aa C w b n m) (f:Ab w g t cs):b≠g:=by
 rintro rfl;obtain⟨D,⟨k,i,e,_⟩,_⟩:=h;unfold Ab at f;rw[e] at f;cases f
theorem Aa.aG {base size k:Nat} {e:VQ} {v:Hi} {xs:List Hi} (h:Aa C w b n m) (p:w.ownsRow base e size v k xs):v.ownBlock≠Bs b:=by
 rcases p.2 with ⟨rfl,_⟩|⟨g,cap,s,rfl,_,i,_⟩
 ·simp[V4]
 ·intro q;have:g=b:=by simpa [V4] using q
  subst this;obtain⟨D,⟨u,f,e,_⟩,_⟩:=h;rw[e] at i;cases i
theorem ID (C:CQ P kt κ):Dy C (.map []) (fun _=>B0):=fun s _=>⟨rfl,fun v h=>by cases h⟩
theorem Aa.made (C:CQ P kt κ) (w:B1):Aa C (w.alloc (.map #[] 0)) w.heap.size 0 (fun _=>B0):=⟨_,World.ownsMap_made w _ _ _,ID C⟩
open Classical in
noncomputable def AU (m:κ->Option Hi) (x:κ) (v:Option Hi):κ->Option Hi:=fun y=>if y=x then v else m y
theorem q9d (m:κ->Option Hi) (x:κ) (v:Option Hi):AU m x v x=v:=by unfold AU;rw[if_pos rfl]
theorem GU {m:κ->Option Hi} {x y:κ} (h:y≠x) (v:Option Hi):AU m x v y=m y:=by unfold AU;rw[if_neg h]
theorem Dy.set {D:Yv Hi} (h:Dy C D m) (p:IsMap D) (x:κ) (v:Hi):Dy C (D.put (C.kl x) (.held v)) (AU m x (Bs v)):=fun t k=>by
 by_cases e:t=x
 ·subst e;rw[has_put_same p (C.key k),q9d];refine⟨rfl,fun u f z=>?_⟩;rw[atKey_put_same p (C.key k)];injection f with f;rw[f]
 ·have i:C.kl t≠C.kl x:=fun q=>e (C.inj _ _ q)
  rw[has_put_other i,GU e];refine⟨(h t k).1,fun u f z=>?_⟩;rw[atKey_put_other i];exact(h t k).2 u f z
theorem Dy.del {D:Yv Hi} (h:Dy C D m) (x:κ):Dy C (D.del (C.kl x)) (AU m x B0):=fun t k=>by
 by_cases e:t=x
 ·subst e;rw[has_del_same,q9d];exact⟨rfl,fun u i z=>by cases i⟩
 ·have f:C.kl t≠C.kl x:=fun p=>e (C.inj _ _ p)
  rw[has_del_other f,GU e];refine⟨(h t k).1,fun u i z=>?_⟩;rw[atKey_del_other f];exact(h t k).2 u i z
theorem Sb {v:Hi} {d:Yv Hi} {ps:List Zc} (h:CW v=Bs (d,ps)):d=.held v:=by
 unfold CW at h;injection h with h;injection h with h _;exact h.symm
theorem Aa.look (h:Aa C w b n m) {t e:VQ} (F:P.underlying t=Bs (.map kt e)) {z:Hi} (E:(X5 e).run P w=.ok z w) {x:κ} (q:C.ok x) :
  (XH t (.map (Bs b)) (C.val x) T2).run P w=.ok (.tuple #[(m x).getD z,.bool (m x).isSome]) w/\(XH t (.map (Bs b)) (C.val x) Jx).run P w=.ok ((m x).getD z) w:=by
 obtain⟨D,G,J⟩:=h;obtain⟨I,M⟩:=J x q;have f:∀ (v:Hi) (ps:List Zc),CW v=Bs (D.atKey (C.kl x) (.held z),ps)->v=(m x).getD z:=fun v ps u=>by
  have e:=Sb u;rcases H:m x with _|y
  ·rw[atKey_of_not_has (by rw[I,H];rfl)] at e;injection e with e;exact e.symm
  ·rw[M y H] at e;injection e with e;exact e.symm
 obtain⟨v,ps,k,u⟩:=G.look_ok C.law F E (zd:=.held z) (zp:=[]) rfl (C.mkk x q);obtain⟨v',p,i,s⟩:=G.lookup C.law F E (zd:=.held z) (zp:=[]) rfl (C.mkk x q);rw[k,i,f v ps u,f v' p s,I];exact⟨rfl,rfl⟩
theorem Pa (C:CQ P kt κ) (w:B1) {t e:VQ} (i:P.underlying t=Bs (.map kt e)) {z:Hi} (f:(X5 e).run P w=.ok z w) {x:κ} (h:C.ok x) :
  (XH t (.map B0) (C.val x) T2).run P w=.ok (.tuple #[z,.bool Jx]) w/\(XH t (.map B0) (C.val x) Jx).run P w=.ok z w:=
 ⟨Maps.look_nil T2 C.law i f (C.mkk x h),Maps.look_nil Jx C.law i f (C.mkk x h)⟩
theorem Aa.len (h:Aa C w b n m) {t e:VQ} (U:P.underlying t=Bs (.map kt e)):∃ k:Nat,(∀ E,(Builtin.len_ #[t] E #[.map (Bs b)]).run P w=.ok (.int .i64 k) w)/\k<=n/\(k=0↔∀ x,C.ok x->m x=B0):=by
 obtain⟨D,z,O⟩:=h;refine⟨Maps.size D,fun E=>z.len U E,z.size_le,fun J x u=>?_,fun J=>?_⟩
 ·have q:=(O x u).1;obtain⟨s,rfl⟩:=z.isMap;have:s=[]:=Ww J;subst this;rcases X:m x with _|y
  ·rfl
  ·rw[X] at q;cases q
 ·obtain⟨s,I,_,Y⟩:=z.entries C.law;obtain⟨i,M,Z,F,hs,H⟩:=z;rcases s with _|⟨p,s⟩
  ·rw[I];rfl
  ·exfalso;have f:=Maps.fit_keys F;have W:p∈(i.toList.map (Go.WideElems.rg P kt CW)):=by
    have:p∈((i.toList.map (Go.WideElems.rg P kt CW)).foldr DataW.insert []):=by
     have e:DataW.map ((i.toList.map (Go.WideElems.rg P kt CW)).foldr DataW.insert [])=.map (p::s):=H.symm.trans I;injection e with e;rw[e];exact List.mem_cons_self ..
    exact mem_sorted.1 this
   obtain⟨v,G⟩:=f p W;obtain⟨x,u,_,R⟩:=C.inv v _ G;have q:=(O x u).1;rw[J x u,I] at q;have:Maps.has (DataW.map (p::s)) (C.kl x)=T2:=by
    rw[has_eq,List.any_cons,<- R,WideAt.sameKey_self (by rw[R];exact C.key u)];rfl
   rw[this] at q;cases q
theorem Aa.cr (f:w.grownBy w' (Bs b)):Fr (fun k=>k=b) w w':=Fr.aP f (fun k e=>(Wj e).symm)
theorem Aa.store (h:Aa C w b n m) {t e:VQ} (y:P.underlying t=Bs (.map kt e)) (z:n<VZ) {x:κ} (u:C.ok x) (v:Hi) :
  ∃ w',(Instr.mapUpdate t (.map (Bs b)) (C.val x) v).run P w=.ok () w'/\Aa C w' b (n+1) (AU m x (Bs v))/\Fr (fun k=>k=b) w w':=by
 obtain⟨D,p,f⟩:=h;obtain⟨w',i,s,q⟩:=p.update C.law y z (C.mkk x u) (d:=.held v) (ps:=[]) rfl;exact⟨w',i,⟨_,s,f.set p.isMap x v⟩,Aa.cr q⟩
theorem Aa.drop (h:Aa C w b n m) {t e:VQ} (v:P.underlying t=Bs (.map kt e)) {x:κ} (u:C.ok x) (p:VQ) :
  ∃ w',(Builtin.delete_ #[t,kt] p #[.map (Bs b),C.val x]).run P w=.ok (.tuple #[]) w'/\Aa C w' b n (AU m x B0)/\Fr (fun k=>k=b) w w':=by
 obtain⟨D,y,f⟩:=h;obtain⟨w',i,s,q⟩:=y.drop C.law v (C.mkk x u) p;exact⟨w',i,⟨_,s,f.del x⟩,Aa.cr q.grown⟩
def DT (C:CQ P kt κ) (w:B1) (b r n:Nat) (m:κ->Option Hi) (left:κ->Bool) (cnt:Nat):Prop:=
 ∃ (D:Yv Hi) (l:Lit->Bool),w.ranges P kt CW b r n D l cnt/\Dy C D m/\∀ x,C.ok x->l (C.kl x)=left x
variable {r cnt:Nat} {left:κ->Bool}
theorem DT.owns (h:DT C w b r n m left cnt):Aa C w b n m:=by obtain⟨D,l,i,f,_⟩:=h;exact⟨D,i.owns,f⟩
theorem DT.lt (h:DT C w b r n m left cnt):r<w.heap.size:=by obtain⟨D,l,f,i,_⟩:=h;exact f.lt
theorem DT.bj (h:DT C w b r n m left cnt) (e:w'.heap[b]? = w.heap[b]?) (F:w'.heap[r]? = w.heap[r]?):DT C w' b r n m left cnt:=by
 obtain⟨D,l,⟨E,i,f,k,G,s,z,y,v,q,u⟩,p⟩:=h;exact⟨D,l,⟨E,i,f,k,G,e.trans s,z,y,v,F.trans q,u⟩,p⟩
theorem DT.fr {S:Nat->Prop} (h:DT C w b r n m left cnt) (f:Fr S w w') (k:¬S b) (i:¬S r):DT C w' b r n m left cnt:=
 h.bj (f.block b h.owns.lt k) (f.block r h.lt i)
theorem Aa.range (h:Aa C w b n m) {t e:VQ} (u:P.underlying t=Bs (.map kt e)) :
  ∃ w' cnt,(Instr.range t (.map (Bs b))).run P w=.ok (.pointer (Bs ⟨w.heap.size,0,B0⟩)) w'/\DT C w' b w.heap.size n m (fun x=>(m x).isSome) cnt/\Fr (fun _=>False) w w'/\w'.heap.size=w.heap.size+1:=by
 obtain⟨D,v,i⟩:=h;obtain⟨w',f,q,p,k⟩:=v.range C.law u;exact⟨w',_,f,⟨D,_,q,i,fun x s=>(i x s).1⟩,Fr.aP p (fun _ e=>by cases e),k⟩
open Classical in
theorem DT.next (h:DT C w b r n m left cnt) (G:VQ) :
  (cnt=0/\(∀ x,C.ok x->left x=Jx)/\(Instr.next (.pointer (Bs ⟨r,0,B0⟩)) Jx G).run P w=.ok (.tuple #[.bool Jx]) w)\/
  ∃ x v w' f,C.ok x/\left x=T2/\m x=Bs v/\(Instr.next (.pointer (Bs ⟨r,0,B0⟩)) Jx G).run P w=.ok (.tuple #[.bool T2,C.val x,v]) w'/\
   DT C w' b r n m (fun y=>left y && !decide (y=x)) f/\f<cnt/\Fr (fun k=>k=r) w w'/\w'.heap.size=w.heap.size/\(Instr.entry (.pointer (Bs ⟨r,0,B0⟩))).run P w'=.ok (.tuple #[C.val x,v]) w':=by
 obtain⟨D,l,hr,Y,R⟩:=h;rcases hr.next C.law G with ⟨h0,F,X⟩|⟨H,v,kl,y,w',f,s,O,i,z,q,J,M,U,I,W⟩
 ·exact .inl ⟨h0,fun x p=>by rw[<- R x p,F],X⟩
 ·obtain⟨x,p,rfl,rfl⟩:=C.inv H kl s;obtain⟨F,X⟩:=Y x p;have E:y=(.held v,[]):=by unfold CW at i;injection i with i;exact i.symm
  subst E;have hm:m x=Bs v:=by
   rw[has_true_of_atKey z] at F;obtain⟨u,Z⟩:=Option.isSome_iff_exists.1 F.symm;have:=(X u Z (.held v)).symm.trans (z (.held v));injection this with this;rw[Z,this]
  refine .inr ⟨x,v,w',f,p,by rw[<- R x p];exact O,hm,q,⟨D,_,J,Y,fun y E=>?_⟩,M,Aa.cr U,I,W⟩;rw[R y E];by_cases e:y=x
  ·subst e;rw[WideAt.sameKey_self (C.key E)];simp
  ·rw[sameKey_ne (fun e2=>e (C.inj _ _ e2))];simp[e]
end
section
variable {P:WQ} {kt:VQ} {κ:Type} {C:CQ P kt κ} {w:B1} {ops:Array Xw} {rest:List Xw} {o:Xw} {a:Act} {Q:Yn->Act->B1->Prop} {K:Act->B1->Prop} {b n:Nat} {m:κ->Option Hi}
theorem Gw (t e:VQ) (F:P.underlying t=Bs (.map kt e)) (s x v:X6) (q:o.op=Op.mapUpdate t s x v) (H:a.eval s=.map (Bs b)) (p:Aa C w b n m) (G:n<VZ) (h:κ) (f:Hi) (z:a.eval x=C.val h) (E:a.eval v=f)
  (I:C.ok h) (J:∀ w',Aa C w' b (n+1) (AU m h (Bs f))->Fr (fun k=>k=b) w w'->K (a.put o.dst Yc) w'):o.wp P a w K Q:=by
 obtain⟨w',i,y,u⟩:=p.store F G I f;unfold Ye;simp[Yg,q,H,z,E,i,WV];exact J _ y u
theorem TF (H:o.guard=B0) (t e:VQ) (z:P.underlying t=Bs (.map kt e)) (p x v:X6) (q:o.op=Op.mapUpdate t p x v) (F:a.eval p=.map (Bs b)) (i:Aa C w b n m) (E:n<VZ) (f:κ) (h:Hi) (u:a.eval x=C.val f) (y:a.eval v=h)
  (G:C.ok f) (I:∀ w',Aa C w' b (n+1) (AU m f (Bs h))->Fr (fun k=>k=b) w w'->Yb P ops Q rest (a.put o.dst Yc) w'):Yb P ops Q (o::rest) a w:=
 Yk H fun _ s=>Gw t e z p x v q F i E f h u y G fun w' M J=>s _ _ (I w' M J)
theorem TN (t e:VQ) (y:P.underlying t=Bs (.map kt e)) (q x:X6) (p:o.op=Op.call { callee:=Callee.builtin Builtin.delete,args:=#[q,x],argTypes:=#[t,kt] }) (z:a.eval q=.map (Bs b)) (i:Aa C w b n m) (f:κ) (v:a.eval x=C.val f)
  (E:C.ok f) (F:∀ w',Aa C w' b n (AU m f B0)->Fr (fun k=>k=b) w w'->K (a.put o.dst (.tuple #[])) w'):o.wp P a w K Q:=by
 obtain⟨w',h,u,s⟩:=i.drop y E o.type;unfold Ye;simp[Yg,p,resolve,invoke,builtin,z,v,h,WV];exact F _ u s
theorem It (z:o.guard=B0) (t e:VQ) (u:P.underlying t=Bs (.map kt e)) (i x:X6) (p:o.op=Op.call { callee:=Callee.builtin Builtin.delete,args:=#[i,x],argTypes:=#[t,kt] }) (v:a.eval i=.map (Bs b)) (h:Aa C w b n m) (f:κ) (s:a.eval x=C.val f)
  (y:C.ok f) (E:∀ w',Aa C w' b n (AU m f B0)->Fr (fun k=>k=b) w w'->Yb P ops Q rest (a.put o.dst (.tuple #[])) w'):Yb P ops Q (o::rest) a w:=
 Yk z fun _ q=>TN t e u i x p v h f s y fun w' G F=>q _ _ (E w' G F)
end
end
def enc (n:Nat):List Nat:=if n<128 then [n] else(n % 128+128)::enc (n / 128)
termination_by n
decreasing_by omega
def strOf (l:List Nat):ByteArray:=⟨(l.map UInt8.ofNat).toArray⟩
structure Pr where
 key:ByteArray
 val:ByteArray
 gone:Bool
structure Cm where
 ag:Int
 tx:Int
 ae:Int
 aa:List Pr
structure Ms where
 ag:Int
 from_:Int
 a4:Int
 ab:Int
 n:Int
 cmd:Cm
def small (p:Pr):Prop:=p.key.size<=1048576/\p.val.size<=1048576
def C9 (p:Pr):List Hi:=[.string p.key,.string p.val,.bool p.gone]
theorem J2:∀ (l:List Pr) (j:Nat) (p:Pr),l[j]? = Bs p->(l.flatMap C9)[j*3]? = Bs (.string p.key)/\(l.flatMap C9)[j*3+1]? = Bs (.string p.val)/\(l.flatMap C9)[j*3+2]? = Bs (.bool p.gone)
 | [],j,p,h=>by simp at h
 | q::l,0,p,h=>by
  simp at h;subst h;simp[C9]
 | q::l,j+1,p,h=>by
  have f:l[j]? = Bs p:=by simpa using h
  obtain⟨a,b,c⟩:=J2 l j p f;have e:∀ i,((q::l).flatMap C9)[(j+1)*3+i]? = (l.flatMap C9)[j*3+i]?:=fun i=>by
   have:(j+1)*3+i=(j*3+i)+3:=by omega
   rw[this,VI];rw[Wd (by simp[C9])];simp[C9]
  exact⟨by simpa using (e 0).trans (by simpa using a),(e 1).trans b,(e 2).trans c⟩
def FA (w:B1) (B:Nat) (A:Option Xb) (n:Nat) (l:List Pr):Prop:=l.length=n/\Rd w B 3 A n (l.flatMap C9)
theorem FA.at_ {w:B1} {B n k:Nat} {A:Option Xb} {l:List Pr} (h:FA w B A n l) (s:k<n):∃ g off p,A=Bs ⟨g,off,B0⟩/\g<B/\l[k]? = Bs p/\
  w.cell? ⟨g,off+k*3,B0⟩=Bs (.string p.key)/\w.cell? ⟨g,off+k*3+1,B0⟩=Bs (.string p.val)/\w.cell? ⟨g,off+k*3+2,B0⟩=Bs (.bool p.gone):=by
 obtain⟨g,off,e,u,f⟩:=h.2.2 (by omega);have q:k<l.length:=by rw[h.1];exact s
 have i:l[k]? = Bs l[k]:=K0 q;obtain⟨a,b,c⟩:=J2 l k _ i;exact⟨g,off,l[k],e,u,i,f _ _ a,f _ _ b,f _ _ c⟩
theorem FA.fr {S:Nat->Prop} {w w':B1} {B n:Nat} {A:Option Xb} {l:List Pr} (h:FA w B A n l) (i:Fr S w w') (k:B<=w.heap.size) (f:∀ g off,A=Bs ⟨g,off,B0⟩->0<n->¬S g):FA w' B A n l:=⟨h.1,h.2.fr i k f⟩
def Bq (m:Ms) (A:Option Xb) (n k:Nat):Array Hi:=#[.int .i64 m.ag,.int .i64 m.from_,.int .i64 m.a4,.int .i64 m.ab,.int .i64 m.n,.int .i64 m.cmd.ag,.int .i64 m.cmd.tx,.int .i64 m.cmd.ae,.slice A n k]
def Dr (m:Ms) (A:Option Xb) (n k:Nat):Hi:=.agg #[.int .i64 m.ag,.int .i64 m.from_,.int .i64 m.a4,.int .i64 m.ab,.int .i64 m.n,.int .i64 m.cmd.ag,.int .i64 m.cmd.tx,.int .i64 m.cmd.ae,.slice A n k]
structure Bt where
 c:Cm
 A:Option Xb
 n:Nat
 k:Nat
def DX (x:Bt):List Hi:=[.int .i64 x.c.ag,.int .i64 x.c.tx,.int .i64 x.c.ae,.slice x.A x.n x.k]
theorem flat4:∀ (l:List Bt) (j:Nat) (x:Bt),l[j]? = Bs x->(l.flatMap DX)[j*4]? = Bs (.int .i64 x.c.ag)/\(l.flatMap DX)[j*4+1]? = Bs (.int .i64 x.c.tx)/\(l.flatMap DX)[j*4+2]? = Bs (.int .i64 x.c.ae)/\(l.flatMap DX)[j*4+3]? = Bs (.slice x.A x.n x.k)
 | [],j,p,h=>by simp at h
 | q::l,0,p,h=>by
  simp at h;subst h;simp[DX]
 | q::l,j+1,p,h=>by
  have f:l[j]? = Bs p:=by simpa using h
  obtain⟨a,b,c,d⟩:=flat4 l j p f;have e:∀ i,((q::l).flatMap DX)[(j+1)*4+i]? = (l.flatMap DX)[j*4+i]?:=fun i=>by
   have:(j+1)*4+i=(j*4+i)+4:=by omega
   rw[this,VI];rw[Wd (by simp[DX])];simp[DX]
  exact⟨by simpa using (e 0).trans (by simpa using a),(e 1).trans b,(e 2).trans c,(e 3).trans d⟩
def AM (l:List Bt):List Cm:=l.map (·.c)
theorem Lw {w:B1} {base base' e size n:Nat} {v:Hi} {xs:List Hi} (h:w.ownsRow base e size v n xs) (i:base'<=base):w.ownsRow base' e size v n xs:=
 ⟨h.1,h.2.imp id fun⟨g,cap,f,p,k,r⟩=>⟨g,cap,f,p,VO i k,r⟩⟩
structure Bk where
 l:List Ms
 ak:Int->Bool
def CS (s:Bk) (m:Ms):Bool:=s.ak m.from_ || s.ak m.a4 || decide (s.l.length=200)
def BA (s:Bk) (m:Ms):Bk:=if CS s m then s else { s with l:=s.l++[m] }
def Dh (s:Bk) (ms:List Ms):Bk:=ms.foldl BA s
def takeS (s:Bk) (k:Nat):Bk:={ s with l:=s.l.eraseIdx k }
def gone (id:Int) (m:Ms):Bool:=decide (m.from_=id) || decide (m.a4=id)
def EA (s:Bk) (id:Int):Bk:=⟨s.l.filter (fun m=>!gone id m),fun i=>decide (i=id) || s.ak i⟩
theorem q7j (s:Bk) (m:Ms):(BA s m).ak=s.ak:=by unfold BA;split <;> rfl
theorem q2g:∀ (ms:List Ms) (s:Bk),(Dh s ms).ak=s.ak
 | [],_=>rfl
 | m::ms,s=>(q2g ms (BA s m)).trans (q7j s m)
theorem q94 (s:Bk) (ms:List Ms) (m:Ms):Dh s (ms++[m])=BA (Dh s ms) m:=by simp[Dh,List.foldl_append]
structure AT where
 m:Ms
 A:Option Xb
 n:Nat
 k:Nat
def CD (x:AT):List Hi:=(Bq x.m x.A x.n x.k).toList
theorem q2i (x:AT):(CD x).length=9:=rfl
def AH (l:List AT):List Ms:=l.map (·.m)
def MW (w:B1) (N:Nat->Prop) (A:Option Xb) (n:Nat) (l:List AT):Prop:=
 l.length=n/\Rd w w.heap.size 9 A n (l.flatMap CD)/\(∀ g off,A=Bs ⟨g,off,B0⟩->0<n->¬N g)/\
  ∀ x∈l,FA w w.heap.size x.A x.n x.m.cmd.aa/\∀ g off,x.A=Bs ⟨g,off,B0⟩->0<x.n->¬N g
def D5 (w:B1) (base:Nat) (x:AT):Prop:=w.ownsRow base 45 3 (.slice x.A x.n x.k) x.n (x.m.cmd.aa.flatMap C9)/\x.m.cmd.aa.length=x.n
noncomputable abbrev BC:CQ Tryz.prog 3 Int:=keyI Tryz.underlying3
def Bl (w:B1) (nd:Nat) (D:Option Nat) (dead:Int->Bool):Prop:=
 match D with
 | none=>∀ i,dead i=Jx
 | some b=>Aa BC w b nd (fun i=>if dead i then Bs (.bool T2) else B0)
def Ky (n:Nat) (x:AT):Prop:=∀ b,V4 (.slice x.A x.n x.k)=Bs b->n<=b
structure AJ (w:B1) (base g off:Nat) (T:VQ) (cs:Array Hi) (V:Hi) (D:Option Nat) (nd:Nat) (L:List AT) (dead:Int->Bool) (lost:Int):Prop where
 ah:Ab w g T cs
 c0:cs[off]? = Bs V
 c1:cs[off+1]? = Bs (.map D)
 c2:cs[off+2]? = Bs (.int .i64 lost)
 row:w.ownsRow base 116 9 V L.length (L.flatMap CD)
 own:∀ x∈L,D5 w base x
 down:Bl w nd D dead
 len:L.length<=200
 ne:T≠116/\T≠45
 bg:base<=w.heap.size
abbrev E3 (i:Int):Prop:=(Lit.int .i64 i).wf=T2
theorem Bl.look {w:B1} {nd:Nat} {D:Option Nat} {dead:Int->Bool} (h:Bl w nd D dead) {i:Int} (k:E3 i):(XH 60 (.map D) (.int .i64 i) Jx).run Tryz.prog w=.ok (.bool (dead i)) w:=by
 have f:(X5 4).run Tryz.prog w=.ok (.bool Jx) w:=by kernel_rfl
 unfold Bl at h;rcases D with _|b
 ·rw[h i];exact(Pa BC w Tryz.underlying60 f (x:=i) k).2
 ·have:=(h.look Tryz.underlying60 f (x:=i) k).2;rw[show BC.val i=Wi .i64 i from rfl] at this;rw[this];cases dead i <;> rfl
theorem Bl.fr {S:Nat->Prop} {w w':B1} {nd:Nat} {D:Option Nat} {dead:Int->Bool} (h:Bl w nd D dead) (i:Fr S w w') (f:∀ b,D=Bs b->¬S b):Bl w' nd D dead:=by
 unfold Bl at h ⊢;rcases D with _|b
 ·exact h
 ·exact h.fr i (f b rfl)
theorem Bl.a6 {w:B1} {nd g:Nat} {D:Option Nat} {dead:Int->Bool} {t:VQ} {cs:Array Hi} (h:Bl w nd D dead) (f:Ab w g t cs):D≠Bs g:=by
 rintro rfl;exact Aa.a6 (C:=BC) h f rfl
theorem Bl.aG {w:B1} {nd base size k:Nat} {e:VQ} {v:Hi} {xs:List Hi} {D:Option Nat} {dead:Int->Bool} (h:Bl w nd D dead) (f:w.ownsRow base e size v k xs) {b:Nat} (i:D=Bs b):v.ownBlock≠Bs b:=by
 subst i;exact Aa.aG (C:=BC) h f
theorem Bl.lt {w:B1} {nd b:Nat} {dead:Int->Bool} (h:Bl w nd (Bs b) dead):b<w.heap.size:=Aa.lt (C:=BC) h
theorem flat9:∀ (l:List AT) (j:Nat) (x:AT),l[j]? = Bs x->∀ i,i<9->(l.flatMap CD)[j*9+i]? = (CD x)[i]?
 | [],j,p,h,i,f=>by simp at h
 | q::l,0,p,h,i,f=>by
  simp at h;subst h;rw[VI,List.getElem?_append_left (by rw[q2i];omega)];simp
 | q::l,j+1,p,h,i,f=>by
  have k:l[j]? = Bs p:=by simpa using h
  have:(j+1)*9+i=(j*9+i)+9:=by omega
  rw[this,VI,Wd (by rw[q2i];omega),q2i,Nat.add_sub_cancel];exact flat9 l j p k i f
def Cells9 (w:B1) (g o:Nat) (x:AT):Prop:=
 w.cell? ⟨g,o,B0⟩=Bs (.int .i64 x.m.ag)/\w.cell? ⟨g,o+1,B0⟩=Bs (.int .i64 x.m.from_)/\w.cell? ⟨g,o+2,B0⟩=Bs (.int .i64 x.m.a4)/\w.cell? ⟨g,o+3,B0⟩=Bs (.int .i64 x.m.ab)/\w.cell? ⟨g,o+4,B0⟩=Bs (.int .i64 x.m.n)/\
  w.cell? ⟨g,o+5,B0⟩=Bs (.int .i64 x.m.cmd.ag)/\w.cell? ⟨g,o+6,B0⟩=Bs (.int .i64 x.m.cmd.tx)/\w.cell? ⟨g,o+7,B0⟩=Bs (.int .i64 x.m.cmd.ae)/\w.cell? ⟨g,o+8,B0⟩=Bs (.slice x.A x.n x.k)
theorem Rd.bD {w:B1} {B n j:Nat} {A:Option Xb} {l:List AT} (h:Rd w B 9 A n (l.flatMap CD)) (q:l.length=n) (s:j<n):∃ g off x,A=Bs ⟨g,off,B0⟩/\g<B/\l[j]? = Bs x/\Cells9 w g (off+j*9) x:=by
 obtain⟨g,off,e,p,i⟩:=h.2 (by omega);have k:l[j]? = Bs l[j]:=K0 (by omega);have f:=flat9 l j _ k;refine⟨g,off,l[j],e,p,k,?_,?_,?_,?_,?_,?_,?_,?_,?_⟩
 ·exact i (j*9) _ (f 0 (by omega))
 ·exact i (j*9+1) _ (f 1 (by omega))
 ·exact i (j*9+2) _ (f 2 (by omega))
 ·exact i (j*9+3) _ (f 3 (by omega))
 ·exact i (j*9+4) _ (f 4 (by omega))
 ·exact i (j*9+5) _ (f 5 (by omega))
 ·exact i (j*9+6) _ (f 6 (by omega))
 ·exact i (j*9+7) _ (f 7 (by omega))
 ·exact i (j*9+8) _ (f 8 (by omega))
def BR (g:Nat) (V:Hi) (D:Option Nat) (k:Nat):Prop:=k=g\/Bs k=V.ownBlock\/Bs k=D
section
variable {P:WQ} {ops:Array Xw} {Q:Yn->Act->B1->Prop} {md:XE}
theorem Fx (i:Nat) {k:Xw} {v:Hi} {fuel:Nat} {f:Array Bool} {a:Act} {w:B1} (u:ops[i]? = Bs k)
  (hs:WN ops=T2) (y:Xl md ops f i=T2) (s:(Wn md ops f).contains i=T2)
  (z:∀ c a w,Q (.panic c) (a.put k.dst v) w->Q (.panic c) a w) (q:Wo k (Xp ops a.tmps)=T2)
  (p:∀ w,(Yg a.eval k).run P w=.ok (.value v) w)
  (h:wpAny P md ops Q fuel (f.setIfInBounds i T2) (a.put k.dst v) w):wpAny P md ops Q (fuel+1) f a w:=
 wpAny_take u hs y s z (.inl ⟨q,p⟩) h
theorem ronly (i:Nat) {o:Xw} {fuel:Nat} {f:Array Bool} {a:Act} {w:B1} (q:Wn md ops f=[i]) (s:ops[i]? = Bs o)
  (p:Wo o (Xp ops a.tmps)=T2) (h:∀ k:Act->B1->Prop,(∀ a w,wpAny P md ops Q fuel (f.setIfInBounds i T2) a w->k a w)->Ye P o a w k Q):wpAny P md ops Q (fuel+1) f a w:=
 wpAny_ready q (by simp) (AllReady.cons s (fun k u=>by rw[if_pos p];exact h k u) AllReady.nil)
theorem Lr {S:B1->Prop} (i:Nat) {o:Xw} {fuel:Nat} {f:Array Bool} {a:Act} {w:B1} (q:Wn md ops f=[i]) (s:ops[i]? = Bs o)
  (p:Wo o (Xp ops a.tmps)=T2) (h:∀ k:Act->B1->Prop,(∀ a w,S w->wpAnyH P md ops Q S fuel (f.setIfInBounds i T2) a w->k a w)->Ye P o a w k Q):wpAnyH P md ops Q S (fuel+1) f a w:=
 wpAnyH_all q (by simp) (fun j u=>by
  obtain rfl:j=i:=by simpa using u
  exact wpOp_step s (fun k y=>by rw[if_pos p];exact h k (fun a w hs v=>y a w ⟨hs,v⟩)))
theorem Lt {S:B1->Prop} (i:Nat) {k:Xw} {v:Hi} {fuel:Nat} {f:Array Bool} {a:Act} {w:B1} (u:ops[i]? = Bs k)
  (hs:WN ops=T2) (y:Xl md ops f i=T2) (s:(Wn md ops f).contains i=T2)
  (E:∀ c a w,Q (.panic c) (a.put k.dst v) w->Q (.panic c) a w) (q:Wo k (Xp ops a.tmps)=T2) (z:S w)
  (p:∀ w,S w->(Yg a.eval k).run P w=.ok (.value v) w)
  (h:wpAnyH P md ops Q S fuel (f.setIfInBounds i T2) (a.put k.dst v) w):wpAnyH P md ops Q S (fuel+1) f a w:=
 wpAnyH_take u hs y s E (.inl ⟨q,p⟩) z h
theorem Ra (S:B1->Prop) {fuel:Nat} {f:Array Bool} {a:Act} {w:B1} (h:wpAnyH P md ops Q S fuel f a w):wpAny P md ops Q fuel f a w:=wpAny_of_held fuel f a w h
end
theorem LG:(Tryz.prog.info? 45).map (fun i=>(i.zero,i.size,i.bytes))=Bs (Bs (.agg #[.string ⟨#[]⟩,.string ⟨#[]⟩,.bool Jx]),3,40):=by kernel_rfl
theorem Uy (l:List Pr):∀ u∈l.flatMap C9,u.oneCell'=T2:=fun u h=>by
 obtain⟨p,_,f⟩:=List.mem_flatMap.1 h;unfold C9 at f;rcases List.mem_cons.1 f with rfl|f
 ·rfl
 ·rcases List.mem_cons.1 f with rfl|f
  ·rfl
  ·rw[List.mem_singleton.1 f];rfl
theorem q9i (w:B1) (base:Nat) (e:VQ) (size:Nat) (f:base<=w.heap.size):(w.alloc (.cells #[] e)).ownsRow base e size (.slice (Bs ⟨w.heap.size,0,B0⟩) 0 0) 0 []:=
 ⟨by simp,.inr ⟨w.heap.size,0,#[],rfl,f,by simpa [Ab] using Ab.new w e #[],L1 _,VK _,by simp,by simp⟩⟩
theorem E0 {w:B1} {base base' e u size i n n':Nat} {v v':Hi} {xs p:List Hi} (h:w.ownsRow base e size v n xs) (F:w.ownsRow base' u i v' n' p) (q:e≠u) {g:Nat} (s:v.ownBlock=Bs g):v'.ownBlock≠Bs g:=by
 intro k;rcases h.2 with ⟨rfl,_⟩|⟨H,cap,J,rfl,_,E,_⟩
 ·simp[V4] at s
 ·rcases F.2 with ⟨rfl,_⟩|⟨G,z,y,rfl,_,f,_⟩
  ·simp[V4] at k
  ·have e1:H=g:=by simpa [V4] using s
   have I:G=g:=by simpa [V4] using k
   subst e1;subst I;rw[E] at f;injection f with f;injection f with _ ht;exact q ht
theorem Cr {B:Nat} {w w':B1} (h:VJ B w w') (n:Nat):VJ B w (w'.drewN n):=⟨h.os,h.tape,h.output,h.size,h.block⟩
theorem Uf (w:B1) (n:Nat):(w.drewN n).heap.size=w.heap.size:=rfl
theorem DV {B:Nat} {w w':B1} (h:VJ B w w'):Fr (fun k=>B<=k) w w':=⟨h.os,h.tape,h.output,h.size,fun k _ f=>h.block k (by omega)⟩
def MX (base:Nat) (n:Nat) (l:List Pr) (w:B1) (e:WA) (w':B1):Prop:=
 ∃ A k,e=.returned (.slice A n k)/\w'.ownsRow base 45 3 (.slice A n k) n (l.flatMap C9)/\VJ w.heap.size w w'
theorem qa6 (base B n k:Nat) (A:Option Xb) (l:List Pr) (w:B1) (h:FA w B A n l) (J:B<=w.heap.size) (I:base<=w.heap.size) (M:n<=100000) (z:A=B0->k=0) :
  VX Tryz.prog 78 #[.slice A n k] w (MX base n l w):=by
 have H:=LH h;clear h;rcases A with _|a
 ·have s:=z rfl;subst s;have q:n=0:=by
   rcases XJ n with u|u
   ·exact u
   ·obtain⟨g,off,h,_⟩:=H.o.2.2 u;cases h
  subst q;have F:l=[]:=Ww H.o.1;subst F;have p:MX base 0 [] w (.returned (.slice B0 0 0)) w:=⟨B0,0,rfl,VY _ _ _ _,S2 _ _⟩
  have v:=LH p;clear p H;have i:=XR w 67 _ B0 0 0 0 0 Tryz.underlying67;go_enter Tryz.func78,Tryz.ntmps78;go_wp2_with fail;go_ret;exact v.o
 ·clear z;have i:=XR w 67 _ (Bs a) n k 0 0 Tryz.underlying67;go_enter Tryz.func78,Tryz.ntmps78;go_wp2_with (at_builtin;refine stop ?_)
  refine Cn ?_;have hs:VJ w.heap.size w (w.alloc (.cells #[] 45)):=(S2 _ _).alloc (L1 _) _;refine q1e _ rfl (.tmp 5) (.tmp 6) 67 rfl base 45 _ 3 40 Tryz.underlying67 LG rfl (by decide) _ 0 [] rfl (q9i w base _ _ I) B _ n k (l.flatMap C9) rfl ((H.o.2.below (hs.mono J)).reads) (Uy l) (by unfold VZ;omega) (by omega) (by simp;omega) ?_;intro v' w' f y;rw[Wg,WL] at f;obtain⟨E,c,rfl,_,_⟩:=AK f;have p:MX base n l w (.returned (.slice E n c)) w':=⟨E,c,rfl,f,hs.trans (y.below (fun g G=>by have e:Bs w.heap.size=Bs g:=G;injection e with e;omega) (by simp))⟩
  have v:=LH p;clear p f y hs;go_wp2_with fail;go_ret;exact v.o
section
variable {P:WQ} {w:B1} {base e size g n cap:Nat} {xs:List Hi}
theorem q3n (h:w.ownsRow base e size (.slice (Bs ⟨g,0,B0⟩) n cap) n xs):∃ f:Array Hi,base<=g/\w.heap[g]? = Bs (.cells f e (0,0))/\n<=cap/\cap<=VZ/\f.size=cap*size/\f.toList.take (n*size)=xs:=by
 rcases h.2 with ⟨h,_⟩|⟨y,u,f,h,s,v,k,q,p,i⟩
 ·cases h
 ·simp only[YI,VN,W7,and_true,true_and] at h;obtain⟨rfl,rfl⟩:=h;exact⟨f,s,v,k,q,p,i⟩
theorem Ur (h:w.ownsRow base e size (.slice (Bs ⟨g,0,B0⟩) n cap) n xs):n<=cap/\cap<=VZ:=by
 obtain⟨k,_,_,i,f,_⟩:=q3n h;exact⟨i,f⟩
theorem q4o (h:w.ownsRow base e size (.slice (Bs ⟨g,0,B0⟩) n cap) n xs) {i:Nat} (y:i<=n):w.ownsRow base e size (.slice (Bs ⟨g,0,B0⟩) i cap) i (xs.take (i*size)):=by
 have v:i*size<=n*size:=WO _ y;obtain⟨s,q,z,u,p,k,f⟩:=q3n h;exact⟨by rw[Wz,h.1];omega,.inr ⟨g,cap,s,rfl,q,z,by omega,p,k,by rw[<- f,List.take_take,Nat.min_eq_left v]⟩⟩
theorem FK (h:w.ownsRow base e size (.slice (Bs ⟨g,0,B0⟩) n cap) n xs) (u:n+1<=cap):∃ v:List Hi,v.length=size/\w.ownsRow base e size (.slice (Bs ⟨g,0,B0⟩) (n+1) cap) (n+1) (xs++v):=by
 obtain⟨k,s,z,y,q,i,f⟩:=q3n h;have E:(n+1)*size<=cap*size:=WO _ u;have p:(n+1)*size=n*size+size:=by rw[Xc,Nat.one_mul]
 refine⟨(k.toList.drop (n*size)).take size,by rw[Wz,W8,Ws,i];omega,?_,.inr ⟨g,cap,k,rfl,s,z,u,q,i,?_⟩⟩
 ·rw[VP,h.1,Wz,W8,Ws,i];omega
 ·rw[p,List.take_add,f]
theorem qc2 (w:B1) (H J I h:VQ) (k g o p z:Nat) (a:Xb) (f s:Nat) (q:Array Hi) (t:VQ) (cs:List Hi)
  (M:P.underlying H=Bs (.slice h)) (hs:(P.info? h).map (·.size)=Bs k)
  (U:w.heap[g]? = Bs (.cells q t (0,0))) (O:cs.length=Nat.min f p*k)
  (u:∀ j v,cs[j]? = Bs v->w.cell? (a.add j)=Bs v) (y:o+cs.length<=q.size) (W:∀ v∈cs,v.oneCell'=T2) :
  (Builtin.copy_ #[H,J] I #[.slice (Bs ⟨g,o,B0⟩) p z,.slice (Bs a) f s]).run P w =
   .ok (goInt (Nat.min f p)) (w.setRow g (q.toList.take o++cs++q.toList.drop (o+cs.length)).toArray):=by
 have G:=run_loadCells_list (P:=P) w a cs u;have E:=run_storeCells_at P g o t cs 0 q w U (by simpa using y) W;cases F:P.info? h with
 | none=>simp[F] at hs
 | some i=>
  have R:i.size=k:=by simpa [F] using hs
  rw[O] at G;simp[Builtin.copy_,Yu M,Builtin.lenOf,XW,YX,typeInfo,F,R,G,E]
theorem TB (W Y p:VQ) (hu:P.underlying W=Bs (.slice p)) (hs:(P.info? p).map (·.size)=Bs size)
  (h:w.ownsRow base e size (.slice (Bs ⟨g,0,B0⟩) n cap) n xs) {i m:Nat} (M:i+m<=n) (y:List Hi) (f:y.length=m*size) (a:Xb) (G:∀ j v,y[j]? = Bs v->w.cell? (a.add j)=Bs v)
  (h1:∀ v∈y,v.oneCell'=T2) (U dc J X:Nat) (s:Nat.min J U=m) :
  ∃ w',(∀ I,(Builtin.copy_ #[W,Y] I #[.slice (Bs ⟨g,i*size,B0⟩) U dc,.slice (Bs a) J X]).run P w=.ok (goInt m) w')/\
   w'.ownsRow base e size (.slice (Bs ⟨g,0,B0⟩) n cap) n (xs.take (i*size)++y++xs.drop ((i+m)*size))/\Fr (fun k=>k=g) w w':=by
 obtain⟨F,R,Z,H,O,E,z⟩:=q3n h;have e1:(i+m)*size<=n*size:=WO _ M;have e2:n*size<=cap*size:=WO _ H;have e3:(i+m)*size=i*size+m*size:=Xc _ _ _;have q:=fun I=>qc2 (P:=P) w W Y I p size g (i*size) U dc a J X F e y hu hs Z (by rw[s,f]) G (by rw[f,E];omega) h1
 simp only[s] at q;refine⟨_,q,⟨?_,.inr ⟨g,cap,_,rfl,R,setRow_heap w g F _ e _ Z,H,O,?_,?_⟩⟩,⟨rfl,rfl,rfl,by simp,fun k _ hk=>setRow_other w g k _ hk⟩⟩
 ·rw[VP,VP,Wz,W8,h.1,f];omega
 ·simp only[Xn,VP,Wz,W8,Ws,f,E];omega
 ·rw[<- z];simp only[];have u:(F.toList.take (i*size)++y).length=(i+m)*size:=by
   rw[VP,Wz,Ws,E,f];omega
  have hd:i*size+y.length=(i+m)*size:=by rw[f];omega
  rw[hd,List.take_append,u,VU (by rw[u];omega),List.take_take,Nat.min_eq_left (by omega),List.drop_take]
theorem qb0 (t J:VQ) (f:TypeInfo) (z:Hi) (X Y:IntKind) (ht:P.underlying t=Bs (.slice e)) (M:P.underlying J=Bs (.int Y)) (hi:P.info? e=Bs f) (hz:f.zero=Bs z) (s:f.size=size) (i:z.cells.size=size) (BD:0<size)
  (h:w.ownsRow base e size (.slice (Bs ⟨g,0,B0⟩) n cap) n xs) {k:Nat} (h0:0<k) (Z:cap<n+k) (E:n+k<=1000000) (W:f.bytes<=1000000) (a0:∀ v∈xs,v.oneCell'=T2) (hb:base<=w.heap.size) :
  ∃ c' w',(∀ I,(Xv #[t,J] I #[.slice (Bs ⟨g,0,B0⟩) n cap,.int X k]).run P w=.ok (.slice (Bs ⟨w.heap.size,0,B0⟩) (n+k) c') w')/\
   w'.ownsRow base e size (.slice (Bs ⟨w.heap.size,0,B0⟩) (n+k) c') (n+k) (xs++(WC z.cells k).toList)/\Fr (fun _=>False) w w'/\w'.heap.size=w.heap.size+1:=by
 obtain⟨H,a6,R,O,a5,a4,p⟩:=q3n h;have a1:n*size<=cap*size:=WO _ O;have y:(XW f.size n (.slice (Bs ⟨g,0,B0⟩) n cap)).run P w.drew=.ok xs.toArray w.drew:=by
  have:=run_loadCells_list (P:=P) w.drew ⟨g,0,B0⟩ xs (fun j v q=>by
   have a3:j<xs.length:=(List.getElem?_eq_some_iff.1 q).1;rw[WJ,Wg];show w.cell? _=_;have h2:H[j]? = Bs v:=by
    rw[<- p] at q;rw[List.getElem?_take] at q;split at q
    ·simpa using q
    ·cases q
   exact(cell_of_row w g j H e (0,0) R).trans h2)
  rw[h.1] at this;unfold XW;rw[s];exact this
 have G:(n+k)*f.bytes<=140737488355328:=by
  have:(n+k)*f.bytes<=1000000*1000000:=Nat.mul_le_mul E W;omega
 have a2:k*f.bytes<=(n+k)*f.bytes:=WO _ (by omega);have u:=fun I=>Lib.run_append_grow_zeros (P:=P) w t J I e f z X Y ht M hi hz (Bs ⟨g,0,B0⟩) n cap xs y k h0 (by rw[s];exact BD) Z (by omega) (by omega) (growslice_fits Z G)
 have U:=grownCap_ge w (n+k) cap e;have F:grownCap w (n+k) cap e<=VZ:=grownCap_le_maxLen w (n+k) cap e (by unfold VZ;omega);refine⟨_,_,u,⟨?_,.inr ⟨w.heap.size,_,_,rfl,hb,heap_alloc_new w.drew _,U,F,?_,?_⟩⟩,(Fr.refl _ w).drew.alloc _,by simp⟩
 ·rw[VP,h.1,Ws,Xr,i,Xc]
 ·simp only[Array.size_append,Xn,Xr,i,h.1,<- Xc];congr 1;omega
 ·have hl:(xs++(WC z.cells k).toList).length=(n+k)*size:=by rw[VP,h.1,Ws,Xr,i,Xc]
  simp only[Array.toList_append];rw[<- hl];exact List.take_left
def I1 (g k cap size:Nat):Option Xb:=if cap=k then Bs ⟨g,0,B0⟩ else Bs ⟨g,k*size,B0⟩
theorem Ll (g k cap size:Nat):∃ o,I1 g k cap size=Bs ⟨g,o,B0⟩/\(k<cap->o=k*size):=by
 unfold I1;split
 ·rename_i f;exact⟨0,rfl,fun h=>by omega⟩
 ·exact⟨_,rfl,fun _=>rfl⟩
theorem q53 (t:VQ) (z:Hi) (ht:P.underlying t=Bs (.slice e)) (hv:∀ w,(X5 e).run P w=.ok z w) (hz:z.cells.size=size) (J:∀ u∈z.cells.toList,u.oneCell'=T2)
  (h:w.ownsRow base e size (.slice (Bs ⟨g,0,B0⟩) n cap) n xs) {m c:Nat} (hm:n+m<=cap) :
  ∃ w',(∀ G,(YL #[t] G #[.slice (I1 g n cap size) m c]).run P w=.ok (.tuple #[]) w')/\w'.ownsRow base e size (.slice (Bs ⟨g,0,B0⟩) n cap) n xs/\Fr (fun k=>k=g) w w':=by
 obtain⟨o,ho,R⟩:=Ll g n cap size;rw[ho];rcases XJ m with h0|h0
 ·subst h0;exact⟨w,fun G=>by simp[YL,Yu ht],h,Fr.refl _ _⟩
 have O:=R (by omega);subst O;rcases h.2 with ⟨F,_⟩|⟨g',a0,f,F,Z,hg,U,Y,X,p⟩
 ·cases F
 ·simp only[YI,VN,W7,and_true,true_and] at F;obtain⟨rfl,rfl⟩:=F;have v:(WC z.cells m).toList.length=m*size:=by rw[Ws,Xr,hz]
  have I:∀ u∈(WC z.cells m).toList,u.oneCell'=T2:=fun u M=>by
   obtain⟨i,hi,M⟩:=YV M;have H:0<z.cells.size:=by
    rcases XJ z.cells.size with h|h
    ·rw[v,<- hz,h] at hi;omega
    ·exact h
   refine J u ?_;rw[<- M];simp[WC];have W:i % z.cells.size<z.cells.size:=Nat.mod_lt _ H;simp[W]
  have s:n*size+(WC z.cells m).toList.length<=f.size:=by rw[v,X,<- Xc];exact WO _ hm
  have y:=run_storeCells_at (P:=P) g (n*size) e (WC z.cells m).toList 0 f w hg (by simpa using s) I;simp only[Nat.add_zero] at y;obtain⟨E,rfl⟩:∃ E,m=E+1:=⟨m-1,by omega⟩
  refine⟨w.setRow g (f.toList.take (n*size)++(WC z.cells (E+1)).toList++f.toList.drop (n*size+(WC z.cells (E+1)).toList.length)).toArray,?_,⟨h.1,.inr ⟨g,cap,_,rfl,Z,setRow_heap w g f _ e _ hg,U,Y,?_,?_⟩⟩,⟨rfl,rfl,rfl,by simp,fun k _ hk=>setRow_other w g k _ hk⟩⟩
  ·intro G;simp[YL,Yu ht,hv,y]
  ·simp only[Xn,VP,Wz,W8,Ws];simp only[Ws] at s;omega
  ·have q:(f.toList.take (n*size)).length=n*size:=by rw[p,h.1]
   rw[X4,Wp (by rw[q];omega),VU (by rw[q];omega),p]
theorem q51 (T:VQ) (f:P.underlying T=Bs (.slice (P.elem T))) (hs:∀ w,(YX (P.elem T)).run P w=.ok size w) (w:B1) (g n c v:Nat) (h:Int) (i:h=v) (k:v<=n) :
  (Yw T (.slice (Bs ⟨g,0,B0⟩) n c) (Bs (.int .i64 h)) B0 B0).run P w=.ok (.slice (I1 g v c size) (n-v) (c-v)) w:=by
 subst i;rw[run_slice_l w T _ n c f .i64 (v:Int) (by omega) (by omega),hs];simp only[WV,sliced,XD,I1];congr 2;split <;> simp[WJ]
theorem Qd (T:VQ) (i:P.underlying T=Bs (.slice e)) (f:P.elem T=e) (hs:∀ w,(YX e).run P w=.ok size w) (w:B1) (g n c v:Nat) (h:Int) (k:h=v) (p:v<=n) (q:v<c) :
  (Yw T (.slice (Bs ⟨g,0,B0⟩) n c) (Bs (.int .i64 h)) B0 B0).run P w=.ok (.slice (Bs ⟨g,v*size,B0⟩) (n-v) (c-v)) w:=by
 subst k;subst f;rw[run_slice_l w T _ n c i .i64 (v:Int) (by omega) (by omega),hs];simp only[WV,sliced,XD];rw[if_neg (by omega)];simp[WJ]
theorem q1b (T:VQ) (h:P.underlying T=Bs (.slice e)) (f:P.elem T=e) (hs:∀ w,(YX e).run P w=.ok size w) (w:B1) (A:Option Xb) (n c v:Nat) (i:v<=n) :
  ∃ r,(Yw T (.slice A n c) (Bs (.int .i64 (v:Int))) B0 B0).run P w=.ok r w:=by
 subst f;rw[run_slice_l w T _ n c h .i64 (v:Int) (by omega) (by omega),hs];exact⟨_,rfl⟩
theorem q3k (T:VQ) (i:P.underlying T=Bs (.slice e)) (f:P.elem T=e) (hs:∀ w,(YX e).run P w=.ok size w) (w:B1) (g n c v:Nat) (h:Int) (k:h=v) (p:v<=c) :
  (Yw T (.slice (Bs ⟨g,0,B0⟩) n c) B0 (Bs (.int .i64 h)) B0).run P w=.ok (.slice (Bs ⟨g,0,B0⟩) v c) w:=by
 subst k;subst f;rw[run_slice_h w T _ n c i .i64 (v:Int) (by omega) (by omega),hs];simp only[WV,sliced,XD,Y6,Nat.sub_zero];congr 2;split <;> simp[Addr.add]
end
section
variable {P:WQ} {w w':B1} {ops:Array Xw} {rest:List Xw} {o:Xw} {a:Act} {Q:Yn->Act->B1->Prop} {K:Act->B1->Prop}
theorem qaf (s x:X6) (t t':VQ) (k:o.op=.call { callee:=.builtin .append,args:=#[s,x],argTypes:=#[t,t'] }) (v u r:Hi) (hs:a.eval s=v) (i:a.eval x=u)
  (f:(Xv #[t,t'] o.type #[v,u]).run P w=.ok r w') (h:K (a.put o.dst r) w'):o.wp P a w K Q:=by
 unfold Ye Yg;simp only[k,resolve,invoke,builtin,Sem.run_bind,Sem.run_pure,Zb,List.map_toArray,Xt,X8,hs,i,f];exact h
theorem q1z (i:o.guard=B0) (s x:X6) (t t':VQ) (p:o.op=.call { callee:=.builtin .append,args:=#[s,x],argTypes:=#[t,t'] }) (v u r:Hi) (hs:a.eval s=v) (k:a.eval x=u)
  (f:(Xv #[t,t'] o.type #[v,u]).run P w=.ok r w') (h:Yb P ops Q rest (a.put o.dst r) w'):Yb P ops Q (o::rest) a w:=
 Yk i fun _ q=>qaf s x t t' p v u r hs k f (q _ _ h)
theorem q2j (d s:X6) (t t':VQ) (i:o.op=.call { callee:=.builtin .copy,args:=#[d,s],argTypes:=#[t,t'] }) (v u r:Hi) (k:a.eval d=v) (hs:a.eval s=u)
  (f:(Builtin.copy_ #[t,t'] o.type #[v,u]).run P w=.ok r w') (h:K (a.put o.dst r) w'):o.wp P a w K Q:=by
 unfold Ye Yg;simp only[i,resolve,invoke,builtin,Sem.run_bind,Sem.run_pure,Zb,List.map_toArray,Xt,X8,k,hs,f];exact h
theorem q1p (i:o.guard=B0) (d s:X6) (t t':VQ) (k:o.op=.call { callee:=.builtin .copy,args:=#[d,s],argTypes:=#[t,t'] }) (v u r:Hi) (p:a.eval d=v) (hs:a.eval s=u)
  (f:(Builtin.copy_ #[t,t'] o.type #[v,u]).run P w=.ok r w') (h:Yb P ops Q rest (a.put o.dst r) w'):Yb P ops Q (o::rest) a w:=
 Yk i fun _ q=>q2j d s t t' k v u r p hs f (q _ _ h)
end
def Cc (size i:Nat) (f xs:List Hi):List Hi:=xs.take (i*size)++f++xs.drop (i*size)
theorem q9e {size i n:Nat} {p xs h:List Hi} (q:xs.length=n*size) (s:i<n) (k:h.length=size) :
  (((xs++h).take ((i+1)*size)++xs.drop (i*size)++(xs++h).drop ((i+1+(n-i))*size)).take (i*size)++p++((xs++h).take ((i+1)*size)++xs.drop (i*size)++(xs++h).drop ((i+1+(n-i))*size)).drop ((i+1)*size))=Cc size i p xs:=by
 have e1:(i+1)*size=i*size+size:=by rw[Xc,Nat.one_mul]
 have z:(i+1)*size<=n*size:=WO _ s;have y:(i+1+(n-i))*size=n*size+size:=by rw[show i+1+(n-i)=n+1 by omega,Xc,Nat.one_mul]
 have v:(xs++h).take ((i+1)*size)=xs.take ((i+1)*size):=by rw[Wp (by omega)]
 have u:(xs++h).drop ((i+1+(n-i))*size)=[]:=List.drop_eq_nil_of_le (by rw[VP,q,k,y];omega);have f:(xs.take ((i+1)*size)).length=(i+1)*size:=by rw[Wz,q];omega
 rw[v,u,WM,Wp (by rw[f];omega),List.take_take,Nat.min_eq_left (by omega),List.drop_append_of_le_length (by rw[f];omega),Ya (by rw[f];omega)];rfl
theorem q7o {size i n:Nat} {h xs f:List Hi} (u:xs.length=n*size) (v:i<=n) (q:f.length=(n+1-i)*size) (s:h.length=size) :
  ((((xs.take (i*size)++f).take (i*size)++h++(xs.take (i*size)++f).drop ((i+1)*size)).take ((i+1)*size))++xs.drop (i*size)++((xs.take (i*size)++f).take (i*size)++h++(xs.take (i*size)++f).drop ((i+1)*size)).drop ((i+1+(n-i))*size))=Cc size i h xs:=by
 have e1:(i+1)*size=i*size+size:=by rw[Xc,Nat.one_mul]
 have H:i*size<=n*size:=WO _ v;have G:(i+1+(n-i))*size=n*size+size:=by rw[show i+1+(n-i)=n+1 by omega,Xc,Nat.one_mul]
 have F:(n+1-i)*size=n*size+size-i*size:=by rw[YJ,Xc,Nat.one_mul]
 have k:(xs.take (i*size)).length=i*size:=by rw[Wz,u];omega
 have E:(xs.take (i*size)++f).take (i*size)=xs.take (i*size):=by rw[Wp (by omega),VU (by omega)]
 rw[E];have p:(xs.take (i*size)++h).length=(i+1)*size:=by rw[VP,k,s];omega
 have z:((xs.take (i*size)++h++(xs.take (i*size)++f).drop ((i+1)*size)).take ((i+1)*size))=xs.take (i*size)++h:=by
  rw[Wp (by omega),VU (by omega)]
 have y:(xs.take (i*size)++h++(xs.take (i*size)++f).drop ((i+1)*size)).drop ((i+1+(n-i))*size)=[]:=by
  refine List.drop_eq_nil_of_le ?_;rw[VP,p,W8,VP,k,q];omega
 rw[z,y,WM];rfl
section
variable {P:WQ} {ops:Array Xw} {Q:Yn->Act->B1->Prop} {md:XE} {N:Nat} {C:B1->Prop}
def B5 (P:WQ) (md:XE) (ops:Array Xw) (Q:Yn->Act->B1->Prop) (N:Nat) (C:B1->Prop):Nat->Array Bool->Act->B1->Prop
 | 0,f,a,w=>Wn md ops f=[]/\Q .normal a w
 | fuel+1,f,a,w=>
  (Wn md ops f=[]->Q .normal a w)/\
  ∀ i∈Wn md ops f,wpOp P ops Q i (fun h w'=>(i<N->C w')/\B5 P md ops Q N C fuel (f.setIfInBounds i T2) h w') a w
theorem qai:∀ (fuel:Nat) (f:Array Bool) (a:Act) (w:B1),B5 P md ops Q N C fuel f a w->wpAny P md ops Q fuel f a w
 | 0,_,_,_,h=>h
 | fuel+1,_,_,_,h=>⟨h.1,fun i k=>wpOp_mono (fun q w' p=>qai fuel _ q w' p.2) (h.2 i k)⟩
def Dj (md:XE) (ops:Array Xw) (f:Array Bool) (i N:Nat):Bool:=
 (Wu ops.size).all fun j=>j == i || f.getD j T2 || decide (j<N) || (match ops[j]? with|some o=>o.after.any fun e=>Xx md e && e.on == i|none=>T2)
theorem qba {f:Array Bool} {i:Nat} (h:Dj md ops f i N=T2):∀ j p,ops[j]? = Bs p->j≠i->f.getD j T2=Jx->(∀ e∈p.after,Xx md e=T2->e.on≠i)->j<N:=fun j p y u z q=>by
 have s:j<ops.size:=(Array.getElem?_eq_some_iff.1 y).1;have k:=List.all_eq_true.1 h j (List.mem_range.2 s);rw[y] at k;simp only[YB,beq_iff_eq,decide_eq_true_eq] at k;rcases k with ((k|k)|k)|k
 ·exact absurd k u
 ·rw[z] at k;cases k
 ·exact k
 ·obtain⟨e,E,v⟩:=Array.any_eq_true'.1 k;simp only[Wq,beq_iff_eq] at v;exact absurd v.2 (q e E v.1)
theorem q7w {i:Nat} {E:Xw} {v:Hi} (hi:ops[i]? = Bs E) (u:∀ (j:Nat) (o:Xw) cs b,ops[j]? = Bs o->o.op≠.select cs b)
  (hQ:∀ c a w,Q (.panic c) (a.put E.dst v) w->Q (.panic c) a w) :
  ∀ (fuel:Nat) (f:Array Bool) (a:Act) (w:B1),
   (∀ j z,ops[j]? = Bs z->j≠i->f.getD j T2=Jx->(∀ e∈z.after,Xx md e=T2->e.on≠i)->E.apart ops z=T2/\j<N)->
   i∈Wn md ops f->YieldsIf P ops C E v a->C w->
   B5 P md ops Q N C fuel (f.setIfInBounds i T2) (a.put E.dst v) w->B5 P md ops Q N C (fuel+1) f a w:=by
 intro fuel;induction fuel with
 | zero=>
  intro f a w _ F W U H;refine⟨fun h=>(by rw[h] at F;cases F),fun j X=>?_⟩;by_cases p:j=i
  ·subst p;exact W.wpOp hi U ⟨fun _=>U,H⟩
  ·have:=ready_mono X p;rw[H.1] at this;cases this
 | succ fuel ih=>
  intro f a w q F W U H;refine⟨fun h=>(by rw[h] at F;cases F),fun j X=>?_⟩;by_cases p:j=i
  ·subst p;exact W.wpOp hi U ⟨fun _=>U,H⟩
  ·have I:=H.2 j (ready_mono X p);obtain⟨y,z,G,R⟩:=mem_ready.1 X;have M:∀ e∈z.after,Xx md e=T2->e.on≠i:=fun e he hb a2=>by
    have I:=R e he hb;have h0:=(mem_ready.1 F).1;rw[a2] at I;rcases W9 i f.size with h'|h'
    ·simp[h'] at h0 I;rw[h0] at I;cases I
    ·simp[WX h'] at I
   obtain⟨a3,a1⟩:=q j z G p y M;have h2:=wpOp_putIf G a3 (fun cs b=>u i E cs b hi) (fun cs b=>u j z cs b G) hQ W I;have s:∀ k ok,ops[k]? = Bs ok->k≠i->(f.setIfInBounds j T2).getD k T2=Jx->
     (∀ e∈ok.after,Xx md e=T2->e.on≠i)->E.apart ops ok=T2/\k<N:=fun k ok hk a0 J Z=>by
    refine q k ok hk a0 ?_ Z;by_cases O:j=k
    ·subst O;exact y
    ·rw[getD_set_ne T2 O] at J;exact J
   refine wpOp_mono (fun a' w' Y=>⟨Y.2.1,ih (f.setIfInBounds j T2) a' w' s (ready_mono F (Ne.symm p)) Y.1 (Y.2.1 a1) ?_⟩) h2;rw[Array.setIfInBounds_comm _ _ p];exact Y.2.2
theorem RE (i:Nat) {k:Xw} {v:Hi} {fuel:Nat} {f:Array Bool} {a:Act} {w:B1} (z:ops[i]? = Bs k)
  (hs:WN ops=T2) (I:Xl md ops f i=T2) (H:Dj md ops f i N=T2) (G:(Wn md ops f).contains i=T2)
  (J:∀ c a w,Q (.panic c) (a.put k.dst v) w->Q (.panic c) a w) (F:Wo k (Xp ops a.tmps)=T2) (M:C w)
  (E:∀ w,C w->(Yg a.eval k).run P w=.ok (.value v) w)
  (h:B5 P md ops Q N C fuel (f.setIfInBounds i T2) (a.put k.dst v) w):B5 P md ops Q N C (fuel+1) f a w:=
 q7w z (Region.noSelect_spec hs) J fuel f a w (fun j u y s q p=>⟨Region.free_spec z I j u y s q p,qba H j u y s q p⟩) (by simpa using G) (.inl ⟨F,E⟩) M h
theorem Ce (i:Nat) {s:Xw} {fuel:Nat} {f:Array Bool} {a:Act} {w:B1} (y:ops[i]? = Bs s)
  (hs:WN ops=T2) (G:Xl md ops f i=T2) (F:Dj md ops f i N=T2) (E:(Wn md ops f).contains i=T2)
  (H:∀ c a w,Q (.panic c) (a.put s.dst Yc) w->Q (.panic c) a w) (z:Wo s (Xp ops a.tmps)=Jx) (I:C w)
  (h:B5 P md ops Q N C fuel (f.setIfInBounds i T2) (a.put s.dst Yc) w):B5 P md ops Q N C (fuel+1) f a w:=
 q7w y (Region.noSelect_spec hs) H fuel f a w (fun j u v q p k=>⟨Region.free_spec y G j u v q p k,qba F j u v q p k⟩) (by simpa using E) (.inr ⟨z,rfl⟩) I h
theorem nonly (i:Nat) {o:Xw} {fuel:Nat} {f:Array Bool} {a:Act} {w:B1} (p:Wn md ops f=[i]) (v:ops[i]? = Bs o)
  (u:Wo o (Xp ops a.tmps)=T2) (h:∀ k:Act->B1->Prop,(∀ a w,(i<N->C w)->B5 P md ops Q N C fuel (f.setIfInBounds i T2) a w->k a w)->Ye P o a w k Q):B5 P md ops Q N C (fuel+1) f a w:=
 ⟨(fun s=>by rw[p] at s;cases s),fun j q=>by
  rw[p] at q;obtain rfl:j=i:=by simpa using q
  exact wpOp_step v (fun k z=>by rw[if_pos u];exact h k (fun a w hs y=>z a w ⟨hs,y⟩))⟩
theorem ndone {f:Array Bool} {a:Act} {w:B1} (i:Wn md ops f=[]) (h:Q .normal a w):∀ fuel,B5 P md ops Q N C fuel f a w
 | 0=>⟨i,h⟩
 | _+1=>⟨fun _=>h,by rw[i];simp⟩
theorem Tr {fuel:Nat} {f:Array Bool} {a:Act} {w:B1} (C:B1->Prop) (N:Nat) (h:B5 P md ops Q N C fuel f a w):wpAny P md ops Q fuel f a w:=qai fuel f a w h
theorem nC (i:Nat) {k:Xw} {v:Hi} {fuel:Nat} {f:Array Bool} {a:Act} {w:B1} (y:ops[i]? = Bs k)
  (E:∀ c a w,Q (.panic c) (a.put k.dst v) w->Q (.panic c) a w) (F:C w) (p:∀ w,C w->(Yg a.eval k).run P w=.ok (.value v) w)
  (h:B5 P md ops Q N C fuel (f.setIfInBounds i T2) (a.put k.dst v) w)
  (hs:WN ops=T2:=by kernel_rfl) (z:Xl md ops f i=T2:=by kernel_rfl) (u:Dj md ops f i N=T2:=by kernel_rfl) (s:(Wn md ops f).contains i=T2:=by kernel_rfl)
  (q:Wo k (Xp ops a.tmps)=T2:=by kernel_rfl):B5 P md ops Q N C (fuel+1) f a w:=RE i y hs z u s E q F p h
theorem nO (i:Nat) {o:Xw} {fuel:Nat} {f:Array Bool} {a:Act} {w:B1} (s:ops[i]? = Bs o)
  (h:∀ k:Act->B1->Prop,(∀ a w,(i<N->C w)->B5 P md ops Q N C fuel (f.setIfInBounds i T2) a w->k a w)->Ye P o a w k Q) (q:Wn md ops f=[i]:=by kernel_rfl) (p:Wo o (Xp ops a.tmps)=T2:=by kernel_rfl) :
  B5 P md ops Q N C (fuel+1) f a w:=nonly i q s p h
end
theorem CU {P:WQ} {md:XE} {ops:Array Xw} {Q:Yn->Act->B1->Prop} {fuel:Nat} {f:Array Bool} {a:Act} {w:B1} (C:B1->Prop) (N:Nat) (i:∀ c a (d:Nat) (v:Hi) w,Q (.panic c) (Xj a (Bs d) v) w->Q (.panic c) a w)
  (h:(∀ c a (d:Nat) (v:Hi) w,Q (.panic c) (Xj a (Bs d) v) w->Q (.panic c) a w)->B5 P md ops Q N C fuel f a w):wpAny P md ops Q fuel f a w:=Tr C N (h i)
theorem TE {P:WQ} (w:B1) (H:Nat) (hH:w.heap.size=H) (U:Obj) {o:Xw} {a:Act} {K:Act->B1->Prop} {Q:Yn->Act->B1->Prop} (s x:X6) (t:VQ)
  (ho:o.op=.call { callee:=.builtin .append,args:=#[s,x],argTypes:=#[t,t] })
  (base:Nat) (e:VQ) (z:Hi) (size f:Nat) (Z:P.underlying t=Bs (.slice e)) (I:(P.info? e).map (fun i=>(i.zero,i.size,i.bytes))=Bs (Bs z,size,f)) (F:z.cells.size=size) (BD:0<size)
  (v:Hi) (n:Nat) (xs:List Hi) (p:Array Hi) (hs:a.eval s=v) (E:w.ownsRow base e size v n xs)
  (c:Nat) (Y:a.eval x=.slice (Bs ⟨H,0,B0⟩) 1 c) (e1:VQ) (G:U=.cells p e1) (X:p.size=size) (h1:∀ u∈p.toList,u.oneCell'=T2)
  (R:n+1<=VZ) (k:(n+1)*f<=140737488355328) (M:base<=w.heap.size)
  (h:∀ v' w',w'.ownsRow base e size v' (n+1) (xs++p.toList)->Aq w w' v.ownBlock v'.ownBlock->K (a.put o.dst v') w') :
  o.wp P a (w.alloc U) K Q:=by
 obtain⟨i,I,W,q,J⟩:=Yy I;subst G hH;have hr:DR (w.alloc (.cells p e1)) (w.heap.size+1) size (Bs ⟨w.heap.size,0,B0⟩) 1 p.toList:=(Rd.lit w p e1 1 size (by omega)).reads;exact q4d _ s x t ho base e i z size f Z I W q J F BD v n xs hs (E.alloc _) (w.heap.size+1) _ 1 c p.toList Y hr h1 R k (by simp;omega)
  fun v' w' y hg O=>h v' w' y ((Aq.alloc w _ _).trans (Aq.bk hg O))
section
variable {P:WQ} {ops:Array Xw} {Q:Yn->Act->B1->Prop} {md:XE} {N:Nat} {C:B1->Prop}
def qaa (md:XE) (ops:Array Xw) (f:Array Bool) (i:Nat) (D:List Nat):Bool:=
 D.all fun k=>!(k == i) && (f.getD k T2 == Jx) && (match ops[k]? with|some o=>o.after.any fun e=>Xx md e && (e.on == i || D.contains e.on)|none=>Jx)
def JH (md:XE) (ops:Array Xw) (f:Array Bool) (i N:Nat) (D:List Nat):Bool:=
 (Wu ops.size).all fun j=>j == i || f.getD j T2 || decide (j<N) || D.contains j || (match ops[j]? with|some o=>o.after.any fun e=>Xx md e && e.on == i|none=>T2)
theorem Ma {f:Array Bool} {i:Nat} {D:List Nat} (h:JH md ops f i N D=T2):∀ j p,ops[j]? = Bs p->j≠i->f.getD j T2=Jx->(∀ e∈p.after,Xx md e=T2->e.on≠i)->j ∉ D->j<N:=fun j p y u z q F=>by
 have s:j<ops.size:=(Array.getElem?_eq_some_iff.1 y).1;have k:=List.all_eq_true.1 h j (List.mem_range.2 s);rw[y] at k;simp only[YB,beq_iff_eq,decide_eq_true_eq] at k;rcases k with (((k|k)|k)|k)|k
 ·exact absurd k u
 ·rw[z] at k;cases k
 ·exact k
 ·exact absurd (by simpa using k) F
 ·obtain⟨e,E,v⟩:=Array.any_eq_true'.1 k;simp only[Wq,beq_iff_eq] at v;exact absurd v.2 (q e E v.1)
theorem q6d {f:Array Bool} {i:Nat} {D:List Nat} (h:qaa md ops f i D=T2):∀ k∈D,k≠i/\f.getD k T2=Jx/\∃ o,ops[k]? = Bs o/\∃ e∈o.after,Xx md e=T2/\(e.on=i\/e.on∈D):=fun k v=>by
 have s:=List.all_eq_true.1 h k v;simp only[Wq,beq_iff_eq,Bool.not_eq_true',beq_eq_false_iff_ne] at s;obtain⟨⟨E,z⟩,q⟩:=s;refine⟨E,z,?_⟩;split at q
 ·rename_i o u;obtain⟨e,y,p⟩:=Array.any_eq_true'.1 q;simp only[Wq,YB,beq_iff_eq] at p;exact⟨o,u,e,y,p.1,p.2.imp id (fun h=>by simpa using h)⟩
 ·cases q
theorem qbp {i:Nat} {I:Xw} {v:Hi} (D:List Nat) (hi:ops[i]? = Bs I) (E:∀ (j:Nat) (o:Xw) cs b,ops[j]? = Bs o->o.op≠.select cs b)
  (hQ:∀ c a w,Q (.panic c) (a.put I.dst v) w->Q (.panic c) a w) (a5:∀ k∈D,∃ o,ops[k]? = Bs o/\∃ e∈o.after,Xx md e=T2/\(e.on=i\/e.on∈D)) :
  ∀ (fuel:Nat) (f:Array Bool) (a:Act) (w:B1),
   (∀ j z,ops[j]? = Bs z->j≠i->f.getD j T2=Jx->(∀ e∈z.after,Xx md e=T2->e.on≠i)->I.apart ops z=T2/\(j ∉ D->j<N))->
   (∀ k∈D,k≠i/\f.getD k T2=Jx)->
   i∈Wn md ops f->YieldsIf P ops C I v a->C w->
   B5 P md ops Q N C fuel (f.setIfInBounds i T2) (a.put I.dst v) w->B5 P md ops Q N C (fuel+1) f a w:=by
 intro fuel;induction fuel with
 | zero=>
  intro f a w _ _ J hy Y H;refine⟨fun h=>(by rw[h] at J;cases J),fun j hj=>?_⟩;by_cases p:j=i
  ·subst p;exact hy.wpOp hi Y ⟨fun _=>Y,H⟩
  ·have:=ready_mono hj p;rw[H.1] at this;cases this
 | succ fuel ih=>
  intro f a w s M J hy Y H;refine⟨fun h=>(by rw[h] at J;cases J),fun j hj=>?_⟩;by_cases p:j=i
  ·subst p;exact hy.wpOp hi Y ⟨fun _=>Y,H⟩
  ·have O:=H.2 j (ready_mono hj p);obtain⟨G,z,u,X⟩:=mem_ready.1 hj;have q:∀ x,f.getD x T2=Jx->∀ e∈z.after,Xx md e=T2->e.on≠x:=fun x h0 e he hb a3=>by
    have O:=X e he hb;rw[a3] at O;rcases W9 x f.size with h'|h'
    ·simp[h'] at h0 O;rw[h0] at O;cases O
    ·simp[WX h'] at O
   have F:∀ e∈z.after,Xx md e=T2->e.on≠i:=q i (mem_ready.1 J).1;have W:j ∉ D:=fun hD=>by
    obtain⟨o,ho,e,he,hb,h⟩:=a5 j hD;rw[u] at ho;obtain rfl:=Wj ho;rcases h with h|h
    ·exact F e he hb h
    ·exact q _ (M _ h).2 e he hb rfl
   obtain⟨a4,a2⟩:=s j z u p G F;have h2:=wpOp_putIf u a4 (fun cs b=>E i I cs b hi) (fun cs b=>E j z cs b u) hQ hy O;have y:∀ k ok,ops[k]? = Bs ok->k≠i->(f.setIfInBounds j T2).getD k T2=Jx->
     (∀ e∈ok.after,Xx md e=T2->e.on≠i)->I.apart ops ok=T2/\(k ∉ D->k<N):=fun k ok R a1 q a0=>by
    refine s k ok R a1 ?_ a0;by_cases U:j=k
    ·subst U;exact G
    ·rw[getD_set_ne T2 U] at q;exact q
   have Z:∀ k∈D,k≠i/\(f.setIfInBounds j T2).getD k T2=Jx:=fun k R=>by
    refine⟨(M k R).1,?_⟩;rw[getD_set_ne T2 (fun e:j=k=>W (e▸R))];exact(M k R).2
   refine wpOp_mono (fun a' w' h3=>⟨h3.2.1,ih (f.setIfInBounds j T2) a' w' y Z (ready_mono J (Ne.symm p)) h3.1 (h3.2.1 (a2 W)) ?_⟩) h2;rw[Array.setIfInBounds_comm _ _ p];exact h3.2.2
theorem ntakeD (i:Nat) (D:List Nat) {p:Xw} {v:Hi} {fuel:Nat} {f:Array Bool} {a:Act} {w:B1} (G:ops[i]? = Bs p)
  (hs:WN ops=T2) (O:Xl md ops f i=T2) (z:qaa md ops f i D=T2) (M:JH md ops f i N D=T2) (J:(Wn md ops f).contains i=T2)
  (R:∀ c a w,Q (.panic c) (a.put p.dst v) w->Q (.panic c) a w) (I:Wo p (Xp ops a.tmps)=T2) (U:C w)
  (H:∀ w,C w->(Yg a.eval p).run P w=.ok (.value v) w)
  (h:B5 P md ops Q N C fuel (f.setIfInBounds i T2) (a.put p.dst v) w):B5 P md ops Q N C (fuel+1) f a w:=
 qbp D G (Region.noSelect_spec hs) R (fun k y=>(q6d z k y).2.2) fuel f a w (fun j E F u s q=>⟨Region.free_spec G O j E F u s q,Ma M j E F u s q⟩)
  (fun k y=>⟨(q6d z k y).1,(q6d z k y).2.1⟩) (by simpa using J) (.inl ⟨I,H⟩) U h
end
section
variable {P:WQ} {md:XE} {ops:Array Xw} {Q:Yn->Act->B1->Prop} {N:Nat} {C:B1->Prop}
theorem RD (i:Nat) {d:Nat} {v:Hi} {k:Xw} {fuel:Nat} {f:Array Bool} {a:Act} {w:B1} (z:ops[i]? = Bs k) (p:k.dst=Bs d)
  (hs:WN ops=T2) (E:Xl md ops f i=T2) (y:Dj md ops f i N=T2) (u:(Wn md ops f).contains i=T2)
  (F:∀ c a w,Q (.panic c) (Xj a (Bs d) v) w->Q (.panic c) a w) (s:Wo k (Xp ops a.tmps)=T2) (G:C w)
  (q:∀ w,C w->(Yg a.eval k).run P w=.ok (.value v) w)
  (h:B5 P md ops Q N C fuel (f.setIfInBounds i T2) (a.put (Bs d) v) w):B5 P md ops Q N C (fuel+1) f a w:=
 RE i z hs E y u (by rw[p];exact F) s G q (by rw[p];exact h)
theorem RF (i:Nat) {d:Nat} {k:Xw} {fuel:Nat} {f:Array Bool} {a:Act} {w:B1} (v:ops[i]? = Bs k) (p:k.dst=Bs d)
  (hs:WN ops=T2) (y:Xl md ops f i=T2) (u:Dj md ops f i N=T2) (s:(Wn md ops f).contains i=T2)
  (z:∀ c a w,Q (.panic c) (Xj a (Bs d) Yc) w->Q (.panic c) a w) (q:Wo k (Xp ops a.tmps)=Jx) (E:C w)
  (h:B5 P md ops Q N C fuel (f.setIfInBounds i T2) (a.put (Bs d) Yc) w):B5 P md ops Q N C (fuel+1) f a w:=
 Ce i v hs y u s (by rw[p];exact z) q E (by rw[p];exact h)
theorem Nn (i:Nat) (D:List Nat) {d:Nat} {v:Hi} {k:Xw} {fuel:Nat} {f:Array Bool} {a:Act} {w:B1} (z:ops[i]? = Bs k) (p:k.dst=Bs d)
  (hs:WN ops=T2) (E:Xl md ops f i=T2) (F:qaa md ops f i D=T2) (y:JH md ops f i N D=T2) (u:(Wn md ops f).contains i=T2)
  (G:∀ c a w,Q (.panic c) (Xj a (Bs d) v) w->Q (.panic c) a w) (s:Wo k (Xp ops a.tmps)=T2) (H:C w)
  (q:∀ w,C w->(Yg a.eval k).run P w=.ok (.value v) w)
  (h:B5 P md ops Q N C fuel (f.setIfInBounds i T2) (a.put (Bs d) v) w):B5 P md ops Q N C (fuel+1) f a w:=
 ntakeD i D z hs E F y u (by rw[p];exact G) s H q (by rw[p];exact h)
theorem nB (i:Nat) {d:Nat} {v:Hi} {k:Xw} {fuel:Nat} {f:Array Bool} {a:Act} {w:B1} (y:ops[i]? = Bs k) (E:k.dst=Bs d)
  (F:∀ c a (d:Nat) (v:Hi) w,Q (.panic c) (Xj a (Bs d) v) w->Q (.panic c) a w) (G:C w) (p:∀ w,C w->(Yg a.eval k).run P w=.ok (.value v) w)
  (h:B5 P md ops Q N C fuel (f.setIfInBounds i T2) (a.put (Bs d) v) w)
  (hs:WN ops=T2:=by kernel_rfl) (z:Xl md ops f i=T2:=by kernel_rfl) (u:Dj md ops f i N=T2:=by kernel_rfl) (s:(Wn md ops f).contains i=T2:=by kernel_rfl)
  (q:Wo k (Xp ops a.tmps)=T2:=by kernel_rfl):B5 P md ops Q N C (fuel+1) f a w:=RD i y E hs z u s (fun c a w=>F c a d v w) q G p h
theorem nS (i:Nat) {d:Nat} {k:Xw} {fuel:Nat} {f:Array Bool} {a:Act} {w:B1} (u:ops[i]? = Bs k) (z:k.dst=Bs d)
  (E:∀ c a (d:Nat) (v:Hi) w,Q (.panic c) (Xj a (Bs d) v) w->Q (.panic c) a w) (F:C w)
  (h:B5 P md ops Q N C fuel (f.setIfInBounds i T2) (a.put (Bs d) Yc) w)
  (hs:WN ops=T2:=by kernel_rfl) (y:Xl md ops f i=T2:=by kernel_rfl) (s:Dj md ops f i N=T2:=by kernel_rfl) (q:(Wn md ops f).contains i=T2:=by kernel_rfl)
  (p:Wo k (Xp ops a.tmps)=Jx:=by kernel_rfl):B5 P md ops Q N C (fuel+1) f a w:=RF i u z hs y s q (fun c a w=>E c a d Yc w) p F h
theorem nA (i:Nat) (D:List Nat) {d:Nat} {v:Hi} {k:Xw} {fuel:Nat} {f:Array Bool} {a:Act} {w:B1} (y:ops[i]? = Bs k) (E:k.dst=Bs d)
  (G:∀ c a (d:Nat) (v:Hi) w,Q (.panic c) (Xj a (Bs d) v) w->Q (.panic c) a w) (H:C w) (p:∀ w,C w->(Yg a.eval k).run P w=.ok (.value v) w)
  (h:B5 P md ops Q N C fuel (f.setIfInBounds i T2) (a.put (Bs d) v) w)
  (hs:WN ops=T2:=by kernel_rfl) (z:Xl md ops f i=T2:=by kernel_rfl) (F:qaa md ops f i D=T2:=by kernel_rfl) (u:JH md ops f i N D=T2:=by kernel_rfl) (s:(Wn md ops f).contains i=T2:=by kernel_rfl)
  (q:Wo k (Xp ops a.tmps)=T2:=by kernel_rfl):B5 P md ops Q N C (fuel+1) f a w:=Nn i D y E hs z F u s (fun c a w=>G c a d v w) q H p h
theorem nD (i:Nat) (D:List Nat) {d:Nat} {v:Hi} {k:Xw} {fuel:Nat} {f:Array Bool} {a:Act} {w:B1}
  (G:∀ c a (d:Nat) (v:Hi) w,Q (.panic c) (Xj a (Bs d) v) w->Q (.panic c) a w) (H:C w)
  (h:B5 P md ops Q N C fuel (f.setIfInBounds i T2) (a.put (Bs d) v) w) (y:ops[i]? = Bs k:=by rfl) (E:k.dst=Bs d:=by rfl) (p:∀ w,C w->(Yg a.eval k).run P w=.ok (.value v) w:=by intros;go_simp;rfl)
  (hs:WN ops=T2:=by kernel_rfl) (z:Xl md ops f i=T2:=by kernel_rfl) (F:qaa md ops f i D=T2:=by kernel_rfl) (u:JH md ops f i N D=T2:=by kernel_rfl) (s:(Wn md ops f).contains i=T2:=by kernel_rfl)
  (q:Wo k (Xp ops a.tmps)=T2:=by kernel_rfl):B5 P md ops Q N C (fuel+1) f a w:=Nn i D y E hs z F u s (fun c a w=>G c a d v w) q H p h
theorem nF (i:Nat) {d:Nat} {v:Hi} {k:Xw} {fuel:Nat} {f:Array Bool} {a:Act} {w:B1}
  (F:∀ c a (d:Nat) (v:Hi) w,Q (.panic c) (Xj a (Bs d) v) w->Q (.panic c) a w) (G:C w)
  (h:B5 P md ops Q N C fuel (f.setIfInBounds i T2) (a.put (Bs d) v) w) (y:ops[i]? = Bs k:=by rfl) (E:k.dst=Bs d:=by rfl) (p:∀ w,C w->(Yg a.eval k).run P w=.ok (.value v) w:=by intros;go_simp;rfl)
  (hs:WN ops=T2:=by kernel_rfl) (z:Xl md ops f i=T2:=by kernel_rfl) (u:Dj md ops f i N=T2:=by kernel_rfl) (s:(Wn md ops f).contains i=T2:=by kernel_rfl)
  (q:Wo k (Xp ops a.tmps)=T2:=by kernel_rfl):B5 P md ops Q N C (fuel+1) f a w:=RD i y E hs z u s (fun c a w=>F c a d v w) q G p h
theorem nT (i:Nat) {d:Nat} {k:Xw} {fuel:Nat} {f:Array Bool} {a:Act} {w:B1}
  (E:∀ c a (d:Nat) (v:Hi) w,Q (.panic c) (Xj a (Bs d) v) w->Q (.panic c) a w) (F:C w)
  (h:B5 P md ops Q N C fuel (f.setIfInBounds i T2) (a.put (Bs d) Yc) w) (u:ops[i]? = Bs k:=by rfl) (z:k.dst=Bs d:=by rfl)
  (hs:WN ops=T2:=by kernel_rfl) (y:Xl md ops f i=T2:=by kernel_rfl) (s:Dj md ops f i N=T2:=by kernel_rfl) (q:(Wn md ops f).contains i=T2:=by kernel_rfl)
  (p:Wo k (Xp ops a.tmps)=Jx:=by kernel_rfl):B5 P md ops Q N C (fuel+1) f a w:=RF i u z hs y s q (fun c a w=>E c a d Yc w) p F h
theorem nE (i:Nat) {k:Xw} {v:Hi} {fuel:Nat} {f:Array Bool} {a:Act} {w:B1} (F:C w)
  (h:B5 P md ops Q N C fuel (f.setIfInBounds i T2) (a.put k.dst v) w) (y:ops[i]? = Bs k:=by rfl)
  (E:∀ c a w,Q (.panic c) (a.put k.dst v) w->Q (.panic c) a w:=by intros;assumption) (p:∀ w,C w->(Yg a.eval k).run P w=.ok (.value v) w:=by intros;go_simp;rfl)
  (hs:WN ops=T2:=by kernel_rfl) (z:Xl md ops f i=T2:=by kernel_rfl) (u:Dj md ops f i N=T2:=by kernel_rfl) (s:(Wn md ops f).contains i=T2:=by kernel_rfl)
  (q:Wo k (Xp ops a.tmps)=T2:=by kernel_rfl):B5 P md ops Q N C (fuel+1) f a w:=RE i y hs z u s E q F p h
theorem nG (i:Nat) {o:Xw} {fuel:Nat} {f:Array Bool} {a:Act} {w:B1}
  (h:∀ k:Act->B1->Prop,(∀ a w,(i<N->C w)->B5 P md ops Q N C fuel (f.setIfInBounds i T2) a w->k a w)->Ye P o a w k Q) (s:ops[i]? = Bs o:=by rfl) (q:Wn md ops f=[i]:=by kernel_rfl) (p:Wo o (Xp ops a.tmps)=T2:=by kernel_rfl) :
  B5 P md ops Q N C (fuel+1) f a w:=nonly i q s p h
theorem nX {fuel:Nat} {f:Array Bool} {a:Act} {w:B1} (h:Q .normal a w) (i:Wn md ops f=[]:=by kernel_rfl):B5 P md ops Q N C fuel f a w:=ndone i h fuel
theorem nW {id:Nat} {a:Act} {w:B1} (h:wpAny P .any ops Q ops.size (Array.replicate ops.size Jx) a w.drew) (f:P.follows .mixedOrders=T2:=by kernel_rfl):(Code.region id ops T2).wp P Q a w:=wp_region_any f h
theorem nZ {p q:Prop} (h:¬p:=by decide):p->q:=fun a=>absurd a h
end
structure Nd where
 id:Int
 ab:Int
 nodes:List Int
 at_:Int
 log:List Cm
 ao:Int
def cm0:Cm:=⟨0,0,0,[]⟩
def Nd.head (d:Nd):Bool:=d.at_ == 0
def Nd.tail (d:Nd):Bool:=decide (d.at_>=0) && d.at_ == (d.nodes.length:Int)-1
def Nd.a4 (d:Nd) (b:Int):Int:=(d.nodes[(d.at_+b).toNat]?).getD 0
def Nd.msg (d:Nd) (kind b k:Int):Ms:=⟨kind,d.id,d.a4 b,d.ab,k,cm0⟩
def Nd.forward (d:Nd) (k:Nat):Ms:=⟨3,d.id,d.a4 1,d.ab,k,(d.log[k]?).getD cm0⟩
def Nd.tick (d:Nd):Nd×List Ms:=
 if d.at_<0 then(d,[]) else if d.tail then({ d with ao:=d.log.length },if d.at_ > 0 then [d.msg 4 (-1) d.log.length] else []) else(d,[d.msg 1 1 d.log.length])
def Nd.push (d:Nd) (c:Cm):Nd:={ d with log:=d.log++[c] }
def Nd.grow (d:Nd) (c:Cm):Nd×List Ms:=if d.tail then(d.push c).tick else(d.push c,[(d.push c).forward d.log.length])
def Nd.add (d:Nd) (c:Cm) (b:Bool):(Nd×List Ms)×Int×Int:=
 if !d.head then((d,[]),0,6) else if d.log.length=500 then((d,[]),0,4) else(d.grow c,if b then d.log.length+1 else d.log.length,0)
def Nd.step (d:Nd) (m:Ms):Nd×List Ms:=
 if d.at_<0\/m.ab≠d.ab\/m.a4≠d.id then(d,[]) else
 let f:=decide (d.at_ > 0) && m.from_ == d.a4 (-1)
 let next:=!d.tail && m.from_ == d.a4 1
 if m.ag=1/\f=T2 then(d,[d.msg 2 (-1) d.log.length]) else
 if m.ag=2/\next=T2/\0<=m.n then(d,(List.range' m.n.toNat (d.log.length-m.n.toNat)).map d.forward) else
 if m.ag=3/\f=T2/\m.n=d.log.length/\m.n<500 then d.grow m.cmd else
 if m.ag=4/\next=T2/\0<=m.n/\m.n<=d.log.length then
  ({ d with ao:=max d.ao m.n },if d.at_ > 0 then [d.msg 4 (-1) (max d.ao m.n)] else []) else(d,[])
def EJ (w:B1) (base:Nat) (x:Bt):Prop:=w.ownsRow base 45 3 (.slice x.A x.n x.k) x.n (x.c.aa.flatMap C9)/\x.c.aa.length=x.n/\x.n<=100000
structure BI (w:B1) (base g:Nat) (C V:Hi) (L:List Bt) (d:Nd):Prop where
 ah:Ab w g 150 #[.int .i64 d.id,.int .i64 d.ab,C,.int .i64 d.at_,V,.int .i64 d.ao]
 bw:w.ownsRow base 3 1 C d.nodes.length (d.nodes.map (Wi .i64))
 row:w.ownsRow base 69 4 V L.length (L.flatMap DX)
 own:∀ x∈L,EJ w base x
 log:AM L=d.log
 len:L.length<=500
 bf:d.nodes.length<=6
 at0:-1<=d.at_
 bQ:d.at_<d.nodes.length
 st0:0<=d.ao
 st1:d.ao<=500
 lo:base<=g
def CJ (g:Nat) (C V:Hi) (L:List Bt) (b:Nat):Prop:=b=g\/C.ownBlock=Bs b\/V.ownBlock=Bs b\/∃ x∈L,(WI x.A x.n x.k).ownBlock=Bs b
section
variable {w w':B1} {base g:Nat} {C V:Hi} {L:List Bt} {d:Nd}
theorem BI.fr {S:Nat->Prop} (h:BI w base g C V L d) (k:Fr S w w') (i:∀ b,CJ g C V L b->¬S b):BI w' base g C V L d:=
 ⟨k.ah h.ah (i g (.inl rfl)),k.own h.bw (fun b f=>i b (.inr (.inl f))),k.own h.row (fun b f=>i b (.inr (.inr (.inl f)))),
  fun x p=>⟨k.own (h.own x p).1 (fun b f=>i b (.inr (.inr (.inr ⟨x,p,f⟩)))),(h.own x p).2⟩,h.log,h.len,h.bf,h.at0,h.bQ,h.st0,h.st1,h.lo⟩
theorem BI.av (h:BI w base g C V L d) {b:Nat} (f:CJ g C V L b):base<=b/\b<w.heap.size:=by
 rcases f with rfl|f|f|⟨x,i,f⟩
 ·exact⟨h.lo,h.ah.lt⟩
 ·exact h.bw.lt b f
 ·exact h.row.lt b f
 ·exact(h.own x i).1.lt b f
theorem BI.a8 (h:BI w base g C V L d) (f:VJ w.heap.size w w'):BI w' base g C V L d:=
 h.fr (S:=fun b=>w.heap.size<=b) ⟨f.os,f.tape,f.output,f.size,fun i _ p=>f.block i (by omega)⟩ (fun b k q=>by have:=(h.av k).2;omega)
theorem BI.cells (h:BI w base g C V L d):w.cell? ⟨g,0,B0⟩=Bs (.int .i64 d.id)/\w.cell? ⟨g,1,B0⟩=Bs (.int .i64 d.ab)/\w.cell? ⟨g,2,B0⟩=Bs C/\w.cell? ⟨g,3,B0⟩=Bs (.int .i64 d.at_)/\w.cell? ⟨g,4,B0⟩=Bs V/\w.cell? ⟨g,5,B0⟩=Bs (.int .i64 d.ao)/\g<w.heap.size:=by
 have s:=h.ah.cell 0;have q:=h.ah.cell 1;have p:=h.ah.cell 2;have k:=h.ah.cell 3;have i:=h.ah.cell 4;have f:=h.ah.cell 5;simp only[Ft,D0,N2] at s q p k i f;exact⟨s,q,p,k,i,f,h.ah.lt⟩
theorem BI.bz (h:BI w base g C V L d):d.log.length=L.length:=by rw[<- h.log];simp[AM]
theorem BI.df (h:BI w base g C V L d):∃ A c,C=.slice A d.nodes.length c:=by obtain⟨A,c,e,_⟩:=AK h.bw;exact⟨A,c,e⟩
theorem BI.c4 (h:BI w base g C V L d):∃ A c,V=.slice A L.length c:=by obtain⟨A,c,e,_⟩:=AK h.row;exact⟨A,c,e⟩
theorem Mj (h:BI w base g C V L d):VX Tryz.prog 74 #[.pointer (Bs ⟨g,0,B0⟩)] w fun e w'=>e=.returned (.int .i64 d.id)/\w=w':=by
 obtain⟨i,_,_,_,_,_,f⟩:=h.cells;clear h;go_enter Tryz.func74,Tryz.ntmps74;go_wp2_with fail;go_ret;exact⟨rfl,rfl⟩
theorem qcf (h:BI w base g C V L d):VX Tryz.prog 57 #[.pointer (Bs ⟨g,0,B0⟩)] w fun e w'=>e=.returned (.bool d.head)/\w=w':=by
 obtain⟨_,_,_,i,_,_,f⟩:=h.cells;clear h;unfold Nd.head;go_enter Tryz.func57,Tryz.ntmps57;go_wp2_with fail;go_ret;exact⟨rfl,rfl⟩
theorem qav (h:BI w base g C V L d):VX Tryz.prog 96 #[.pointer (Bs ⟨g,0,B0⟩)] w fun e w'=>e=.returned (.int .i64 d.ao)/\w=w':=by
 obtain⟨_,_,_,_,_,i,f⟩:=h.cells;clear h;go_enter Tryz.func96,Tryz.ntmps96;go_wp2_with fail;go_ret;exact⟨rfl,rfl⟩
theorem QN (h:BI w base g C V L d):VX Tryz.prog 58 #[.pointer (Bs ⟨g,0,B0⟩)] w fun e w'=>e=.returned (.bool d.tail)/\∃ m,w'=w.drewN m:=by
 obtain⟨_,_,y,v,_,_,q⟩:=h.cells;obtain⟨A,c,rfl⟩:=h.df;have u:=h.bf;have f:d.tail=(decide (d.at_>=0) && d.at_ == (d.nodes.length:Int)-1):=rfl;have k:=LH f;clear f h;generalize d.nodes.length=n at *;generalize d.at_=a at *;by_cases i:a>=0
 ·go_enter Tryz.func58,Tryz.ntmps58;go_wp2_with fail;have p:decide (0<=a)=T2:=decide_eq_true i;have s:IntKind.i64.wrap ((n:Int)-1)=(n:Int)-1:=V8 _ ⟨by omega,by omega⟩;go_quiet (fail);go_wp2_with fail;go_ret;rw[k.o,decide_eq_true i];exact⟨rfl,_,rfl⟩
 ·go_enter Tryz.func58,Tryz.ntmps58;go_wp2_with fail;have p:decide (0<=a)=Jx:=decide_eq_false (by omega);go_quiet (fail);go_wp2_with fail;go_ret;rw[k.o,decide_eq_false (by omega)];exact⟨rfl,_,rfl⟩
theorem q8a (h:BI w base g C V L d):VX Tryz.prog 58 #[.pointer (Bs ⟨g,0,B0⟩)] w fun e w'=>e=.returned (.bool d.tail)/\VJ w.heap.size w w':=
 (QN h).mono fun e w' ⟨i,m,f⟩=>⟨i,by rw[f];exact Cr (S2 _ _) _⟩
end
theorem q6t:(Tryz.prog.info? 116).map (fun i=>(i.zero,i.size,i.bytes))=Bs (Bs (.agg #[.int .i64 0,.int .i64 0,.int .i64 0,.int .i64 0,.int .i64 0,.int .i64 0,.int .i64 0,.int .i64 0,.slice B0 0 0]),9,88):=by kernel_rfl
section
variable {w w':B1} {base g off nd:Nat} {T:VQ} {cs:Array Hi} {V:Hi} {D:Option Nat} {L:List AT} {dead:Int->Bool} {lost:Int}
theorem AJ.fr {S:Nat->Prop} (h:AJ w base g off T cs V D nd L dead lost) (f:Fr S w w') (p:¬S g) (q:∀ b,V.ownBlock=Bs b->¬S b) (s:∀ b,D=Bs b->¬S b) (hP:∀ b t cs,Ab w b t cs->t=45->¬S b):AJ w' base g off T cs V D nd L dead lost:=
 ⟨f.ah h.ah p,h.c0,h.c1,h.c2,f.own h.row q,fun x k=>⟨f.own (h.own x k).1 (fun b i e=>by
  rcases(h.own x k).1.2 with ⟨hv,_⟩|⟨g',cap,cur,hv,_,hh,_⟩
  ·rw[hv] at i;simp[V4] at i
  ·rw[hv] at i;have u:g'=b:=by simpa [V4] using i
   subst u;exact hP g' _ _ hh rfl e),(h.own x k).2⟩,h.down.fr f s,h.len,h.ne,VO h.bg f.size⟩
theorem AJ.vlt (h:AJ w base g off T cs V D nd L dead lost) {b:Nat} (f:V.ownBlock=Bs b):b<w.heap.size:=(h.row.lt b f).2
end
def Kt (base g off nd:Nat) (T:VQ) (cs:Array Hi) (V:Hi) (D:Option Nat) (L:List AT) (dead:Int->Bool) (lost:Int) (l:List AT) (w:B1) (e:WA) (w':B1):Prop:=
 ∃ V' L' lost' d,e=.returned (.int .i64 d)/\(∀ x∈L',x∈L\/Ky w.heap.size x)/\AJ w' base g off T ((cs.setIfInBounds off V').setIfInBounds (off+2) (.int .i64 lost')) V' D nd L' dead lost'/\Dh ⟨AH L,dead⟩ (AH l)=⟨AH L',dead⟩/\Fr (BR g V D) w w'/\(V'.ownBlock=V.ownBlock\/∃ b,V'.ownBlock=Bs b/\w.heap.size<=b)
def Ib (base g off nd:Nat) (T:VQ) (cs:Array Hi) (V:Hi) (D:Option Nat) (L:List AT) (dead:Int->Bool) (lost:Int) (l:List AT) (n:Nat) (w:B1) (i c:Hi) (wr:B1):Prop:=
 ∃ (j k:Nat) (V':Hi) (L':List AT),i=.int .i64 j/\c=.int .i64 k/\j<=n/\k<=j/\(∀ x∈L',x∈L\/Ky w.heap.size x)/\AJ wr base g off T (cs.setIfInBounds off V') V' D nd L' dead lost/\Dh ⟨AH L,dead⟩ (AH (l.take j))=⟨AH L',dead⟩/\Fr (BR g V D) w wr/\(V'.ownBlock=V.ownBlock\/∃ b,V'.ownBlock=Bs b/\w.heap.size<=b)
section
variable {w wr w2:B1} {base g off nd n:Nat} {T:VQ} {cs:Array Hi} {V V':Hi} {D:Option Nat} {L L':List AT} {dead:Int->Bool} {lost:Int} {l:List AT} {j kk:Nat} {x:AT}
theorem FP (f:l[j]? = Bs x):AH (l.take (j+1))=AH (l.take j)++[x.m]:=by
 rw[List.take_add_one,f];simp[AH]
theorem q96 (i:∀ x∈L',x∈L\/Ky w.heap.size x) (hI:AJ wr base g off T (cs.setIfInBounds off V') V' D nd L' dead lost) (hs:Dh ⟨AH L,dead⟩ (AH (l.take j))=⟨AH L',dead⟩) (s:Fr (BR g V D) w wr)
  (u:V'.ownBlock=V.ownBlock\/∃ b,V'.ownBlock=Bs b/\w.heap.size<=b) (p:l[j]? = Bs x) (q:j<n) (v:kk<=j) (f:CS ⟨AH L',dead⟩ x.m=T2) (k:Fr (fun _=>False) wr w2) :
  Ib base g off nd T cs V D L dead lost l n w (.int .i64 ((j:Int)+1)) (.int .i64 ((kk:Int)+1)) w2:=
 ⟨j+1,kk+1,V',L',rfl,rfl,q,by omega,i,hI.fr k (fun h=>h) (fun _ _ h=>h) (fun _ _ h=>h) (fun _ _ _ _ _ h=>h),by
  rw[FP p,q94,hs];unfold BA;rw[f,if_pos rfl],s.trans' k (fun _ _ h=>h.elim),u⟩
end
theorem q4i (cs:Array Hi) (i:Nat) (u v:Hi):(cs.setIfInBounds i u).setIfInBounds i v=cs.setIfInBounds i v:=by
 ext k h1 h2
 ·simp
 ·by_cases h:i=k <;> simp[h]
theorem q5g {cs:Array Hi} {i:Nat} {v:Hi} (h:cs[i]? = Bs v):cs.setIfInBounds i v=cs:=by
 ext k h1 h2
 ·simp
 ·by_cases e:i=k
  ·subst e;rw[Array.getElem?_eq_getElem h2] at h;rw[Array.getElem_setIfInBounds_self];exact(Wj h).symm
  ·exact Array.getElem_setIfInBounds_ne h2 e
section
variable {w wr w2 w4:B1} {base g off nd n:Nat} {T:VQ} {cs:Array Hi} {V V' V2:Hi} {D:Option Nat} {L L':List AT} {dead:Int->Bool} {lost:Int} {l:List AT} {j kk:Nat} {x x2:AT}
theorem Q5 (U:∀ x∈L',x∈L\/Ky w.heap.size x) (X:Ky w.heap.size x2) (hI:AJ wr base g off T (cs.setIfInBounds off V') V' D nd L' dead lost) (hs:Dh ⟨AH L,dead⟩ (AH (l.take j))=⟨AH L',dead⟩) (Z:Fr (BR g V D) w wr)
  (O:V'.ownBlock=V.ownBlock\/∃ b,V'.ownBlock=Bs b/\w.heap.size<=b) (hx:l[j]? = Bs x) (hj:j<n) (hk:kk<=j) (z:CS ⟨AH L',dead⟩ x.m=Jx)
  (h3:Fr (fun k=>wr.heap.size<=k) wr w2) (R:x2.m=x.m) (H:D5 w2 base x2) (G:Aq w2 w4 V'.ownBlock V2.ownBlock) (E:w4.ownsRow base 116 9 V2 (L'.length+1) (L'.flatMap CD++CD x2)) :
  Ib base g off nd T cs V D L dead lost l n w (.int .i64 ((j:Int)+1)) (.int .i64 (kk:Int)) (w4.setCell ⟨g,off,B0⟩ V2):=by
 have f:AJ w2 base g off T (cs.setIfInBounds off V') V' D nd L' dead lost:=hI.fr h3 (fun h=>by have:=hI.ah.lt;omega) (fun b p h=>by have:=hI.vlt p;omega) (fun b p h=>by have:=hI.down;rw[p] at this;have:=this.lt;omega) (fun b t cs p _ h=>by have:=p.lt;omega);have I:off<cs.size:=by have:=hI.c0;rw[Array.getElem?_setIfInBounds_self] at this;split at this <;> simp_all
 have Y:¬Bs g=V'.ownBlock:=fun e=>Be f.row f.ah (fun e=>hI.ne.1 e.symm) e.symm
 have F:Ab w4 g T (cs.setIfInBounds off V'):=G.1.ah f.ah Y;have q:Fr (fun k=>k=g) w4 (w4.setCell ⟨g,off,B0⟩ V2):=Fr.ax g w4 off V2;have M:=F.aC off V2;rw[q4i] at M;have W:∀ b v m xs,w4.ownsRow base 45 3 v m xs->v.ownBlock=Bs b->¬b=g:=fun b v m xs ho p e=>by subst e;exact Be ho F (fun e=>hI.ne.2 e.symm) p
 have u:∀ y,D5 w2 base y->D5 (w4.setCell ⟨g,off,B0⟩ V2) base y:=fun y s=>by
  have h4:=G.1.own s.1 (fun b p e=>E0 s.1 f.row (by decide) p e.symm);exact⟨q.own h4 (fun b p e=>W b _ _ _ h4 p e),s.2⟩
 refine⟨j+1,kk,V2,L'++[x2],rfl,rfl,hj,by omega,(fun y s=>(List.mem_append.1 s).elim (U y) (fun h=>.inr (by rw[List.mem_singleton.1 h];exact X))),⟨M,?_,?_,?_,?_,fun y s=>?_,?_,?_,hI.ne,?_⟩,?_,?_,?_⟩
 ·simp[I]
 ·have:=hI.c1
  rwa [We (by omega)] at this ⊢
 ·have:=hI.c2
  rwa [We (by omega)] at this ⊢
 ·rw[VP,Wx,List.flatMap_singleton];exact q.own E (fun b p e=>by subst e;exact Be E F (fun e=>hI.ne.1 e.symm) p)
 ·rcases List.mem_append.1 s with s|s
  ·exact u y (f.own y s)
  ·rw[List.mem_singleton.1 s];exact u x2 H
 ·refine(f.down.fr G.1 (fun b p e=>?_)).fr q (fun b p e=>?_)
  ·exact f.down.aG f.row p e.symm
  ·subst e;exact f.down.a6 f.ah p
 ·unfold CS at z;simp only[Bool.or_eq_false_iff,decide_eq_false_iff_not] at z;have h1:=hI.len;have h2:=z.2;simp[AH] at h2 ⊢;omega
 ·exact VO f.bg (VO G.1.size q.size)
 ·rw[FP hx,q94,hs];unfold BA;rw[z,if_neg (by simp)];simp[AH,R]
 ·refine(Z.trans' h3 (fun i hi h=>?_)).trans' ((G.1.mono (T:=fun k=>Bs k=V'.ownBlock\/k=g) (fun i _ h=>.inl h)).trans' q (fun i _ h=>.inr h)) (fun i hi h=>?_)
  ·have:=Z.size;omega
  ·rcases h with h|h
   ·rcases O with O|⟨b,p,J⟩
    ·rw[O] at h;exact .inr (.inl h)
    ·rw[p] at h;injection h with h;subst h;omega
   ·exact .inl h
 ·rcases G.2 with h|⟨b,p,J⟩
  ·rw[h];exact O
  ·exact .inr ⟨b,p,VO (VO Z.size h3.size) J⟩
end
theorem I4 (base g off nd n k:Nat) (T:VQ) (cs:Array Hi) (V:Hi) (D:Option Nat) (L:List AT) (dead:Int->Bool) (lost:Int) (A:Option Xb) (l:List AT) (w:B1)
  (hI:AJ w base g off T cs V D nd L dead lost) (hR:MW w (BR g V D) A n l) (hn:n<=100000) (ar:∀ x∈l,E3 x.m.from_/\E3 x.m.a4/\x.n<=100000/\(x.A=B0->x.k=0)) :
  VX Tryz.prog 50 #[.pointer (Bs ⟨g,off,B0⟩),.slice A n k] w (Kt base g off nd T cs V D L dead lost l w):=by
 have HI:=LH hI;have HR:=LH hR;clear hR;have ao:=LH ar;clear ar;go_enter Tryz.func50,Tryz.ntmps50;go_wp2_with fail;go_loopw [10,5] (Ib base g off nd T cs V D L dead lost l n w) (fun i _ _=>n-(intOf i).toNat)
 case atStart=>exact⟨0,0,V,L,rfl,rfl,VK _,L1 _,fun _ h=>.inl h,by rw[q5g HI.o.c0];exact HI.o,by simp[AH,Dh],Fr.refl _ _,.inl rfl⟩
 case round=>
  obtain⟨j,kk,V',L',rfl,rfl,hj,Y,am,f,hs,hf,O⟩:=hrel;by_cases aZ:(j:Int)<n
  ·obtain⟨ga,oa,x,hA,ax,hx,h0,h1,h2,h3,h4,h5,h6,h7,h8⟩:=HR.o.2.1.bD HR.o.1 (j:=j) (by omega);subst hA;have aB:=HR.o.2.2.1 ga oa rfl (by omega);have Y:∀ o,wr.cell? ⟨ga,o,B0⟩=w.cell? ⟨ga,o,B0⟩:=fun o=>hf.cell (p:=⟨ga,o,B0⟩) ax aB
   have q0:=(Y _).trans h0;have q1:=(Y _).trans h1;have q2:=(Y _).trans h2;have q3:=(Y _).trans h3;have q4:=(Y _).trans h4;have q5:=(Y _).trans h5;have q6:=(Y _).trans h6;have q7:=(Y _).trans h7;have q8:=(Y _).trans h8;have b9:ga<wr.heap.size:=VH ax hf.size;clear h0 h1 h2 h3 h4 h5 h6 h7 h8 Y aB;have u:=LH f;clear f;have af:=LH am;clear am;have HS:=LH hs;clear hs;have HF:=LH hf;clear hf;have HV:=LH O;clear O;have HX:=LH hx;clear hx;have R:AJ (wr.alloc (.cells (Bq x.m x.A x.n x.k) 116)) base g off T (cs.setIfInBounds off V') V' D nd L' dead lost:=u.o.fr ((Fr.refl (fun _=>False) _).alloc _) (fun h=>h) (fun _ _ h=>h) (fun _ _ h=>h) (fun _ _ _ _ _ h=>h);have ad:Ab (wr.alloc (.cells (Bq x.m x.A x.n x.k) 116)) wr.heap.size 116 (Bq x.m x.A x.n x.k):=Ab.new wr _ _;obtain⟨A',c',O,ba,aF⟩:=AK u.o.row;have x0:=(R.ah.cell off).trans R.c0;have x1:=(R.ah.cell (off+1)).trans R.c1;rw[O] at x0;have y1:=ad.cell 1;have y2:=ad.cell 2;have a4:=fun K=>(show Bl ((wr.alloc (.cells (Bq x.m x.A x.n x.k) 116)).drewN K) nd D dead from R.down).look (ao.o x (O0 HX.o)).1
   have a3:=fun K=>(show Bl ((wr.alloc (.cells (Bq x.m x.A x.n x.k) 116)).drewN K) nd D dead from R.down).look (ao.o x (O0 HX.o)).2.1
   have aX:=u.o.len;have bb:=LH R;clear R;have aW:=LH ad;clear ad;have a6:=LH O;clear O;have bc:=LH aF;clear aF;have au:∀ b1 b2,dead x.m.from_=b1->dead x.m.a4=b2->CS ⟨AH L',dead⟩ x.m=(b1 || b2 || decide (L'.length=200)):=fun b1 b2 e1 e2=>by unfold CS;dsimp only;rw[e1,e2];simp[AH]
   have ae:=LH au;clear au;rcases H:dead x.m.from_ with _|_
   ·rcases M:dead x.m.a4 with _|_
    ·rw[H] at a4;rw[M] at a3;by_cases G:L'.length=200
     ·have hz:((L'.length:Int) == 200)=T2:=by rw[G];rfl
      have E:CS ⟨AH L',dead⟩ x.m=T2:=(ae.o _ _ H M).trans (by simp[G]);have I:=LH E;clear E;clear H M G;unfold Bq at *;go_wp2_with fail;go_quiet (fail);go_wp2_with fail;go_roundw
      ·exact q96 af.o u.o HS.o HF.o HV.o HX.o (by omega) Y I.o ((((Fr.refl _ wr).alloc _)).drewN _)
      ·simp[intOf];omega
     ·have hz:((L'.length:Int) == 200)=Jx:=by simpa using (by omega:¬(L'.length:Int)=200)
      have E:CS ⟨AH L',dead⟩ x.m=Jx:=(ae.o _ _ H M).trans (by simp[G]);have I:=LH E;clear E;have aS:=LH (show L'.length+1<=200 by omega);clear H M G;have aj:=HR.o.2.2.2 x (O0 HX.o);have a8:FA wr w.heap.size x.A x.n x.m.cmd.aa:=aj.1.fr HF.o (L1 _) aj.2;have ak:=ao.o x (O0 HX.o);have az:=fun K=>qa6 wr.heap.size w.heap.size x.n x.k x.A x.m.cmd.aa ((wr.alloc (.cells (Bq x.m x.A x.n x.k) 116)).drewN K) ⟨a8.1,a8.2.below (Cr (((S2 _ _).alloc (L1 _) _).mono HF.o.size) K)⟩ (by have:=HF.o.size;simp;omega) (by simp) ak.2.2.1 ak.2.2.2
      have aG:=LH (show x.m.cmd.aa.length=x.n from a8.1);have aT:=LH az;clear az ak a8 aj;unfold Bq at *;go_wp2_with fail;go_quiet (fail);go_wp2_with fail;refine(aT.o _).mono ?_;rintro e w2 ⟨A2,k2,rfl,F,aa⟩;have aR:=LH (show Ky w.heap.size ⟨x.m,A2,x.n,k2⟩ from fun b hb=>VO HF.o.size (F.lt b hb).1);have F:=Lw F u.o.bg;have aM:=aa.size;simp only[Uf,World.size_alloc] at aM;have ac:Ab w2 wr.heap.size 116 #[.int .i64 x.m.ag,.int .i64 x.m.from_,.int .i64 x.m.a4,.int .i64 x.m.ab,.int .i64 x.m.n,.int .i64 x.m.cmd.ag,.int .i64 x.m.cmd.tx,.int .i64 x.m.cmd.ae,.slice x.A x.n x.k]:=(aa.block wr.heap.size (by show wr.heap.size<(wr.alloc _).heap.size;simp)).trans aW.o;have z0:=ac.cell 8;have z1:=ac.frozen 8;have aL:=LH ac;clear ac;have aI:=LH F;clear F;have aV:=LH aa;clear aa;go_wp2_with fail;have aD:Fr (fun k=>wr.heap.size<=k) wr w2:=(((Fr.refl _ wr).alloc _).drewN _).trans ((DV aV.o).mono (fun i _ h=>by
       have h':(wr.alloc (.cells (Bq x.m x.A x.n x.k) 116)).heap.size<=i:=h;simp at h';omega))
      have U:=Fr.ax wr.heap.size w2 8 (.slice A2 x.n k2);have ab:=aD.trans (U.mono (T:=fun k=>wr.heap.size<=k) (fun i _ h=>Nat.le_of_eq h.symm));have z:=aL.o.aC 8 (.slice A2 x.n k2);simp only[List.setIfInBounds_toArray,XK,List.set_cons_zero] at z;have ah:∀ b,V4 (.slice A2 x.n k2)=Bs b->¬b=wr.heap.size:=fun b hb e=>by subst e;exact Be aI.o aL.o (by decide) hb
      have aC:=U.own aI.o ah;generalize w2.setCell ⟨wr.heap.size,8,B0⟩ (.slice A2 x.n k2)=w3 at *;have aO:g<wr.heap.size:=u.o.ah.lt;have n0:=(ab.cell (p:=⟨g,off,B0⟩) aO (fun h:wr.heap.size<=g=>by omega)).trans ((u.o.ah.cell off).trans u.o.c0);rw[a6.o] at n0;have b0:=z.cell 0;have b1:=z.cell 1;have b2:=z.cell 2;have b3:=z.cell 3;have b4:=z.cell 4;have b5:=z.cell 5;have b6:=z.cell 6;have b7:=z.cell 7;have b8:=z.cell 8;simp only[Ft,N2,D0] at b0 b1 b2 b3 b4 b5 b6 b7 b8;have aY:=ab.size;have ap:=LH ab;clear ab;have aK:=LH z;clear z;have aQ:=LH aC;clear aC;clear U aD ah z0 z1;refine nW ?_;refine Tr (fun w'=>w'.cell? ⟨g,off,B0⟩=Bs (.slice A' L'.length c')/\w'.cell? ⟨wr.heap.size,0,B0⟩=Bs (.int .i64 x.m.ag)/\w'.cell? ⟨wr.heap.size,1,B0⟩=Bs (.int .i64 x.m.from_)/\w'.cell? ⟨wr.heap.size,2,B0⟩=Bs (.int .i64 x.m.a4)/\w'.cell? ⟨wr.heap.size,3,B0⟩=Bs (.int .i64 x.m.ab)/\w'.cell? ⟨wr.heap.size,4,B0⟩=Bs (.int .i64 x.m.n)/\w'.cell? ⟨wr.heap.size,5,B0⟩=Bs (.int .i64 x.m.cmd.ag)/\w'.cell? ⟨wr.heap.size,6,B0⟩=Bs (.int .i64 x.m.cmd.tx)/\w'.cell? ⟨wr.heap.size,7,B0⟩=Bs (.int .i64 x.m.cmd.ae)/\w'.cell? ⟨wr.heap.size,8,B0⟩=Bs (.slice A2 x.n k2)) 8 ?_;have Z:=Wm n0 (Wm b0 (Wm b1 (Wm b2 (Wm b3 (Wm b4 (Wm b5 (Wm b6 (Wm b7 b8))))))));refine nE 0 Z ?_;refine nE 1 Z ?_;refine nE 2 Z ?_;refine nE 3 Z ?_;refine nC 4 rfl (fun _ _ _ h=>h) Z (fun w' al=>by obtain⟨c0,c1,c2,c3,c4,c5,c6,c7,c8,c9⟩:=al;go_simp;rfl) ?_;refine nC 5 rfl (fun _ _ _ h=>h) Z (fun w' al=>by obtain⟨c0,c1,c2,c3,c4,c5,c6,c7,c8,c9⟩:=al;go_simp;rfl) ?_;have s:∀ o q p,q<w3.heap.size->(w3.alloc o).cell? ⟨q,p,B0⟩=w3.cell? ⟨q,p,B0⟩:=fun o q p hq=>WY w3 o ⟨q,p,B0⟩ hq
      have y:=aK.o.lt;have a2:w3.ownsRow base 116 9 (.slice A' L'.length c') L'.length (L'.flatMap CD):=by
       rw[<- a6.o];exact ap.o.own u.o.row (fun b hb (h:wr.heap.size<=b)=>by have:=u.o.vlt hb;omega)
      have a7:=LH a2;clear a2;have a9:base<=w3.heap.size:=by have:=u.o.bg;omega
      refine nG 6 (fun K hK=>?_);go_simp;refine hK _ _ (fun _=>⟨(s _ _ _ (by omega)).trans n0,(s _ _ _ y).trans b0,(s _ _ _ y).trans b1,(s _ _ _ y).trans b2,(s _ _ _ y).trans b3,(s _ _ _ y).trans b4,(s _ _ _ y).trans b5,(s _ _ _ y).trans b6,(s _ _ _ y).trans b7,(s _ _ _ y).trans b8⟩) ?_;clear hK K Z s;refine nG 7 (fun K hK=>?_);have av:=aS.o;refine TE w3.drew w3.heap.size rfl _ (.tmp 50) (.tmp 52) 86 rfl base 116 _ 9 88 Tryz.underlying86 q6t rfl (by decide) _ _ _ #[.int .i64 x.m.ag,.int .i64 x.m.from_,.int .i64 x.m.a4,.int .i64 x.m.ab,.int .i64 x.m.n,.int .i64 x.m.cmd.ag,.int .i64 x.m.cmd.tx,.int .i64 x.m.cmd.ae,.slice A2 x.n k2] rfl a7.o 1 rfl _ rfl rfl (by simp[Wy]) (by unfold VZ;omega) (by omega) a9 ?_;clear av;intro V2 w4 W X;obtain⟨A4,c4,rfl,_,_⟩:=AK W;have a0:Aq w3 w4 V'.ownBlock (V4 (.slice A4 (L'.length+1) c4)):=by rw[a6.o];exact⟨⟨X.1.os,X.1.tape,X.1.output,X.1.size,X.1.block⟩,X.2⟩
      have a5:Ab w3 g T (cs.setIfInBounds off V'):=ap.o.ah u.o.ah (fun h:wr.heap.size<=g=>by omega);have a1:w3.ownsRow base 116 9 V' L'.length (L'.flatMap CD):=by rw[a6.o];exact a7.o
      have ay:¬Bs g=V'.ownBlock:=fun e=>Be a1 a5 (fun e=>u.o.ne.1 e.symm) e.symm
      have aq:¬Bs wr.heap.size=V'.ownBlock:=fun e=>by have:=u.o.vlt e.symm;omega
      have an:=a0.1.ah a5 ay;have v:=a0.1.ah aK.o aq;have y0:=an.cell off;have y1:=an.frozen off;have aA:=u.o.c0;rw[aA,a6.o] at y0;have aE:=Wm y0 (Wm (v.cell 0) (Wm (v.cell 1) (Wm (v.cell 2) (Wm (v.cell 3) (Wm (v.cell 4) (Wm (v.cell 5) (Wm (v.cell 6) (Wm (v.cell 7) (v.cell 8)))))))));have aU:=LH aE;clear aE;have ag:=Q5 (x2:=⟨x.m,A2,x.n,k2⟩) af.o aR.o u.o HS.o HF.o HV.o HX.o (by omega:j<n) Y I.o ap.o rfl ⟨aQ.o,aG.o⟩ a0 W;have aH:=LH ag;clear ag W X a0 an v a5 a1 ay aq aA;go_simp;refine hK _ _ (fun _=>aU.o) ?_;clear hK K;refine nG 8 (fun K hK=>?_);go_simp;refine hK _ _ nZ ?_;clear hK K;refine nG 9 (fun K hK=>?_);go_simp;refine hK _ _ nZ ?_;clear hK K;refine nG 10 (fun K hK=>?_);go_simp;refine hK _ _ nZ ?_;clear hK K;refine nX ?_;go_wp2_with fail;go_roundw
      ·exact aH.o
      ·simp[intOf];omega
    ·rw[H] at a4;rw[M] at a3;have E:CS ⟨AH L',dead⟩ x.m=T2:=(ae.o _ _ H M).trans (by simp);have I:=LH E;clear E;clear H M;unfold Bq at *;go_wp2_with fail;go_quiet (fail);go_wp2_with fail;go_roundw
     ·exact q96 af.o u.o HS.o HF.o HV.o HX.o (by omega) Y I.o ((((Fr.refl _ wr).alloc _)).drewN _)
     ·simp[intOf];omega
   ·rw[H] at a4;have E:CS ⟨AH L',dead⟩ x.m=T2:=(ae.o _ _ H rfl).trans (by simp);have I:=LH E;clear E;clear H a3;unfold Bq at *;go_wp2_with fail;go_quiet (fail);go_wp2_with fail;go_roundw
    ·exact q96 af.o u.o HS.o HF.o HV.o HX.o (by omega) Y I.o ((((Fr.refl _ wr).alloc _)).drewN _)
    ·simp[intOf];omega
  ·obtain rfl:j=n:=by omega
   have aw:l.take j=l:=VU (by have:=HR.o.1;omega);rw[aw] at hs;have x2:=(f.ah.cell (off+2)).trans f.c2;have x3:=f.ah.frozen (off+2);have ai:Kt base g off nd T cs V D L dead lost l w (.returned (.int .i64 kk)) (wr.setCell ⟨g,off+2,B0⟩ (.int .i64 (Xa (lost+kk)))):=by
    have J:=Fr.ax g wr (off+2) (.int .i64 (Xa (lost+kk)));have aP:AJ (wr.setCell ⟨g,off+2,B0⟩ (.int .i64 (Xa (lost+kk)))) base g off T ((cs.setIfInBounds off V').setIfInBounds (off+2) (.int .i64 (Xa (lost+kk)))) V' D nd L' dead (Xa (lost+kk)):=by
     have aN:off+2<cs.size:=by
      have:=f.c2;rcases W9 (off+2) cs.size with h|h
      ·exact h
      ·rw[WX (by simpa using h)] at this;cases this
     refine⟨f.ah.aC _ _,?_,?_,by simp[aN],J.own f.row (fun b hb e=>by subst e;exact Be f.row f.ah (fun e=>f.ne.1 e.symm) hb),fun x hx=>⟨J.own (f.own x hx).1 (fun b hb e=>by subst e;exact Be (f.own x hx).1 f.ah (fun e=>f.ne.2 e.symm) hb),(f.own x hx).2⟩,f.down.fr J (fun b hb e=>by subst e;exact f.down.a6 f.ah hb),f.len,f.ne,VO f.bg J.size⟩
     ·rw[We (by omega)];exact f.c0
     ·rw[We (by omega)];exact f.c1
    exact⟨V',L',_,kk,rfl,am,aP,hs,hf.trans' J (fun i _ h=>.inl h),O⟩
   have aJ:=LH ai;clear ai f hs hf O aw hI;go_wp2_with fail;go_ret;exact aJ.o
theorem EC (a:Xb):a.add 0=a:=by unfold Addr.add;rw[if_pos rfl]
section
variable {P:WQ} {w:B1} {base e size g n cap:Nat} {xs:List Hi}
theorem qb7 (h:w.ownsRow base e size (.slice (Bs ⟨g,0,B0⟩) n cap) n xs) {i:Nat} (z:i<=n):w.ownsRow base e size (.slice (Bs ⟨g,0,B0⟩) i cap) i (xs.take (i*size)):=by
 have y:i*size<=n*size:=WO _ z;refine⟨by rw[Wz,h.1];omega,?_⟩;rcases h.2 with ⟨h,_⟩|⟨F,u,s,h,q,E,v,p,k,f⟩
 ·cases h
 ·simp only[YI,VN,W7,and_true,true_and] at h;obtain⟨rfl,rfl⟩:=h;refine .inr ⟨g,cap,s,rfl,q,E,by omega,p,k,?_⟩;rw[<- f,List.take_take,Nat.min_eq_left y]
theorem G1 (h:w.ownsRow base e size (.slice (Bs ⟨g,0,B0⟩) n cap) n xs):n<=cap/\cap<=VZ:=by
 rcases h.2 with ⟨h,_⟩|⟨y,p,u,h,s,v,i,k,q,f⟩
 ·cases h
 ·simp only[YI,VN,W7,and_true,true_and] at h;obtain⟨rfl,rfl⟩:=h;exact⟨i,k⟩
def D8 (g k cap size:Nat):Option Xb:=if cap=k then Bs ⟨g,0,B0⟩ else Bs ⟨g,k*size,B0⟩
theorem qax (g k cap size:Nat):∃ o,D8 g k cap size=Bs ⟨g,o,B0⟩/\(k<cap->o=k*size):=by
 unfold D8;split
 ·rename_i f;exact⟨0,rfl,fun h=>by omega⟩
 ·exact⟨_,rfl,fun _=>rfl⟩
theorem Lo (t s:VQ) (i:TypeInfo) (z:P.underlying t=Bs (.slice e)) (G:P.info? e=Bs i) (f:i.size=size)
  (h:w.ownsRow base e size (.slice (Bs ⟨g,0,B0⟩) n cap) n xs) (O:∀ u∈xs,u.oneCell'=T2) {a b:Nat} (H:a<=b) (U:b<=n) :
  ∃ w',(Xv #[t,t] s #[.slice (Bs ⟨g,0,B0⟩) a cap,.slice (D8 g b cap size) (n-b) (cap-b)]).run P w=.ok (.slice (Bs ⟨g,0,B0⟩) (a+(n-b)) cap) w'/\
   w'.ownsRow base e size (.slice (Bs ⟨g,0,B0⟩) (a+(n-b)) cap) (a+(n-b)) (xs.take (a*size)++xs.drop (b*size))/\Fr (fun k=>k=g) w w':=by
 obtain⟨o,E,q⟩:=qax g b cap size;have R:=(G1 h).1;have v:(xs.drop (b*size)).length=(n-b)*size:=by rw[W8,h.1,YJ]
 obtain⟨w',M,J,I⟩:=run_append_fits (P:=P) w base t s e i size z G f g a cap _ (qb7 h (by omega:a<=n)) ⟨g,o,B0⟩ (n-b) (cap-b) (xs.drop (b*size)) v (fun j u p=>by
  have y:j<(n-b)*size:=by rw[<- v];exact(List.getElem?_eq_some_iff.1 p).1
  have F:b<n:=by
   rcases W9 b n with h|h
   ·exact h
   ·rw[Nat.sub_eq_zero_of_le h,Y6] at y;omega
  rw[WJ,q (by omega),h.cellAt]
  ·rw[<- p,List.getElem?_drop]
  ·rw[YJ] at y;omega) (fun u p=>O u (List.mem_of_mem_drop p)) (by omega)
 rw[E];exact⟨w',M,J,Fr.aP I (fun k e=>(Wj e).symm)⟩
theorem q5u (t:VQ) (z:Hi) (ht:P.underlying t=Bs (.slice e)) (hv:∀ w,(X5 e).run P w=.ok z w) (hz:z.cells.size=size) (J:∀ u∈z.cells.toList,u.oneCell'=T2)
  (h:w.ownsRow base e size (.slice (Bs ⟨g,0,B0⟩) n cap) n xs) {m c:Nat} (hm:n+m<=cap) :
  ∃ w',(∀ G,(YL #[t] G #[.slice (D8 g n cap size) m c]).run P w=.ok (.tuple #[]) w')/\w'.ownsRow base e size (.slice (Bs ⟨g,0,B0⟩) n cap) n xs/\Fr (fun k=>k=g) w w':=by
 obtain⟨o,ho,R⟩:=qax g n cap size;rw[ho];rcases XJ m with h0|h0
 ·subst h0;exact⟨w,fun G=>by simp[YL,Yu ht],h,Fr.refl _ _⟩
 have O:=R (by omega);subst O;rcases h.2 with ⟨F,_⟩|⟨g',a0,f,F,Z,hg,U,Y,X,p⟩
 ·cases F
 ·simp only[YI,VN,W7,and_true,true_and] at F;obtain⟨rfl,rfl⟩:=F;have v:(WC z.cells m).toList.length=m*size:=by rw[Ws,Xr,hz]
  have I:∀ u∈(WC z.cells m).toList,u.oneCell'=T2:=fun u M=>by
   obtain⟨i,hi,M⟩:=YV M;have H:0<z.cells.size:=by
    rcases XJ z.cells.size with h|h
    ·rw[v,<- hz,h] at hi;omega
    ·exact h
   refine J u ?_;rw[<- M];simp[WC];have W:i % z.cells.size<z.cells.size:=Nat.mod_lt _ H;simp[W]
  have s:n*size+(WC z.cells m).toList.length<=f.size:=by rw[v,X,<- Xc];exact WO _ hm
  have y:=run_storeCells_at (P:=P) g (n*size) e (WC z.cells m).toList 0 f w hg (by simpa using s) I;simp only[Nat.add_zero] at y;obtain⟨E,rfl⟩:∃ E,m=E+1:=⟨m-1,by omega⟩
  refine⟨w.setRow g (f.toList.take (n*size)++(WC z.cells (E+1)).toList++f.toList.drop (n*size+(WC z.cells (E+1)).toList.length)).toArray,?_,⟨h.1,.inr ⟨g,cap,_,rfl,Z,setRow_heap w g f _ e _ hg,U,Y,?_,?_⟩⟩,⟨rfl,rfl,rfl,by simp,fun k _ hk=>setRow_other w g k _ hk⟩⟩
  ·intro G;simp[YL,Yu ht,hv,y]
  ·simp only[Xn,VP,Wz,W8,Ws];simp only[Ws] at s;omega
  ·have q:(f.toList.take (n*size)).length=n*size:=by rw[p,h.1]
   rw[X4,Wp (by rw[q];omega),VU (by rw[q];omega),p]
theorem q93 (T:VQ) (f:P.underlying T=Bs (.slice (P.elem T))) (hs:∀ w,(YX (P.elem T)).run P w=.ok size w) (w:B1) (g n c v:Nat) (h:Int) (i:h=v) (k:v<=n) :
  (Yw T (.slice (Bs ⟨g,0,B0⟩) n c) (Bs (.int .i64 h)) B0 B0).run P w=.ok (.slice (D8 g v c size) (n-v) (c-v)) w:=by
 subst i;rw[run_slice_l w T _ n c f .i64 (v:Int) (by omega) (by omega),hs];simp only[WV,sliced,XD,D8];congr 2;split <;> simp[WJ]
theorem Fs (T:VQ) (f:P.underlying T=Bs (.slice (P.elem T))) (hs:∀ w,(YX (P.elem T)).run P w=.ok size w) (w:B1) (g n c v:Nat) (h:Int) (i:h=v) (k:v<=c) :
  (Yw T (.slice (Bs ⟨g,0,B0⟩) n c) B0 (Bs (.int .i64 h)) B0).run P w=.ok (.slice (Bs ⟨g,0,B0⟩) v c) w:=by
 subst i;rw[run_slice_h w T _ n c f .i64 (v:Int) (by omega) (by omega),hs];simp only[WV,sliced,XD,Y6,Nat.sub_zero];congr 2;split <;> simp[EC]
theorem Lk (T:VQ) (i:P.underlying T=Bs (.slice (P.elem T))) (hs:∀ w,(YX (P.elem T)).run P w=.ok size w) (w:B1) (g n c u v:Nat) (l h:Int) (k:l=u) (p:h=v) (f:u<=v) (q:v<=c) :
  (Yw T (.slice (Bs ⟨g,0,B0⟩) n c) (Bs (.int .i64 l)) (Bs (.int .i64 h)) B0).run P w=.ok (.slice (D8 g u c size) (v-u) (c-u)) w:=by
 subst k p;rw[run_slice_lh w T _ n c i .i64 .i64 (u:Int) (v:Int) (by omega) (by omega) (by omega),hs];simp only[WV,sliced,XD,D8];congr 2;split <;> simp[WJ]
end
theorem qbo {P:WQ} {w w':B1} {o:Xw} {a:Act} {K:Act->B1->Prop} {Q:Yn->Act->B1->Prop} (s x:X6) (t:VQ)
  (k:o.op=.call { callee:=.builtin .append,args:=#[s,x],argTypes:=#[t,t] }) (v u r:Hi) (hs:a.eval s=v) (i:a.eval x=u)
  (f:(Xv #[t,t] o.type #[v,u]).run P w=.ok r w') (h:K (a.put o.dst r) w'):o.wp P a w K Q:=by
 unfold Ye Yg;simp only[k,resolve,invoke,builtin,Sem.run_bind,Sem.run_pure,Zb,List.map_toArray,Xt,X8,hs,i,f];exact h
theorem Kb:Tryz.prog.elem 86=116:=by kernel_rfl
theorem q6h:Tryz.prog.underlying 86=Bs (.slice (Tryz.prog.elem 86)):=by rw[Kb];exact Tryz.underlying86
theorem q6l (w:B1):(YX (Tryz.prog.elem 86)).run Tryz.prog w=.ok 9 w:=by rw[Kb];kernel_rfl
def Qj:Hi:=.agg #[.int .i64 0,.int .i64 0,.int .i64 0,.int .i64 0,.int .i64 0,.int .i64 0,.int .i64 0,.int .i64 0,.slice B0 0 0]
theorem Ip (w:B1):(X5 116).run Tryz.prog w=.ok Qj w:=by kernel_rfl
theorem UL (l:List AT):∀ u∈l.flatMap CD,u.oneCell'=T2:=fun u h=>by
 obtain⟨p,_,f⟩:=List.mem_flatMap.1 h;simp only[CD,Bq,XZ,XS,or_false] at f;rcases f with rfl|rfl|rfl|rfl|rfl|rfl|rfl|rfl|rfl <;> rfl
def DelP (base f n cap:Nat) (xs:List Hi) (w:B1) (e:WA) (w':B1):Prop:=
 e=.returned (.slice (Bs ⟨f,0,B0⟩) n cap)/\w'.ownsRow base 116 9 (.slice (Bs ⟨f,0,B0⟩) n cap) n xs/\Fr (fun k=>k=f) w w'
theorem MC (base q n cap k:Nat) (xs:List Hi) (w:B1) (h:w.ownsRow base 116 9 (.slice (Bs ⟨q,0,B0⟩) n cap) n xs) (Y:k<n) (X:n<=100000) (W:∀ u∈xs,u.oneCell'=T2) :
  VX Tryz.prog 77 #[.slice (Bs ⟨q,0,B0⟩) n cap,.int .i64 k,.int .i64 ((k:Int)+1)] w (DelP base q (n-1) cap (xs.take (k*9)++xs.drop ((k+1)*9)) w):=by
 have O:=(G1 h).1;obtain⟨i,R,_,y,_⟩:=Yy q6t;have J:((k:Int) == (k:Int)+1)=Jx:=by simpa using (by omega:¬(k:Int)=(k:Int)+1)
 have s1:=fun w=>Fs (size:=9) 86 q6h q6l w q n cap k (k:Int) rfl (by omega)
 have s2:=fun w=>q93 (size:=9) 86 q6h q6l w q n cap (k+1) ((k:Int)+1) (by omega) (by omega)
 obtain⟨I,E,p,v⟩:=Lo (w:=w.drew) 86 86 i Tryz.underlying86 R y h W (a:=k) (b:=k+1) (by omega) (by omega);have H:k+(n-(k+1))=n-1:=by omega
 rw[H] at E p;have v:Fr (fun k=>k=q) w I:=⟨v.os,v.tape,v.output,v.size,v.block⟩
 obtain⟨w2,U,f,z⟩:=q5u 86 Qj Tryz.underlying86 Ip (by rfl) (by decide) p (m:=n-(n-1)) (c:=cap-(n-1)) (by omega);have s3:=fun w=>Lk (size:=9) 86 q6h q6l w q (n-1) cap (n-1) n ((n-1:Nat):Int) (n:Int) rfl rfl (by omega) (by omega)
 have s:DelP base q (n-1) cap (xs.take (k*9)++xs.drop ((k+1)*9)) w (.returned (.slice (Bs ⟨q,0,B0⟩) (n-1) cap)) w2:=⟨rfl,f,v.trans z⟩
 have G:=LH s;clear s p f v z h;have M:(k:Int)+1<=n:=by omega
 go_enter Tryz.func77,Tryz.ntmps77;go_wp2_with fail;refine nW ?_;refine Fx 0 rfl (by kernel_rfl) (by kernel_rfl) (by kernel_rfl) (fun _ _ _ h=>h) (by kernel_rfl) (fun w=>by go_simp;rfl) ?_;refine Fx 1 rfl (by kernel_rfl) (by kernel_rfl) (by kernel_rfl) (fun _ _ _ h=>h) (by kernel_rfl) (fun w=>by go_simp;rfl) ?_;refine Fx 2 rfl (by kernel_rfl) (by kernel_rfl) (by kernel_rfl) (fun _ _ _ h=>h) (by kernel_rfl) (fun w=>by have:=s1 w;go_simp;rfl) ?_;refine Fx 3 rfl (by kernel_rfl) (by kernel_rfl) (by kernel_rfl) (fun _ _ _ h=>h) (by kernel_rfl) (fun w=>by go_simp;rfl) ?_;refine Fx 4 rfl (by kernel_rfl) (by kernel_rfl) (by kernel_rfl) (fun _ _ _ h=>h) (by kernel_rfl) (fun w=>by go_simp;rfl) ?_;refine Fx 5 rfl (by kernel_rfl) (by kernel_rfl) (by kernel_rfl) (fun _ _ _ h=>h) (by kernel_rfl) (fun w=>by have:=s2 w;go_simp;rfl) ?_;refine ronly 6 (by kernel_rfl) rfl (by kernel_rfl) (fun K F=>?_);refine qbo (.tmp 22) (.tmp 25) 86 rfl _ _ _ rfl rfl E ?_;go_simp;refine F _ _ ?_;clear F K;refine ronly 7 (by kernel_rfl) rfl (by kernel_rfl) (fun K F=>?_);go_simp;refine F _ _ ?_;clear F K;refine wpAny_done (by kernel_rfl) ?_ _;have:=s3 I;go_wp2_with fail;go_ret;exact G.o
def UM (x:AT):Hi:=Dr x.m x.A x.n x.k
def PW:AT:=⟨⟨0,0,0,0,0,⟨0,0,0,[]⟩⟩,B0,0,0⟩
theorem O2:(Tryz.prog.info? 116).map (·.size)=Bs 9:=by kernel_rfl
theorem ret_mr {f:Func} {p u:Tmp} (h:f.results=#[.cell p 116,.tmp u]) (tmps:Array Hi) (w:B1) (g:Nat) (x:AT) (i:tmps.getD p Yc=.pointer (Bs ⟨g,0,B0⟩)) (k:Ab w g 116 (Bq x.m x.A x.n x.k)) :
  (results f tmps).run Tryz.prog w=.ok (.tuple #[UM x,tmps.getD u Yc]) w:=by
 rw[results_cell_tmp h,i];simp only[asAddr,Sem.run_pure,WV];rw[run_loadVar_row w g 116 116 (Bq x.m x.A x.n x.k) (0,0) _ k Tryz.underlying116 rfl O2];rfl
theorem q7s:∀ (l:List AT) (k:Nat),(l.flatMap CD).take (k*9)=(l.take k).flatMap CD
 | [],k=>by simp
 | x::l,0=>by simp
 | x::l,k+1=>by
  have e:(k+1)*9=9+k*9:=by omega
  rw[VI,WU,VI,e,<- q7s l k];rw[List.take_append,q2i,Nat.add_sub_cancel_left,VU (by rw[q2i];omega)]
theorem qbk:∀ (l:List AT) (k:Nat),(l.flatMap CD).drop (k*9)=(l.drop k).flatMap CD
 | [],k=>by simp
 | x::l,0=>by simp
 | x::l,k+1=>by
  have e:(k+1)*9=9+k*9:=by omega
  rw[VI,Xd,e,<- qbk l k];rw[List.drop_append,q2i,Nat.add_sub_cancel_left,Ya (by rw[q2i];omega),WL]
theorem J3 (l:List AT) (k:Nat):(l.flatMap CD).take (k*9)++(l.flatMap CD).drop ((k+1)*9)=(l.eraseIdx k).flatMap CD:=by
 rw[q7s,qbk,<- Wx,List.eraseIdx_eq_take_drop_succ]
def Sp (w:B1) (g:Nat) (x:AT):B1:=
 ((((((((w.setCell ⟨g,0,B0⟩ (.int .i64 x.m.ag)).setCell ⟨g,1,B0⟩ (.int .i64 x.m.from_)).setCell ⟨g,2,B0⟩ (.int .i64 x.m.a4)).setCell ⟨g,3,B0⟩ (.int .i64 x.m.ab)).setCell ⟨g,4,B0⟩ (.int .i64 x.m.n)).setCell ⟨g,5,B0⟩ (.int .i64 x.m.cmd.ag)).setCell ⟨g,6,B0⟩ (.int .i64 x.m.cmd.tx)).setCell ⟨g,7,B0⟩ (.int .i64 x.m.cmd.ae)).setCell ⟨g,8,B0⟩ (.slice x.A x.n x.k)
theorem J7 (w:B1) (g:Nat) (x:AT):Fr (fun i=>i=g) w (Sp w g x):=
 (((((((((Fr.refl (fun i=>i=g) w).setCell (p:=⟨g,0,B0⟩) (.inl rfl) _).setCell (p:=⟨g,1,B0⟩) (.inl rfl) _).setCell (p:=⟨g,2,B0⟩) (.inl rfl) _).setCell (p:=⟨g,3,B0⟩) (.inl rfl) _).setCell (p:=⟨g,4,B0⟩) (.inl rfl) _).setCell (p:=⟨g,5,B0⟩) (.inl rfl) _).setCell (p:=⟨g,6,B0⟩) (.inl rfl) _).setCell (p:=⟨g,7,B0⟩) (.inl rfl) _).setCell (p:=⟨g,8,B0⟩) (.inl rfl) _
theorem Gb {w:B1} {g:Nat} {x0:AT} (h:Ab w g 116 (Bq x0.m x0.A x0.n x0.k)) (x:AT):Ab (Sp w g x) g 116 (Bq x.m x.A x.n x.k):=by
 have:=((((((((h.aC 0 (.int .i64 x.m.ag)).aC 1 (.int .i64 x.m.from_)).aC 2 (.int .i64 x.m.a4)).aC 3 (.int .i64 x.m.ab)).aC 4 (.int .i64 x.m.n)).aC 5 (.int .i64 x.m.cmd.ag)).aC 6 (.int .i64 x.m.cmd.tx)).aC 7 (.int .i64 x.m.cmd.ae)).aC 8 (.slice x.A x.n x.k);unfold Sp;simpa [Bq] using this
def Vq (base g off nd:Nat) (T:VQ) (cs:Array Hi) (V:Hi) (D:Option Nat) (L:List AT) (dead:Int->Bool) (lost:Int) (k:Nat) (w:B1) (e:WA) (w':B1):Prop:=
 ∃ V' x,L[k]? = Bs x/\e=.returned (.tuple #[UM x,.nilIface])/\AJ w' base g off T (cs.setIfInBounds off V') V' D nd (L.eraseIdx k) dead lost/\D5 w' base x/\Fr (BR g V D) w w'/\V'.ownBlock=V.ownBlock
theorem UH {w w2 w3:B1} {base g off nd:Nat} {T:VQ} {cs:Array Hi} {V:Hi} {D:Option Nat} {L:List AT} {dead:Int->Bool} {lost:Int} {k s cap:Nat} {x:AT}
  (hI:AJ w base g off T cs V D nd L dead lost) (Z:V=.slice (Bs ⟨s,0,B0⟩) L.length cap) (O:L[k]? = Bs x) (U:Fr (fun k=>w.heap.size<=k) w w2)
  (E:w3.ownsRow base 116 9 (.slice (Bs ⟨s,0,B0⟩) (L.length-1) cap) (L.length-1) ((L.eraseIdx k).flatMap CD)) (u:Fr (fun k=>k=s) w2 w3) :
  AJ (w3.setCell ⟨g,off,B0⟩ (.slice (Bs ⟨s,0,B0⟩) (L.length-1) cap)) base g off T (cs.setIfInBounds off (.slice (Bs ⟨s,0,B0⟩) (L.length-1) cap)) (.slice (Bs ⟨s,0,B0⟩) (L.length-1) cap) D nd (L.eraseIdx k) dead lost/\
   D5 (w3.setCell ⟨g,off,B0⟩ (.slice (Bs ⟨s,0,B0⟩) (L.length-1) cap)) base x/\Fr (BR g V D) w (w3.setCell ⟨g,off,B0⟩ (.slice (Bs ⟨s,0,B0⟩) (L.length-1) cap))/\Ab w3 g T cs:=by
 have Y:k<L.length:=(List.getElem?_eq_some_iff.1 O).1;have v:V.ownBlock=Bs s:=by rw[Z];rfl
 have X:=hI.vlt v;have f:AJ w2 base g off T cs V D nd L dead lost:=hI.fr U (fun h=>by have:=hI.ah.lt;omega) (fun b q h=>by have:=hI.vlt q;omega) (fun b q h=>by have:=hI.down;rw[q] at this;have:=this.lt;omega) (fun b t cs q _ h=>by have:=q.lt;omega);have J:¬g=s:=fun e=>Be f.row f.ah (fun e=>hI.ne.1 e.symm) (by rw[v,e])
 have z:Ab w3 g T cs:=u.ah f.ah J;have p:Fr (fun k=>k=g) w3 (w3.setCell ⟨g,off,B0⟩ (.slice (Bs ⟨s,0,B0⟩) (L.length-1) cap)):=Fr.ax g w3 off _;have F:∀ y∈L,D5 (w3.setCell ⟨g,off,B0⟩ (.slice (Bs ⟨s,0,B0⟩) (L.length-1) cap)) base y:=fun y I=>by
  have M:=f.own y I;have W:=u.own M.1 (fun b q e=>by subst e;exact E0 f.row M.1 (by decide) v q);exact⟨p.own W (fun b q e=>by subst e;exact Be W z (fun e=>hI.ne.2 e.symm) q),M.2⟩
 have G:off<cs.size:=by
  rcases W9 off cs.size with h|h
  ·exact h
  ·have:=hI.c0;rw[WX h] at this;cases this
 have H:(L.eraseIdx k).length=L.length-1:=by rw[List.length_eraseIdx_of_lt Y]
 refine⟨⟨z.aC _ _,by simp[G],?_,?_,?_,fun y I=>F y (List.mem_of_mem_eraseIdx I),?_,by rw[H];have:=hI.len;omega,hI.ne,?_⟩,F x (O0 O),?_,z⟩
 ·rw[We (by omega)];exact hI.c1
 ·rw[We (by omega)];exact hI.c2
 ·rw[H];exact p.own E (fun b q e=>by subst e;exact Be E z (fun e=>hI.ne.1 e.symm) q)
 ·refine(f.down.fr u (fun b q e=>?_)).fr p (fun b q e=>?_)
  ·subst e;exact f.down.aG f.row q v
  ·subst e;exact f.down.a6 f.ah q
 ·exact VO f.bg (VO u.size p.size)
 ·refine(U.mono (T:=BR g V D) (fun i R (h:w.heap.size<=i)=>absurd R (by omega))).trans' ((u.mono (T:=fun k=>k=s\/k=g) (fun i _ h=>.inl h)).trans' p (fun i _ h=>.inr h)) (fun i R h=>?_);rcases h with rfl|rfl
  ·exact .inr (.inl v.symm)
  ·exact .inl rfl
theorem LI {w:B1} {base e size n:Nat} {v:Hi} {xs:List Hi} (h:w.ownsRow base e size v n xs) (k:0<n):∃ g cap,v=.slice (Bs ⟨g,0,B0⟩) n cap/\base<=g/\g<w.heap.size:=by
 obtain⟨g,cap,i,p,f⟩:=h.form k;exact⟨g,cap,i,p,f⟩
theorem IS (base g off nd:Nat) (T:VQ) (cs:Array Hi) (V:Hi) (D:Option Nat) (L:List AT) (dead:Int->Bool) (lost:Int) (k:Nat) (w:B1)
  (hI:AJ w base g off T cs V D nd L dead lost) (hk:k<L.length):VX Tryz.prog 48 #[.pointer (Bs ⟨g,off,B0⟩),.int .i64 k] w (Vq base g off nd T cs V D L dead lost k w):=by
 obtain⟨I,cap,R,af,ab⟩:=LI hI.row (by omega);have M:=Rd.au (by rw[<- R];exact hI.row:w.ownsRow base 116 9 (.slice (Bs ⟨I,0,B0⟩) L.length cap) L.length (L.flatMap CD));obtain⟨g',o',x,hA,_,Y,h0,h1,h2,h3,h4,h5,h6,h7,h8⟩:=M.bD rfl hk;simp only[VN,W7,and_true] at hA;obtain⟨rfl,rfl⟩:=hA;rw[Wg] at h0 h1 h2 h3 h4 h5 h6 h7 h8;have c0:=(hI.ah.cell off).trans hI.c0;rw[R] at c0;have Z:=hI.len;have ae:=hI.ah.lt;have HI:=LH hI;clear hI;have U:=LH R;clear R M;have HX:=LH Y;clear Y;have ac:(k:Int)<L.length:=by omega
 have ad:¬(k:Int)<0:=by omega
 have a9:¬(L.length:Int)<=k:=by omega
 go_enter Tryz.func48,Tryz.ntmps48;go_wp2_with fail;have y:Fr (fun k=>w.heap.size<=k) w ((w.alloc (.cells (Bq PW.m B0 0 0) 116)).alloc (.cells (Bq x.m x.A x.n x.k) 116)):=((Fr.refl _ _).alloc _).alloc _;have H:Ab ((w.alloc (.cells (Bq PW.m B0 0 0) 116)).alloc (.cells (Bq x.m x.A x.n x.k) 116)) w.heap.size 116 (Bq PW.m B0 0 0):=(Ab.new w _ _).alloc _;have G:Ab ((w.alloc (.cells (Bq PW.m B0 0 0) 116)).alloc (.cells (Bq x.m x.A x.n x.k) 116)) (w.heap.size+1) 116 (Bq x.m x.A x.n x.k):=by
  have:=Ab.new (w.alloc (.cells (Bq PW.m B0 0 0) 116)) 116 (Bq x.m x.A x.n x.k);simpa using this
 have p:=y.own HI.o.row (fun b F (h:w.heap.size<=b)=>by have:=HI.o.vlt F;omega);rw[U.o] at p;unfold Bq PW at y H G p;generalize ((w.alloc _).alloc _)=w2 at *;refine(MC base I L.length cap k _ w2 p hk (by omega) (UL L)).mono ?_;rintro e w3 ⟨rfl,s,z⟩;rw[J3] at s;obtain⟨hN,hO,hF,E⟩:=UH HI.o U.o HX.o y s z;have z0:=E.cell off;have z1:=E.frozen off;rw[HI.o.c0,U.o] at z0;have W:¬g=w.heap.size:=by omega
 have v:Fr (fun k=>k=g) w3 (w3.setCell ⟨g,off,B0⟩ (.slice (Bs ⟨I,0,B0⟩) (L.length-1) cap)):=Fr.ax g w3 off _;have f:=v.ah (z.ah H (fun h:w.heap.size=I=>by omega)) (fun h:w.heap.size=g=>by omega);have q:=v.ah (z.ah G (fun h:w.heap.size+1=I=>by omega)) (fun h:w.heap.size+1=g=>by omega);have aa:=E.lt;have HN:=LH hN;clear hN;have X:=LH hO;clear hO;have HF:=LH hF;clear hF;clear v E s z p y H G h0 h1 h2 h3 h4 h5 h6 h7 h8 c0;go_upto_region 5 with (fail)
 generalize w3.setCell ⟨g,off,B0⟩ (.slice (Bs ⟨I,0,B0⟩) (L.length-1) cap)=w4 at *;have a0:=f.cell 0;have a1:=f.cell 1;have a2:=f.cell 2;have a3:=f.cell 3;have a4:=f.cell 4;have a5:=f.cell 5;have a6:=f.cell 6;have a7:=f.cell 7;have a8:=f.cell 8;have f0:=f.frozen 0;have f1:=f.frozen 1;have f2:=f.frozen 2;have f3:=f.frozen 3;have f4:=f.frozen 4;have f5:=f.frozen 5;have f6:=f.frozen 6;have f7:=f.frozen 7;have f8:=f.frozen 8;have b0:=q.cell 0;have b1:=q.cell 1;have b2:=q.cell 2;have b3:=q.cell 3;have b4:=q.cell 4;have b5:=q.cell 5;have b6:=q.cell 6;have b7:=q.cell 7;have b8:=q.cell 8;simp only[Ft,N2,D0] at a0 a1 a2 a3 a4 a5 a6 a7 a8 b0 b1 b2 b3 b4 b5 b6 b7 b8;have J:=LH f;clear f;go_wp2_with fail;have u:=J7 w4 w.heap.size x;refine Za (ret_mr rfl _ _ w.heap.size x rfl (Gb (x0:=PW) J.o x)) rfl ⟨_,x,HX.o,rfl,HN.o.fr u (fun h=>W h) (fun b F h=>?_) (fun b F h=>?_) (fun b t cs F ht h=>?_),⟨u.own X.o.1 (fun b F h=>?_),X.o.2⟩,HF.o.trans' u (fun i hi (h:i=w.heap.size)=>absurd hi (by omega)),by rw[U.o];rfl⟩
 ·have e:I=b:=by simpa [V4] using F
  have O:b=w.heap.size:=h;omega
 ·have O:b=w.heap.size:=h;have:=HI.o.down;rw[F] at this;have:=this.lt;omega
 ·have O:b=w.heap.size:=h;subst O;exact absurd rfl (Ab.ne_ J.o F (by rw[ht];decide))
 ·have O:b=w.heap.size:=h;subst O;exact Be X.o.1 J.o (by decide) F
theorem FO:(Tryz.prog.info? 116).map (·.size)=Bs 9:=by kernel_rfl
def msgP (m:Ms) (w:B1) (e:WA) (w':B1):Prop:=e=.returned (Dr m B0 0 0)/\VJ w.heap.size w w'
section
variable {w w':B1} {base g:Nat} {C V:Hi} {L:List Bt} {d:Nd}
theorem q6r (h:BI w base g C V L d) (kind b k:Int) (R:0<=d.at_+b) (O:d.at_+b<d.nodes.length) :
  VX Tryz.prog 79 #[.pointer (Bs ⟨g,0,B0⟩),.int .i64 kind,.int .i64 b,.int .i64 k] w (msgP (d.msg kind b k) w):=by
 obtain⟨c0,c1,c2,c3,_,_,X⟩:=h.cells;obtain⟨A,c,rfl⟩:=h.df;obtain⟨j,y⟩:∃ j:Nat,d.at_+b=j:=⟨(d.at_+b).toNat,by omega⟩
 have H:(j:Int)<d.nodes.length:=by omega
 obtain⟨Z,W,u,rfl,I,s,cu⟩:=(Rd.au h.bw).bQ (k:=j) (by omega);rw[VT] at s;have J:=h.bf;have q:d.nodes[j]? = Bs d.nodes[j]:=K0 (by omega);rw[q] at s;obtain rfl:=Wj s;have p:d.a4 b=d.nodes[j]:=by unfold Nd.a4;rw[y];simp[q]
 have f:∀ z,VJ w.heap.size w z->msgP (d.msg kind b k) w (.returned (.agg #[.int .i64 kind,.int .i64 d.id,.int .i64 d.nodes[j],.int .i64 d.ab,.int .i64 k,.int .i64 0,.int .i64 0,.int .i64 0,.slice B0 0 0])) z:=fun z M=>⟨by unfold Nd.msg Dr cm0;rw[p],M⟩
 have U:=LH f;clear f;have Y:IntKind.i64.wrap (d.at_+b)=(j:Int):=by rw[V8 _ ⟨by omega,by omega⟩,y]
 have E:(0:Int)<=(j:Int):=by omega
 generalize d.nodes[j]=F at *;have G:d.nodes.length<=6:=J;generalize v:d.nodes.length=n at *;generalize d.at_=a at *;generalize d.id=i at *;generalize d.ab=ep at *;clear h q p y R O v;go_enter Tryz.func79,Tryz.ntmps79;go_wp2_with fail;refine wp_region_still_tail 25 (by kernel_rfl) (by kernel_rfl) ?_;change wpStill _ _ (Ym _) _ _ _;simp only[WU,List.take_zero,Xd,List.drop_zero]
 repeat still_step
 refine wpStill_nil ?_;change Yb _ _ _ _ _ (Ym _);go_wp2_with fail;refine Za (results_cell_row rfl _ _ w.heap.size 116 _ (0,0) _ rfl (show _ from Ab.new w _ _) Tryz.underlying116 rfl FO) rfl ?_;exact U.o _ ((S2 _ _).alloc (L1 _) _).drew
def fwdP (m:Ms) (n:Nat) (w:B1) (e:WA) (w':B1):Prop:=∃ A k,e=.returned (Dr m A n k)/\w'.ownsRow w.heap.size 45 3 (.slice A n k) n (m.cmd.aa.flatMap C9)/\VJ w.heap.size w w'
theorem rd4 {w:B1} {B n j:Nat} {A:Option Xb} {l:List Bt} (h:Rd w B 4 A n (l.flatMap DX)) (v:l.length=n) (y:j<n):∃ g off x,A=Bs ⟨g,off,B0⟩/\g<B/\l[j]? = Bs x/\
  w.cell? ⟨g,off+j*4,B0⟩=Bs (.int .i64 x.c.ag)/\w.cell? ⟨g,off+j*4+1,B0⟩=Bs (.int .i64 x.c.tx)/\w.cell? ⟨g,off+j*4+2,B0⟩=Bs (.int .i64 x.c.ae)/\w.cell? ⟨g,off+j*4+3,B0⟩=Bs (.slice x.A x.n x.k):=by
 obtain⟨g,off,e,k,f⟩:=h.2 (by omega);have i:l[j]? = Bs l[j]:=K0 (by omega);obtain⟨u,s,q,p⟩:=flat4 l j _ i;exact⟨g,off,l[j],e,k,i,f _ _ u,f _ _ s,f _ _ q,f _ _ p⟩
theorem EJ.reads {x:Bt} (h:EJ w base x):FA w w.heap.size x.A x.n x.c.aa:=⟨h.2.1,Rd.au h.1⟩
theorem EJ.none_ {x:Bt} (h:EJ w base x):x.A=B0->x.k=0:=fun e=>by
 rcases h.1.2 with ⟨f,_⟩|⟨k,cap,i,f,_⟩
 ·injection f
 ·rw[e] at f;injection f with f;cases f
theorem q9w (h:BI w base g C V L d) (k:Nat) (x:Bt) (hx:L[k]? = Bs x) (h0:0<=d.at_) (h1:d.at_+1<d.nodes.length) :
  VX Tryz.prog 80 #[.pointer (Bs ⟨g,0,B0⟩),.int .i64 k] w (fwdP (d.forward k) x.n w):=by
 have aj:=(List.getElem?_eq_some_iff.1 hx).1;have ap:=h.len;have ac:d.forward k=⟨3,d.id,d.a4 1,d.ab,k,x.c⟩:=by
  unfold Nd.forward;rw[<- h.log,AM,VT,hx];rfl
 rw[ac];have I:VJ w.heap.size w (w.alloc (.cells (Bq PW.m B0 0 0) 116)):=(S2 _ _).alloc (L1 _) _;have J:=h.a8 I;have HC:=LH (q6r J 3 1 k (by omega) h1);have u:Ab (w.alloc (.cells (Bq PW.m B0 0 0) 116)) w.heap.size 116 (Bq PW.m B0 0 0):=Ab.new w _ _;unfold Bq PW at HC u I J;have X:=LH u;clear u;have ag:=LH J;clear J;have Z:=LH I;clear I;have HX:=LH hx;clear hx;clear h ac;go_enter Tryz.func80,Tryz.ntmps80;go_wp2_with fail;refine HC.o.mono ?_;rintro e p ⟨rfl,G⟩;have s:=ag.o.a8 G;have u:=X.o.below G X.o.lt;have ai:=LH (Z.o.trans (G.mono Z.o.size));clear HC ag X Z G;unfold Nd.msg cm0 Dr;have y:=s.a8 ((S2 p.heap.size p).alloc (L1 _) (.cells #[.int .i64 3,.int .i64 d.id,.int .i64 (d.a4 1),.int .i64 d.ab,.int .i64 k,.int .i64 0,.int .i64 0,.int .i64 0,.slice B0 0 0] 116));obtain⟨A,c,rfl⟩:=s.c4;obtain⟨gl,ol,x',rfl,av,U,l0,l1,l2,l3⟩:=rd4 (Rd.au s.row) rfl aj;rw[HX.o] at U;obtain rfl:=Wj U;obtain⟨_,_,_,_,c4,_,kl⟩:=s.cells;clear U;have ak:=LH y;clear y;have HN:=LH s;clear s;have HA:=LH u;clear u;go_upto_region 3 with (fail)
 have i:Ab (p.alloc (.cells #[.int .i64 3,.int .i64 d.id,.int .i64 (d.a4 1),.int .i64 d.ab,.int .i64 k,.int .i64 x.c.ag,.int .i64 x.c.tx,.int .i64 x.c.ae,.slice x.A x.n x.k] 116)) p.heap.size 116 #[.int .i64 3,.int .i64 d.id,.int .i64 (d.a4 1),.int .i64 d.ab,.int .i64 k,.int .i64 x.c.ag,.int .i64 x.c.tx,.int .i64 x.c.ae,.slice x.A x.n x.k]:=Ab.new p _ _;have q:VJ p.heap.size p (p.alloc (.cells #[.int .i64 3,.int .i64 d.id,.int .i64 (d.a4 1),.int .i64 d.ab,.int .i64 k,.int .i64 x.c.ag,.int .i64 x.c.tx,.int .i64 x.c.ae,.slice x.A x.n x.k] 116)):=(S2 _ _).alloc (L1 _) _;have y:=HN.o.a8 q;have ae:=HA.o.below q HA.o.lt;have au:p.heap.size<(p.alloc (.cells #[.int .i64 3,.int .i64 d.id,.int .i64 (d.a4 1),.int .i64 d.ab,.int .i64 k,.int .i64 x.c.ag,.int .i64 x.c.tx,.int .i64 x.c.ae,.slice x.A x.n x.k] 116)).heap.size:=by simp
 have ao:w.heap.size<p.heap.size:=HA.o.lt;have ab:w.heap.size≠p.heap.size:=by omega
 have Y:=LH (ai.o.trans (q.mono ai.o.size));clear q;clear HN HA ak l0 l1 l2 l3 c4;generalize (p.alloc _)=w2 at *;generalize p.heap.size=O at *;have F:=y.own x (O0 HX.o);have ah:=LH (qa6 w.heap.size w2.heap.size x.n x.k x.A x.c.aa w2 F.reads (L1 _) Y.o.size F.2.2 F.none_);have e8:=i.cell 8;simp only[Ft,D0,N2] at e8;have a9:=LH ae;clear ae;have W:=LH i;clear i;clear F y;go_wp2_with fail;refine ah.o.mono ?_;rintro e w3 ⟨R,M,rfl,v,H⟩;clear ah e8;have i:=W.o.below H W.o.lt;have f:=a9.o.below H a9.o.lt;have al:=LH (Y.o.trans (H.mono Y.o.size));clear H W a9;have a0:=f.cell 0;have a1:=f.cell 1;have a2:=f.cell 2;have a3:=f.cell 3;have a4:=f.cell 4;have a5:=f.cell 5;have a6:=f.cell 6;have a7:=f.cell 7;have a8:=f.cell 8;have f0:=f.frozen 0;have f1:=f.frozen 1;have f2:=f.frozen 2;have f3:=f.frozen 3;have f4:=f.frozen 4;have f5:=f.frozen 5;have f6:=f.frozen 6;have f7:=f.frozen 7;have f8:=f.frozen 8;have b0:=i.cell 0;have b1:=i.cell 1;have b2:=i.cell 2;have b3:=i.cell 3;have b4:=i.cell 4;have b5:=i.cell 5;have b6:=i.cell 6;have b7:=i.cell 7;have b8:=i.cell 8;have z8:=i.frozen 8;simp only[Ft,N2,D0] at a0 a1 a2 a3 a4 a5 a6 a7 a8 b0 b1 b2 b3 b4 b5 b6 b7 b8;have ad:=(Fr.ax O w3 8 (.slice R x.n M)).ah f (fun h:w.heap.size=O=>ab h);have am:=LH ad;clear ad;have E:=LH v;clear v;have aq:=i.lt;have ar:=f.lt;have aa:∀ b,(WI R x.n M).ownBlock=Bs b->b≠O/\b≠w.heap.size:=fun b hb=>⟨fun e=>Be E.o i (by decide) (e▸hb),fun e=>Be E.o f (by decide) (e▸hb)⟩
 have af:=LH aa;clear aa;clear i f;have an:¬O=w.heap.size:=fun e=>ab e.symm
 go_wp2_with fail;refine Za (results_cell_row rfl _ _ w.heap.size 116 _ (0,0) _ rfl (Gb (x0:=PW) am.o ⟨⟨3,d.id,d.a4 1,d.ab,k,x.c⟩,R,x.n,M⟩) Tryz.underlying116 rfl FO) rfl ?_;have z:=J7 (w3.setCell ⟨O,8,B0⟩ (.slice R x.n M)) w.heap.size ⟨⟨3,d.id,d.a4 1,d.ab,k,x.c⟩,R,x.n,M⟩;refine⟨R,M,rfl,z.own ((Fr.ax O w3 8 (.slice R x.n M)).own E.o (fun b hb=>(af.o b hb).1)) (fun b hb=>(af.o b hb).2),?_⟩;exact al.o.trans ((((Fr.ax O w3 8 (.slice R x.n M)).below (B:=w.heap.size) (fun b (e:b=O)=>by rw[e];omega) (by omega))).trans (z.below (fun b (e:b=w.heap.size)=>by omega) (by simp[World.setCell];omega)))
end
def By (B:Nat) (ms:List Ms) (V:Hi) (w':B1):Prop:=
 ∃ A k M,V=.slice A ms.length k/\w'.ownsRow B 116 9 V M.length (M.flatMap CD)/\AH M=ms/\∀ x∈M,D5 w' B x/\x.n<=100000
theorem By.nil (B:Nat) (w':B1):By B [] (.slice B0 0 0) w':=⟨B0,0,[],rfl,VY _ _ _ _,rfl,fun _ h=>(nomatch h)⟩
theorem q9k {w':B1} {B n k:Nat} {A:Option Xb} {v:Hi} {m:Ms} (f:w'.ownsRow B 116 9 v 1 (Bq m A n k).toList) (h:w'.ownsRow B 45 3 (.slice A n k) n (m.cmd.aa.flatMap C9)) (q:m.cmd.aa.length=n) (p:n<=100000):By B [m] v w':=by
 obtain⟨s,c,rfl,_,_⟩:=AK f;refine⟨s,c,[⟨m,A,n,k⟩],rfl,by simpa [CD] using f,rfl,fun x i=>?_⟩;rw[VW] at i;subst i;exact⟨⟨h,q⟩,p⟩
theorem By.a8 {w w':B1} {B:Nat} {ms:List Ms} {V:Hi} (h:By B ms V w) (s:VJ w.heap.size w w'):By B ms V w':=by
 obtain⟨A,k,M,e,p,y,u⟩:=h;have v:Fr (fun b=>w.heap.size<=b) w w':=⟨s.os,s.tape,s.output,s.size,fun i _ E=>s.block i (by omega)⟩
 exact⟨A,k,M,e,v.own p (fun b q z=>by have:=(p.lt b q).2;omega),y,fun x f=>⟨⟨v.own (u x f).1.1 (fun b q z=>by have:=((u x f).1.1.lt b q).2;omega),(u x f).1.2⟩,(u x f).2⟩⟩
theorem By.lower {w:B1} {B B':Nat} {ms:List Ms} {V:Hi} (h:By B ms V w) (q:B'<=B):By B' ms V w:=by
 obtain⟨A,k,M,e,i,s,p⟩:=h;exact⟨A,k,M,e,Lw i q,s,fun x f=>⟨⟨Lw (p x f).1.1 q,(p x f).1.2⟩,(p x f).2⟩⟩
section
variable {w w':B1} {base g:Nat} {C V:Hi} {L:List Bt} {d:Nd}
theorem BI.bS (h:BI w base g C V L d) {b:Nat} (f:C.ownBlock=Bs b\/V.ownBlock=Bs b\/∃ x∈L,(WI x.A x.n x.k).ownBlock=Bs b):b≠g:=by
 rintro rfl;rcases f with f|f|⟨x,i,f⟩
 ·exact Be h.bw h.ah (by decide) f
 ·exact Be h.row h.ah (by decide) f
 ·exact Be (h.own x i).1 h.ah (by decide) f
theorem BI.b9 (h:BI w base g C V L d) {k:Int} (s:0<=k) (q:k<=500):BI (w.setCell ⟨g,5,B0⟩ (.int .i64 k)) base g C V L { d with ao:=k }:=by
 have p:=Fr.ax g w 5 (.int .i64 k);refine⟨h.ah.aC 5 _,p.own h.bw (fun b f e=>h.bS (.inl f) e),p.own h.row (fun b f e=>h.bS (.inr (.inl f)) e),fun x i=>⟨p.own (h.own x i).1 (fun b f e=>h.bS (.inr (.inr ⟨x,i,f⟩)) e),(h.own x i).2⟩,h.log,h.len,h.bf,h.at0,h.bQ,s,q,h.lo⟩
def CZ (base g:Nat) (C V:Hi) (L:List Bt) (d:Nd) (w:B1) (e:WA) (w':B1):Prop:=
 ∃ f,e=.returned f/\By w.heap.size d.tick.2 f w'/\BI w' base g C V L d.tick.1/\Fr (fun b=>b=g) w w'
theorem CZ.of {d1:Nd} {ms:List Ms} {f:Hi} (h:d.tick=(d1,ms)) (i:By w.heap.size ms f w') (k:BI w' base g C V L d1) (p:Fr (fun b=>b=g) w w'):CZ base g C V L d w (.returned f) w':=by
 unfold CZ;rw[h];exact⟨f,rfl,i,k,p⟩
theorem q89 (h:BI w base g C V L d):VX Tryz.prog 55 #[.pointer (Bs ⟨g,0,B0⟩)] w (CZ base g C V L d w):=by
 by_cases ha:d.at_<0
 ·have f:CZ base g C V L d w (.returned (.slice B0 0 0)) w:=CZ.of (by unfold Nd.tick;rw[if_pos ha]) (By.nil _ _) h (Fr.refl _ _);obtain⟨_,_,_,c3,_,_,kl⟩:=h.cells;have U:=LH f;clear f h;go_enter Tryz.func55,Tryz.ntmps55;go_wp2_with fail;go_ret;exact U.o
 ·cases G:d.tail
  ·
   have q:d.tick=(d,[d.msg 1 1 d.log.length]):=by unfold Nd.tick;rw[if_neg ha,G];rfl
   have a2:d.at_+1<d.nodes.length:=by
    have:=h.bQ;rcases(show d.at_+1<d.nodes.length\/d.at_=(d.nodes.length:Int)-1 by omega) with h1|h1
    ·exact h1
    ·exfalso;unfold Nd.tail at G;rw[decide_eq_true (show d.at_>=0 by omega),YD] at G;rw[h1] at G;simp at G
   obtain⟨_,_,_,c3,_,_,kl⟩:=h.cells;have R:=LH (q8a h);rw[G] at R;have H:=LH h;clear h;go_enter Tryz.func55,Tryz.ntmps55;go_wp2_with fail;refine R.o.mono ?_;rintro e w1 ⟨rfl,y⟩;have p:=H.o.a8 y;obtain⟨A,c,rfl⟩:=p.c4;obtain⟨_,_,_,_,c4,_,X⟩:=p.cells;have Z:=p.len;have E:=p.bz;clear R c3;have HM:=LH (q6r p 1 1 L.length (by omega) a2);have a0:=LH p;clear p;have W:=LH y;clear y;go_wp2_with fail;refine HM.o.mono ?_;rintro e w2 ⟨rfl,O⟩;have s:=a0.o.a8 O;have F:=LH (W.o.trans (O.mono W.o.size));clear HM O a0 W c4;have I:=LH s;clear s;unfold Dr;go_wp2_with (at_builtin;refine stop ?_)
   refine Cn ?_;refine Nf _ _ rfl (.tmp 36) (.tmp 44) 86 rfl w2.heap.size 116 _ 9 88 Tryz.underlying86 q6t rfl (by decide) _ 0 [] #[.int .i64 1,.int .i64 d.id,.int .i64 (d.a4 1),.int .i64 d.ab,.int .i64 L.length,.int .i64 0,.int .i64 0,.int .i64 0,.slice B0 0 0] rfl (VY _ _ _ _) 1 rfl _ rfl rfl (by simp[Wy]) (by unfold VZ;omega) (by omega) (L1 _) ?_;intro v' w3 u z;have v:Fr (fun _=>False) w2 w3:=z.1.mono (fun i hi e=>by cases e);have f:CZ base g (C) (.slice A L.length c) L d w (.returned v') w3:=by
    refine CZ.of q (q9k (A:=B0) (n:=0) (k:=0) (m:=d.msg 1 1 d.log.length) ?_ (VY _ _ _ _) rfl (by omega)) (I.o.a8 v.aU) ((Below.fr F.o _).trans (v.mono (fun _ _ h=>h.elim)));rw[E];exact Lw u F.o.size
   have U:=LH f;clear f u z v;go_wp2_with fail;go_ret;exact U.o
  ·
   obtain⟨_,_,_,c3,_,_,kl⟩:=h.cells;have R:=LH (q8a h);rw[G] at R;have H:=LH h;clear h;go_enter Tryz.func55,Tryz.ntmps55;go_wp2_with fail;refine R.o.mono ?_;rintro e w1 ⟨rfl,y⟩;have p:=H.o.a8 y;obtain⟨A,c,rfl⟩:=p.c4;obtain⟨_,_,_,a3,c4,c5,X⟩:=p.cells;have f5:=p.ah.frozen 5;have Z:=p.len;have E:=p.bz;have s:=p.b9 (k:=L.length) (by omega) (by omega);have F:=LH ((Below.fr y (fun b=>b=g)).trans (Fr.ax g w1 5 (.int .i64 L.length)));clear R c3 p H y;by_cases J:d.at_ > 0
   ·have q:d.tick=({ d with ao:=d.log.length },[d.msg 4 (-1) d.log.length]):=by unfold Nd.tick;rw[if_neg (by omega),G,if_pos rfl,if_pos J]
    have HM:=LH (q6r s 4 (-1) L.length (show 0<=d.at_ + -1 by omega) (show d.at_ + -1<d.nodes.length by have:=s.bQ;simp only at this;omega));have d5:=s.cells.2.2.2.2.2.1;have a5:=s.cells.2.2.2.2.2.2;have I:=LH s;clear s;go_wp2_with fail;clear a3 c4 c5 f5 X;generalize (w1.setCell _ _)=w2 at *;refine HM.o.mono ?_;rintro e w3 ⟨rfl,M⟩;have Y:=I.o.a8 M;have a1:=LH (F.o.trans (Below.fr M _));clear HM M I;have a4:=LH Y;clear Y;unfold Dr;go_wp2_with (at_builtin;refine stop ?_)
    refine Cn ?_;refine Nf _ _ rfl (.tmp 17) (.tmp 24) 86 rfl w3.heap.size 116 _ 9 88 Tryz.underlying86 q6t rfl (by decide) _ 0 [] #[.int .i64 4,.int .i64 d.id,.int .i64 (d.a4 (-1)),.int .i64 d.ab,.int .i64 L.length,.int .i64 0,.int .i64 0,.int .i64 0,.slice B0 0 0] rfl (VY _ _ _ _) 1 rfl _ rfl rfl (by simp[Wy]) (by unfold VZ;omega) (by omega) (L1 _) ?_;intro v' w4 u z;have v:Fr (fun _=>False) w3 w4:=z.1.mono (fun i hi e=>by cases e);have f:CZ base g (C) (.slice A L.length c) L d w (.returned v') w4:=by
     refine CZ.of q (q9k (A:=B0) (n:=0) (k:=0) (m:=d.msg 4 (-1) d.log.length) ?_ (VY _ _ _ _) rfl (by omega)) ?_ (a1.o.trans (v.mono (fun _ _ h=>h.elim)))
     ·rw[E];exact Lw u a1.o.size
     ·rw[E];exact a4.o.a8 v.aU
    have U:=LH f;clear f u z v;go_wp2_with fail;go_ret;exact U.o
   ·have q:d.tick=({ d with ao:=d.log.length },[]):=by unfold Nd.tick;rw[if_neg (by omega),G,if_pos rfl,if_neg J]
    have f:CZ base g C (.slice A L.length c) L d w (.returned (.slice B0 0 0)) (w1.setCell ⟨g,5,B0⟩ (.int .i64 L.length)):=CZ.of q (By.nil _ _) (by rw[E];exact s) F.o;have U:=LH f;clear f s;go_wp2_with fail;go_ret;exact U.o
end
theorem Gg:(Tryz.prog.info? 69).map (fun i=>(i.zero,i.size,i.bytes))=Bs (Bs (.agg #[.int .i64 0,.int .i64 0,.int .i64 0,.slice B0 0 0]),4,48):=by kernel_rfl
theorem Pj:(Tryz.prog.info? 3).map (fun i=>(i.zero,i.size,i.bytes))=Bs (Bs (.int .i64 0),1,8):=by kernel_rfl
theorem Vh (l:List Bt):∀ u∈l.flatMap DX,u.oneCell'=T2:=fun u h=>by
 obtain⟨p,_,f⟩:=List.mem_flatMap.1 h;unfold DX at f;simp only[XZ,XS,or_false] at f;rcases f with rfl|rfl|rfl|rfl <;> rfl
theorem R4 (l:List Int):∀ u∈l.map (Wi .i64),u.oneCell'=T2:=fun u f=>by
 obtain⟨p,_,rfl⟩:=List.mem_map.1 f;rfl
def Ig (base:Nat) (n:Nat) (l:List Bt) (w:B1) (e:WA) (w':B1):Prop:=
 ∃ A k,e=.returned (.slice A n k)/\w'.ownsRow base 69 4 (.slice A n k) n (l.flatMap DX)/\VJ w.heap.size w w'/\(∀ b,V4 (.slice A n k)=Bs b->w.heap.size<=b)
theorem MI (base n:Nat) (V:Hi) (l:List Bt) (w:B1) (h:w.ownsRow base 69 4 V n (l.flatMap DX)) (i:base<=w.heap.size) (I:n<=100000) :
  VX Tryz.prog 76 #[V] w (Ig base n l w):=by
 rcases h.2 with ⟨rfl,s⟩|⟨g,cap,G,rfl,_⟩
 ·subst s;have p:Ig base 0 l w (.returned (.slice B0 0 0)) w:=⟨B0,0,rfl,h,S2 _ _,fun b i=>by simp[V4] at i⟩
  have y:=LH p;clear p h;have k:=XR w 66 _ B0 0 0 0 0 Tryz.underlying66;go_enter Tryz.func76,Tryz.ntmps76;go_wp2_with fail;go_ret;exact y.o
 ·have H:=LH h;clear h;have k:=XR w 66 _ (Bs ⟨g,0,B0⟩) n cap 0 0 Tryz.underlying66;go_enter Tryz.func76,Tryz.ntmps76;go_wp2_with (at_builtin;refine stop ?_)
  refine Cn ?_;have hs:VJ w.heap.size w (w.alloc (.cells #[] 69)):=(S2 _ _).alloc (L1 _) _;have q:=(Rd.au H.o).below hs;refine q1e _ rfl (.tmp 5) (.tmp 6) 66 rfl base 69 _ 4 48 Tryz.underlying66 Gg rfl (by decide) _ 0 [] rfl (q9i w base _ _ i) w.heap.size _ n cap (l.flatMap DX) rfl q.reads (Vh l) (by unfold VZ;omega) (by omega) (by simp;omega) ?_;intro v' w' f u;rw[Wg,WL] at f;obtain⟨z,c,rfl,_,_⟩:=AK f;have p:Ig base n l w (.returned (.slice z n c)) w':=⟨z,c,rfl,f,hs.trans (u.below (fun g E=>by have e:Bs w.heap.size=Bs g:=E;injection e with e;omega) (by simp)),fun b i=>by
   rcases u.2 with e|⟨J,e,v⟩
   ·have F:V4 (.slice z n c)=Bs w.heap.size:=e;rw[F] at i;injection i with i;omega
   ·rw[e] at i;injection i with i;simp at v;omega⟩
  have y:=LH p;clear p f u hs;go_wp2_with fail;go_ret;exact y.o
def If (base:Nat) (n:Nat) (l:List Int) (w:B1) (e:WA) (w':B1):Prop:=
 ∃ A k,e=.returned (.slice A n k)/\w'.ownsRow base 3 1 (.slice A n k) n (l.map (Wi .i64))/\VJ w.heap.size w w'/\(∀ b,V4 (.slice A n k)=Bs b->w.heap.size<=b)
theorem MH (base n:Nat) (V:Hi) (l:List Int) (w:B1) (h:w.ownsRow base 3 1 V n (l.map (Wi .i64))) (i:base<=w.heap.size) (I:n<=100000) :
  VX Tryz.prog 105 #[V] w (If base n l w):=by
 rcases h.2 with ⟨rfl,s⟩|⟨g,cap,G,rfl,_⟩
 ·subst s;have p:If base 0 l w (.returned (.slice B0 0 0)) w:=⟨B0,0,rfl,h,S2 _ _,fun b i=>by simp[V4] at i⟩
  have y:=LH p;clear p h;have k:=XR w 26 _ B0 0 0 0 0 Tryz.underlying26;go_enter Tryz.func105,Tryz.ntmps105;go_wp2_with fail;go_ret;exact y.o
 ·have H:=LH h;clear h;have k:=XR w 26 _ (Bs ⟨g,0,B0⟩) n cap 0 0 Tryz.underlying26;go_enter Tryz.func105,Tryz.ntmps105;go_wp2_with (at_builtin;refine stop ?_)
  refine Cn ?_;have hs:VJ w.heap.size w (w.alloc (.cells #[] 3)):=(S2 _ _).alloc (L1 _) _;have q:=(Rd.au H.o).below hs;refine q1e _ rfl (.tmp 5) (.tmp 6) 26 rfl base 3 _ 1 8 Tryz.underlying26 Pj rfl (by decide) _ 0 [] rfl (q9i w base _ _ i) w.heap.size _ n cap (l.map (Wi .i64)) rfl q.reads (R4 l) (by unfold VZ;omega) (by omega) (by simp;omega) ?_;intro v' w' f u;rw[Wg,WL] at f;obtain⟨z,c,rfl,_,_⟩:=AK f;have p:If base n l w (.returned (.slice z n c)) w':=⟨z,c,rfl,f,hs.trans (u.below (fun g E=>by have e:Bs w.heap.size=Bs g:=E;injection e with e;omega) (by simp)),fun b i=>by
   rcases u.2 with e|⟨J,e,v⟩
   ·have F:V4 (.slice z n c)=Bs w.heap.size:=e;rw[F] at i;injection i with i;omega
   ·rw[e] at i;injection i with i;simp at v;omega⟩
  have y:=LH p;clear p f u hs;go_wp2_with fail;go_ret;exact y.o
section
variable {w w':B1} {base g:Nat} {C V:Hi} {L:List Bt} {d:Nd}
def LogP (base:Nat) (L:List Bt) (w:B1) (e:WA) (w':B1):Prop:=∃ A k,e=.returned (.slice A L.length k)/\w'.ownsRow base 69 4 (.slice A L.length k) L.length (L.flatMap DX)/\VJ w.heap.size w w'/\(∀ b,V4 (.slice A L.length k)=Bs b->w.heap.size<=b)
theorem q9o (h:BI w base g C V L d):VX Tryz.prog 46 #[.pointer (Bs ⟨g,0,B0⟩)] w (LogP base L w):=by
 obtain⟨_,_,_,_,z,_,y⟩:=h.cells;have u:=h.lo;have q:=LH (MI base L.length V L w h.row (by omega) (by have:=h.len;omega));clear h;go_enter Tryz.func46,Tryz.ntmps46;go_wp2_with fail;refine q.o.mono ?_;rintro e s ⟨A,k,rfl,p,i,f⟩;have v:=LH (show LogP base L w (.returned (.slice A L.length k)) s from⟨A,k,rfl,p,i,f⟩);clear q p i f;go_wp2_with fail;go_ret;exact v.o
end
section
variable {w w' w3 w4:B1} {base g:Nat} {C V V2:Hi} {L:List Bt} {d:Nd}
theorem BI.push (h:BI w base g C V L d) (F:Fr (fun k=>w.heap.size<=k) w w3) {x:Bt} (M:EJ w3 w.heap.size x) (G:Aq w3 w4 V.ownBlock V2.ownBlock)
  (z:w4.ownsRow base 69 4 V2 (L.length+1) (L.flatMap DX++DX x)) (R:L.length<500) :
  BI (w4.setCell ⟨g,4,B0⟩ V2) base g C V2 (L++[x]) (d.push x.c)/\Fr (CJ g C V L) w (w4.setCell ⟨g,4,B0⟩ V2)/\(∀ b,CJ g C V2 (L++[x]) b->CJ g C V L b\/w.heap.size<=b):=by
 have E:base<=w.heap.size:=by have:=h.lo;have:=h.ah.lt;omega
 have u:=h.fr F (fun b f O=>by have:=(h.av f).2;omega);have J:¬Bs g=V.ownBlock:=fun e=>Be u.row u.ah (by decide) e.symm
 have v:=G.1.ah u.ah J;have q:=Fr.ax g w4 4 V2;have U:∀ b,(WI x.A x.n x.k).ownBlock=Bs b->w.heap.size<=b/\b<w3.heap.size:=fun b f=>M.1.lt b f
 have s:∀ y:Bt,EJ w3 base y->EJ (w4.setCell ⟨g,4,B0⟩ V2) base y:=fun y p=>
  ⟨q.own (G.1.own p.1 (fun b f e=>E0 p.1 u.row (by decide) f e.symm)) (fun b f (e:b=g)=>Be (G.1.own p.1 (fun b f e=>E0 p.1 u.row (by decide) f e.symm)) v (by decide) (e▸f)),p.2⟩
 refine⟨⟨?_,?_,?_,?_,?_,?_,h.bf,h.at0,h.bQ,h.st0,h.st1,h.lo⟩,?_,?_⟩
 ·have:=v.aC 4 V2;unfold Nd.push;simpa using this
 ·have H:=G.1.own u.bw (fun b f e=>E0 u.bw u.row (by decide) f e.symm);exact q.own H (fun b f (e:b=g)=>Be H v (by decide) (e▸f))
 ·have H:=q.own z (fun b f (e:b=g)=>Be z v (by decide) (e▸f));rw[VP,Wx];simpa using H
 ·intro y p;rcases List.mem_append.1 p with p|p
  ·exact s y (u.own y p)
  ·rw[VW] at p;subst p;exact s y ⟨Lw M.1 E,M.2⟩
 ·unfold AM Nd.push;rw[List.map_append];simp only;rw[<- h.log];rfl
 ·simp;omega
 ·refine((F.mono (T:=fun b=>CJ g C V L b\/w.heap.size<=b) (fun i I O=>absurd I (by omega))).trans' G.1 (fun i _ e=>.inl (.inr (.inr (.inl e.symm))))).trans' q (fun i _ (e:i=g)=>.inl (.inl e)) |>.mono (fun i I O=>O.elim id (fun u=>absurd I (by omega)))
 ·intro b f;rcases f with f|f|f|⟨y,p,f⟩
  ·exact .inl (.inl f)
  ·exact .inl (.inr (.inl f))
  ·rcases G.2 with e|⟨X,e,W⟩
   ·rw[e] at f;exact .inl (.inr (.inr (.inl f)))
   ·rw[e] at f;injection f with f;exact .inr (by have:=F.size;omega)
  ·rcases List.mem_append.1 p with p|p
   ·exact .inl (.inr (.inr (.inr ⟨y,p,f⟩)))
   ·rw[VW] at p;subst p;exact .inr (U b f).1
def Tc (base g:Nat) (C V:Hi) (L:List Bt) (d:Nd) (c:Cm) (w:B1) (e:WA) (w':B1):Prop:=
 ∃ f V2 x,e=.returned f/\x.c=c/\By w.heap.size (d.grow c).2 f w'/\BI w' base g C V2 (L++[x]) (d.grow c).1/\Fr (CJ g C V L) w w'/\∀ b,CJ g C V2 (L++[x]) b->CJ g C V L b\/w.heap.size<=b
theorem GZ (w:B1) (cs:Array Hi) (T:VQ) (size:Nat) (hs:cs.size=size):(w.alloc (.cells cs T)).ownsRow w.heap.size T size (.slice (Bs ⟨w.heap.size,0,B0⟩) 1 1) 1 cs.toList:=
 ⟨by simp[hs],.inr ⟨w.heap.size,1,cs,rfl,L1 _,by simpa [Ab] using Ab.new w T cs,L1 _,by decide,by simp[hs],VU (by simp[hs])⟩⟩
theorem ON (d:Nd) (c:Cm):(d.push c).tail=d.tail:=rfl
theorem JW (h:BI w base g C V L d) (x:Bt) (hR:FA w w.heap.size x.A x.n x.c.aa) (hk:x.A=B0->x.k=0) (hn:x.n<=100000) (ah:L.length<500) (ha:0<=d.at_) :
  VX Tryz.prog 81 #[.pointer (Bs ⟨g,0,B0⟩),.agg #[.int .i64 x.c.ag,.int .i64 x.c.tx,.int .i64 x.c.ae,.slice x.A x.n x.k]] w (Tc base g C V L d x.c w):=by
 have Y:VJ w.heap.size w (w.alloc (.cells #[.int .i64 x.c.ag,.int .i64 x.c.tx,.int .i64 x.c.ae,.slice x.A x.n x.k] 69)):=(S2 _ _).alloc (L1 _) _;have av:=LH (qa6 w.heap.size w.heap.size x.n x.k x.A x.c.aa (w.alloc (.cells #[.int .i64 x.c.ag,.int .i64 x.c.tx,.int .i64 x.c.ae,.slice x.A x.n x.k] 69)) ⟨hR.1,hR.2.below Y⟩ Y.size Y.size hn hk);have ad:=LH (Ab.new w 69 #[.int .i64 x.c.ag,.int .i64 x.c.tx,.int .i64 x.c.ae,.slice x.A x.n x.k]);have ac:=LH Y;clear Y;have ap:=LH hR.1;clear hR;have H:=LH h;clear h;go_enter Tryz.func81,Tryz.ntmps81;go_wp2_with fail;refine av.o.mono ?_;rintro e w2 ⟨A2,k2,rfl,z,X⟩;have Z:=LH (ad.o.below X ad.o.lt);have aC:=LH (ac.o.trans (X.mono ac.o.size));clear av X ad ac;have z3:=Z.o.frozen 3;have y3:=Z.o.cell 3;have yl:=Z.o.lt;simp only[Ft,D0,N2] at y3;have M:=Fr.ax w.heap.size w2 3 (.slice A2 x.n k2);have O:=M.own z (fun b hb (e:b=w.heap.size)=>Be z Z.o (by decide) (e▸hb));have u:=Z.o.aC 3 (.slice A2 x.n k2);simp only[List.setIfInBounds_toArray,XK,List.set_cons_zero] at u;have a8:Fr (fun k=>w.heap.size<=k) w (w2.setCell ⟨w.heap.size,3,B0⟩ (.slice A2 x.n k2)):=((Below.fr aC.o (fun k=>w.heap.size<=k))).trans (M.mono (fun i _ e=>Nat.le_of_eq e.symm));go_upto_region 2 with (fail)
 clear z3 y3 yl M z;generalize (w2.setCell _ _)=w3 at *;have h3:=H.o.fr a8 (fun b hb h2=>by have:=(H.o.av hb).2;omega);obtain⟨A,cc,rfl⟩:=h3.c4;obtain⟨_,_,_,_,n4,_,kl⟩:=h3.cells;have b0:=u.cell 0;have b1:=u.cell 1;have b2:=u.cell 2;have b3:=u.cell 3;have bl:=u.lt;simp only[Ft,D0,N2] at b0 b1 b2 b3;have hO:EJ w3 w.heap.size ⟨x.c,A2,x.n,k2⟩:=⟨O,ap.o,hn⟩
 have HO:=LH hO;clear hO O;have aE:=LH a8;clear a8;have ar:=LH u;clear u;have aa:=LH h3.row;have af:=h3.lo;have ab:=LH h3;clear h3;refine nW ?_;refine CU (fun w'=>w'.cell? ⟨g,4,B0⟩=Bs (.slice A L.length cc)/\w'.cell? ⟨w.heap.size,0,B0⟩=Bs (.int .i64 x.c.ag)/\w'.cell? ⟨w.heap.size,1,B0⟩=Bs (.int .i64 x.c.tx)/\w'.cell? ⟨w.heap.size,2,B0⟩=Bs (.int .i64 x.c.ae)/\w'.cell? ⟨w.heap.size,3,B0⟩=Bs (.slice A2 x.n k2)) 8 (fun _ _ _ _ _ h=>h) (fun F=>?_);have G:w3.drew.cell? ⟨g,4,B0⟩=Bs (.slice A L.length cc)/\w3.drew.cell? ⟨w.heap.size,0,B0⟩=Bs (.int .i64 x.c.ag)/\w3.drew.cell? ⟨w.heap.size,1,B0⟩=Bs (.int .i64 x.c.tx)/\w3.drew.cell? ⟨w.heap.size,2,B0⟩=Bs (.int .i64 x.c.ae)/\w3.drew.cell? ⟨w.heap.size,3,B0⟩=Bs (.slice A2 x.n k2):=⟨n4,b0,b1,b2,b3⟩
 refine nF 0 F G ?_;refine nF 1 F G ?_;refine nF 2 F G ?_;refine nF 3 F G ?_;refine nB 4 rfl rfl F G (fun w' a4=>by obtain⟨q0,q1,q2,q3,q4⟩:=a4;go_simp;rfl) ?_;refine nB 5 rfl rfl F G (fun w' a4=>by obtain⟨q0,q1,q2,q3,q4⟩:=a4;go_simp;rfl) ?_;have f:∀ o q p,q<w3.heap.size->(w3.alloc o).cell? ⟨q,p,B0⟩=w3.cell? ⟨q,p,B0⟩:=fun o q p hq=>WY w3 o ⟨q,p,B0⟩ hq
 refine nG 6 (fun K J=>?_);go_simp;refine J _ _ (fun _=>⟨(f _ _ _ kl).trans n4,(f _ _ _ bl).trans b0,(f _ _ _ bl).trans b1,(f _ _ _ bl).trans b2,(f _ _ _ bl).trans b3⟩) ?_;clear J K G f;refine nG 7 (fun K J=>?_);refine TE w3.drew w3.heap.size rfl _ (.tmp 13) (.tmp 15) 66 rfl base 69 _ 4 48 Tryz.underlying66 Gg rfl (by decide) _ _ _ #[.int .i64 x.c.ag,.int .i64 x.c.tx,.int .i64 x.c.ae,.slice A2 x.n k2] rfl aa.o 1 rfl _ rfl rfl (by simp[Wy]) (by unfold VZ;omega) (by omega) (by show base<=w3.heap.size;omega) ?_;intro V2 w4 y E;obtain⟨A4,c4,rfl,_,_⟩:=AK y;have I:Aq w3 w4 (V4 (.slice A L.length cc)) (V4 (.slice A4 (L.length+1) c4)):=⟨⟨E.1.os,E.1.tape,E.1.output,E.1.size,E.1.block⟩,E.2⟩
 obtain⟨al,am,a3⟩:=BI.push H.o aE.o HO.o I y ah;have ai:¬Bs g=V4 (.slice A L.length cc):=fun e=>Be aa.o ab.o.ah (by decide) e.symm
 have ae:¬Bs w.heap.size=V4 (.slice A L.length cc):=fun e=>by have:=(H.o.row.lt w.heap.size e.symm).2;omega
 have a0:=I.1.ah ab.o.ah ai;have U:=I.1.ah ar.o ae;have y0:=a0.cell 4;have y1:=a0.frozen 4;have yl:=a0.lt;simp only[Ft,D0,N2] at y0;have an:=Wm y0 (Wm (U.cell 0) (Wm (U.cell 1) (Wm (U.cell 2) (U.cell 3))));have aw:=LH an;clear an;have aq:=LH al;clear al;have au:=LH am;clear am;have ao:=LH a3;clear a3 y E I ai ae a0 U;go_simp;refine J _ _ (fun _=>aw.o) ?_;clear J K;refine nG 8 (fun K J=>?_);go_simp;refine J _ _ nZ ?_;clear J K;refine nG 9 (fun K J=>?_);go_simp;refine J _ _ nZ ?_;clear J K;refine nG 10 (fun K J=>?_);go_simp;refine J _ _ nZ ?_;clear J K;refine nX ?_;clear F y0 y1 yl aw ar ab aa n4 b0 b1 b2 b3 bl kl af;generalize (w4.setCell _ _)=w5 at *;have a9:=LH (q8a aq.o);rw[ON] at a9;go_wp2_with fail;refine a9.o.mono ?_;rintro e w6 ⟨rfl,a6⟩;have R:=aq.o.a8 a6;have a2:=LH (au.o.trans (Below.fr a6 _));clear a9 au a6;cases ht:d.tail
 ·have aB:d.at_+1<d.nodes.length:=by
   have:=H.o.bQ;rcases(show d.at_+1<d.nodes.length\/d.at_=(d.nodes.length:Int)-1 by omega) with h1|h1
   ·exact h1
   ·exfalso;unfold Nd.tail at ht;rw[decide_eq_true (show d.at_>=0 by omega),YD,h1] at ht;simp at ht
  have aj:=q9w R L.length ⟨x.c,A2,x.n,k2⟩ (by simp) (show 0<=d.at_ from ha) aB;have ag:d.log.length=L.length:=H.o.bz;obtain⟨_,_,_,_,n4,_,kl⟩:=R.cells;have hW:=LH aj;clear aj;have aD:=LH R;clear R;go_wp2_with fail;refine hW.o.mono ?_;rintro e w7 ⟨A7,k7,rfl,v,a5⟩;have W:d.grow x.c=(d.push x.c,[(d.push x.c).forward L.length]):=by unfold Nd.grow;rw[ht,ag];rfl
  have ak:(d.push x.c).forward L.length=⟨3,d.id,d.a4 1,d.ab,L.length,x.c⟩:=by
   unfold Nd.forward Nd.push;rw[<- ag];simp;rfl
  rw[ak] at v ⊢;unfold Dr;have a1:VJ w7.heap.size w7 (w7.alloc (.cells (Bq ⟨3,d.id,d.a4 1,d.ab,L.length,x.c⟩ A7 x.n k7) 116)):=(S2 _ _).alloc (L1 _) _;have a7:=a2.o.trans (Below.fr a5 (CJ g C (.slice A L.length cc) L));have s:Tc base g C (.slice A L.length cc) L d x.c w (.returned (.slice (Bs ⟨w7.heap.size,0,B0⟩) 1 1)) (w7.alloc (.cells (Bq ⟨3,d.id,d.a4 1,d.ab,L.length,x.c⟩ A7 x.n k7) 116)):=by
   refine⟨_,_,⟨x.c,A2,x.n,k2⟩,rfl,rfl,?_,?_,a7.trans (Below.fr a1 _),ao.o⟩
   ·rw[W,ak];refine q9k (A:=A7) (n:=x.n) (k:=k7) (Lw (GZ w7 _ _ 9 rfl) a7.size) ?_ ap.o hn;have ax:=(Below.fr a1 (fun _=>False)).own v (fun _ _ h=>h);exact Lw ax a2.o.size
   ·rw[W];exact(aD.o.a8 a5).a8 a1
  unfold Bq at s;have HF:=LH s;clear s n4 v a5 a1 a7;go_wp2_with fail;go_ret;exact HF.o
 ·have HK:=LH (q89 R);go_wp2_with fail;refine HK.o.mono ?_;rintro e w7 ⟨V1,rfl,ay,az,aA⟩;have W:d.grow x.c=(d.push x.c).tick:=by unfold Nd.grow;rw[ht,if_pos rfl]
  have s:Tc base g C (.slice A L.length cc) L d x.c w (.returned V1) w7:=⟨V1,_,⟨x.c,A2,x.n,k2⟩,rfl,rfl,by rw[W];exact ay.lower a2.o.size,by rw[W];exact az,a2.o.trans (aA.mono (fun _ _ e=>.inl e)),ao.o⟩
  have HF:=LH s;clear s;go_wp2_with fail;go_ret;exact HF.o
end
section
variable {P:WQ} {ops:Array Xw} {Q:Yn->Act->B1->Prop} {md:XE} {N:Nat} {C:B1->Prop}
theorem ntwo (i j:Nat) {s q:Xw} {fuel:Nat} {f:Array Bool} {a:Act} {w:B1} (E:Wn md ops f=[i,j]) (H:ops[i]? = Bs s) (G:ops[j]? = Bs q)
  (v:Wo s (Xp ops a.tmps)=T2) (u:Wo q (Xp ops a.tmps)=T2)
  (J:∀ h:Act->B1->Prop,(∀ a w,(i<N->C w)->B5 P md ops Q N C fuel (f.setIfInBounds i T2) a w->h a w)->Ye P s a w h Q)
  (I:∀ h:Act->B1->Prop,(∀ a w,(j<N->C w)->B5 P md ops Q N C fuel (f.setIfInBounds j T2) a w->h a w)->Ye P q a w h Q):B5 P md ops Q N C (fuel+1) f a w:=
 ⟨(fun F=>by rw[E] at F;cases F),fun k p=>by
  rw[E] at p;rcases List.mem_cons.1 p with rfl|p
  ·exact wpOp_step H (fun h z=>by rw[if_pos v];exact J h (fun a w hs y=>z a w ⟨hs,y⟩))
  ·obtain rfl:k=j:=by simpa using p
   exact wpOp_step G (fun h z=>by rw[if_pos u];exact I h (fun a w hs y=>z a w ⟨hs,y⟩))⟩
end
def Hm (k:Int):Hi:=if k=0 then .nilIface else .iface 79 (.int .i64 k)
section
variable {w w':B1} {base g:Nat} {C V:Hi} {L:List Bt} {d:Nd}
def ES (base g:Nat) (C V:Hi) (L:List Bt) (d:Nd) (c:Cm) (w:B1) (e:WA) (w':B1):Prop:=
 ∃ f V2 h b,e=.returned (.tuple #[.int .i64 (d.add c b).2.1,f,Hm (d.add c b).2.2])/\By w.heap.size (d.add c b).1.2 f w'/\BI w' base g C V2 h (d.add c b).1.1/\Fr (CJ g C V L) w w'/\∀ q,CJ g C V2 h q->CJ g C V L q\/w.heap.size<=q
theorem ES.of {c:Cm} {b:Bool} {nd:Nd} {ms:List Ms} {k p:Int} {h V2:Hi} {i:List Bt} (f:d.add c b=((nd,ms),k,p)) (u:By w.heap.size ms h w') (v:BI w' base g C V2 i nd) (y:Fr (CJ g C V L) w w') (s:∀ q,CJ g C V2 i q->CJ g C V L q\/w.heap.size<=q) :
  ES base g C V L d c w (.returned (.tuple #[.int .i64 k,h,Hm p])) w':=⟨h,V2,i,b,by rw[f],by rw[f];exact u,by rw[f];exact v,y,s⟩
theorem Vp (h:BI w base g C V L d) (x:Bt) (hR:FA w w.heap.size x.A x.n x.c.aa) (hk:x.A=B0->x.k=0) (hn:x.n<=100000) :
  VX Tryz.prog 120 #[.pointer (Bs ⟨g,0,B0⟩),.agg #[.int .i64 x.c.ag,.int .i64 x.c.tx,.int .i64 x.c.ae,.slice x.A x.n x.k]] w (ES base g C V L d x.c w):=by
 have H:VJ w.heap.size w (w.alloc (.cells #[.int .i64 x.c.ag,.int .i64 x.c.tx,.int .i64 x.c.ae,.slice x.A x.n x.k] 69)):=(S2 _ _).alloc (L1 _) _;have Y:=h.a8 H;have W:=h.bz;have a7:=h.len;have Z:=LH (qcf Y);obtain⟨A,c,rfl⟩:=Y.c4;obtain⟨_,_,_,_,n4,_,kl⟩:=Y.cells;have X:Ab (w.alloc (.cells #[.int .i64 x.c.ag,.int .i64 x.c.tx,.int .i64 x.c.ae,.slice x.A x.n x.k] 69)) w.heap.size 69 #[.int .i64 x.c.ag,.int .i64 x.c.tx,.int .i64 x.c.ae,.slice x.A x.n x.k]:=Ab.new w _ _;have y:=LH X;clear X;have a5:=LH (show FA (w.alloc (.cells #[.int .i64 x.c.ag,.int .i64 x.c.tx,.int .i64 x.c.ae,.slice x.A x.n x.k] 69)).drew (w.alloc (.cells #[.int .i64 x.c.ag,.int .i64 x.c.tx,.int .i64 x.c.ae,.slice x.A x.n x.k] 69)).drew.heap.size x.A x.n x.c.aa from(⟨hR.1,(hR.2.below H).more H.size⟩:FA _ _ _ _ _));clear hR;have J:=LH H;clear H;have R:=LH Y;clear Y;have a0:=LH (fun q (I:CJ g C (.slice A L.length c) L q)=>h.av I);clear h;cases O:d.head
 ·rw[O] at Z;have f:ES base g C (.slice A L.length c) L d x.c w (.returned (.tuple #[.int .i64 0,.slice B0 0 0,Hm 6])) (w.alloc (.cells #[.int .i64 x.c.ag,.int .i64 x.c.tx,.int .i64 x.c.ae,.slice x.A x.n x.k] 69)):=
   ES.of (b:=Jx) (by unfold Nd.add;rw[O];rfl) (By.nil _ _) R.o (Below.fr J.o _) (fun q h=>.inl h)
  have U:=LH f;clear f;go_enter Tryz.func120,Tryz.ntmps120;go_wp2_with fail;refine Z.o.mono ?_;rintro e F ⟨rfl,rfl⟩;go_wp2_with fail;go_ret3;exact U.o
 ·rw[O] at Z;have a8:d.at_=0:=by unfold Nd.head at O;simpa using O
  by_cases h5:L.length=500
  ·have f:ES base g C (.slice A L.length c) L d x.c w (.returned (.tuple #[.int .i64 0,.slice B0 0 0,Hm 4])) (w.alloc (.cells #[.int .i64 x.c.ag,.int .i64 x.c.tx,.int .i64 x.c.ae,.slice x.A x.n x.k] 69)):=
    ES.of (b:=Jx) (by unfold Nd.add;rw[O,W,h5];rfl) (By.nil _ _) R.o (Below.fr J.o _) (fun q h=>.inl h)
   have U:=LH f;clear f;have a4:(L.length:Int)=500:=by omega
   generalize L.length=n at *;subst h5;go_enter Tryz.func120,Tryz.ntmps120;go_wp2_with fail;refine Z.o.mono ?_;rintro e F ⟨rfl,rfl⟩;go_wp2_with fail;go_ret3;exact U.o
  have a4:¬(L.length:Int)=500:=by omega
  have M:∀ b,d.add x.c b=(d.grow x.c,if b then(L.length:Int)+1 else L.length,0):=fun b=>by unfold Nd.add;rw[O,W];simp[h5]
  have a1:=LH M;clear M;have HG:=LH (JW (w:=(w.alloc (.cells #[.int .i64 x.c.ag,.int .i64 x.c.tx,.int .i64 x.c.ae,.slice x.A x.n x.k] 69)).drew) (R.o.a8 (S2 _ _).drew) x a5.o hk hn (by omega) (by omega));go_enter Tryz.func120,Tryz.ntmps120;go_wp2_with fail;refine Z.o.mono ?_;rintro e F ⟨rfl,rfl⟩;go_wp2_with fail;have a6:(w.alloc (.cells #[.int .i64 x.c.ag,.int .i64 x.c.tx,.int .i64 x.c.ae,.slice x.A x.n x.k] 69)).heap.size=w.heap.size+1:=by simp
  generalize (w.alloc _)=F at *;have b0:=y.o.cell 0;have b1:=y.o.cell 1;have b2:=y.o.cell 2;have b3:=y.o.cell 3;have bl:=y.o.lt;simp only[Ft,D0,N2] at b0 b1 b2 b3;refine nW ?_;refine CU (fun w'=>w'.cell? ⟨w.heap.size,0,B0⟩=Bs (.int .i64 x.c.ag)/\w'.cell? ⟨w.heap.size,1,B0⟩=Bs (.int .i64 x.c.tx)/\w'.cell? ⟨w.heap.size,2,B0⟩=Bs (.int .i64 x.c.ae)/\w'.cell? ⟨w.heap.size,3,B0⟩=Bs (.slice x.A x.n x.k)) 9 (fun _ _ _ _ _ h=>h) (fun s=>?_);have z:F.drew.cell? ⟨w.heap.size,0,B0⟩=Bs (.int .i64 x.c.ag)/\F.drew.cell? ⟨w.heap.size,1,B0⟩=Bs (.int .i64 x.c.tx)/\F.drew.cell? ⟨w.heap.size,2,B0⟩=Bs (.int .i64 x.c.ae)/\F.drew.cell? ⟨w.heap.size,3,B0⟩=Bs (.slice x.A x.n x.k):=⟨b0,b1,b2,b3⟩
  refine nF 0 s z ?_;refine nF 1 s z ?_;refine nF 2 s z ?_;refine nF 5 s z ?_;refine nB 6 rfl rfl s z (fun w' a3=>by obtain⟨q0,q1,q2,q3⟩:=a3;go_simp;rfl) ?_;refine ntwo 3 7 (by kernel_rfl) rfl rfl (by kernel_rfl) (by kernel_rfl) (fun K i=>?_) (fun K i=>?_)
  ·go_simp;refine i _ _ (fun _=>z) ?_;clear i K;refine nF 4 s z ?_;refine nG 7 (fun K i=>?_);go_simp;refine HG.o.mono ?_;rintro e w7 ⟨V1,V2,x2,rfl,a2,G,u,v,p⟩;have k:=v.ah (show Ab F.drew w.heap.size _ _ from y.o) (fun I=>by have:=(a0.o _ I).2;omega);have f:ES base g C (.slice A L.length c) L d x.c w (.returned (.tuple #[.int .i64 (L.length:Int),V1,Hm 0])) w7:=
    ES.of (b:=Jx) (by rw[a1.o];rfl) (G.lower (by show w.heap.size<=F.heap.size;omega)) u ((Below.fr J.o _).drew.trans v) (fun q I=>(p q I).elim .inl (fun h=>.inr (by have h':F.heap.size<=q:=h;omega)))
   have U:=LH f;clear f G u v p;have E:=Wm (k.cell 0) (Wm (k.cell 1) (Wm (k.cell 2) (k.cell 3)));go_simp;refine i _ _ (fun _=>E) ?_;clear i K;refine nG 8 (fun K i=>?_);go_simp;refine i _ _ (fun _=>E) ?_;clear i K;refine nG 9 (fun K i=>?_);go_simp;refine i _ _ nZ ?_;clear i K;refine nG 10 (fun K i=>?_);go_simp;refine i _ _ nZ ?_;clear i K;refine nX ?_;clear s;go_wp2_with fail;go_ret3;exact U.o
  ·go_simp;refine HG.o.mono ?_;rintro e w7 ⟨V1,V2,x2,rfl,a2,G,u,v,p⟩;have k:=v.ah (show Ab F.drew w.heap.size _ _ from y.o) (fun I=>by have:=(a0.o _ I).2;omega);obtain⟨A7,c7,rfl⟩:=u.c4;obtain⟨_,_,_,_,m4,_,ml⟩:=u.cells;rw[VP] at m4;have f:ES base g C (.slice A L.length c) L d x.c w (.returned (.tuple #[.int .i64 ((L.length:Int)+1),V1,Hm 0])) w7:=
    ES.of (b:=T2) (by rw[a1.o];rfl) (G.lower (by show w.heap.size<=F.heap.size;omega)) u ((Below.fr J.o _).drew.trans v) (fun q I=>(p q I).elim .inl (fun h=>.inr (by have h':F.heap.size<=q:=h;omega)))
   have U:=LH f;clear f G u v p;have E:=Wm (k.cell 0) (Wm (k.cell 1) (Wm (k.cell 2) (k.cell 3)));go_simp;refine i _ _ (fun _=>E) ?_;clear i K;simp only[List.length_cons,List.length_nil,Wg] at m4;refine nG 3 (fun K i=>?_);go_simp;refine i _ _ (fun _=>E) ?_;clear i K;refine nG 4 (fun K i=>?_);go_simp;refine i _ _ (fun _=>E) ?_;clear i K;refine nG 8 (fun K i=>?_);go_simp;refine i _ _ (fun _=>E) ?_;clear i K;refine nG 9 (fun K i=>?_);go_simp;refine i _ _ nZ ?_;clear i K;refine nG 10 (fun K i=>?_);go_simp;refine i _ _ nZ ?_;clear i K;refine nX ?_;clear s;go_wp2_with fail;go_ret3;exact U.o
end
end Go.Proofs.YtccahlhdifadfaaGreatDoor
