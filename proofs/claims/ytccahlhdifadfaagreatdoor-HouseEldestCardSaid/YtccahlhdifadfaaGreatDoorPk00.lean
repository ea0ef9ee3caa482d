import Derived.Shelf.Sort.Plain
import Derived.Shelf.Slices.In.SortNone
import Derived.Test.YtccahlhdifadfaaGreatDoorProg
import Derived.Shelf.SlIter.Nil
import Derived.Shelf.SortM.Plain
import Derived.Shelf.SortM.SortNone
import Derived.Ground.GgzProg
import Derived.Ground.SlgmProg
import Derived.Below
import Derived.Laws.OwnMore
import Derived.Deep.AppendLies
import Derived.Deep.Draws
import Derived.Laws.Rows
import Derived.Maps.AppendAt
import Derived.RegionTactic
import Derived.OwnWalk
import Derived.Lib.Hide
import Derived.Laws.Append
import Derived.Maps.OwnSet
import Derived.Maps.RangeWalk
import Derived.Maps.Ext
import Derived.WalkKit
import Derived.WalkSpells
import Derived.WalkLawsBesides
import Derived.Laws.BytesString
import Derived.Laws.Cells
import Derived.Laws.Concat
import Derived.Laws.Strings
import Derived.Test.YtccahlhdifadfaaGreatDoorRows
import Derived.OrdersHeld
import Derived.BigQuiet
import Derived.Lib.LazyBuf
import Derived.Deep.QuietTactic
import Derived.Lib.SliceRun
import Derived.Lib.AppendZerosOnto
import Derived.Lib.Overlaps
import Derived.Laws.CopyRow
import Derived.Laws.Tables
import Derived.IntWalk
import Derived.Laws.ResultCell
import Derived.Deep.DeepCutAuto
import Derived.StillTailTactics
import Derived.Laws.Cover3
import Derived.Carry
namespace Go.RowKit
theorem Hid.o {p:Prop} (h:Hid p):p:=h
end Go.RowKit
namespace Go.Proofs.YtccahlhdifadfaaGreatDoor
open Go.RowKit
open _root_.And renaming intro → Wm
open _root_.Array renaming getElem?_setIfInBounds_ne → Wi, length_toList → Ws, getElem?_eq_none → WW
open _root_.Bool renaming false → Jx, true → VJ, and_eq_true → Wj, not_eq_true' → XE, not_eq_true → X2, or_eq_true → X8, true_and → YB
open _root_.Classical renaming byContradiction → V5
open _root_.Go renaming World → D0, Value → O0, TypeId → VV, Calls → VY, maxLen → Wo, Ending → WC, Program → Xc, size_zeroCells → Xs, wp_region_still_tail → XI, yielded → XK, Addr → XL, Oper → X7, zeroValue → Yd, undef → Yq, wpList → Yt, run_underlying → Yu, execOp → Yx, Operand → Yy, wpList_plain → YM, sizeOf → YU, DataW → YW, info_parts → Y1, bodyPost_ret → Za, MemPlace → Zc
open _root_.Go.Act renaming put → Xl
open _root_.Go.Addr renaming add_lit → WJ
open _root_.Go.Addr.mk renaming injEq → W1
open _root_.Go.Builtin renaming zeroCells → Wz, append_ → Xu, firstCells → X1, clear_ → YH
open _root_.Go.Fence renaming wide → X0
open _root_.Go.Instr renaming lookup → XQ, slice → Yv
open _root_.Go.IntWalk renaming i64_in → V4
open _root_.Go.Lib renaming run_eql_slice_nil → XV
open _root_.Go.Oper renaming wp → YN
open _root_.Go.Region renaming ready → Wu, wanted → Ww, noSelect → WY, binds → Xv, free → XD, Mode → XJ
open _root_.Go.Result renaming andThen → W9, andThen_ok → Zb
open _root_.Go.RowKit renaming Below → VP, wrap64 → Xn
open _root_.Go.RowKit.Below renaming refl → VK
open _root_.Go.Value renaming ownBlock → Wc, int → Wp, oneCell' → WB, slice → WM
open _root_.Go.Value.slice renaming injEq → YF
open _root_.Go.World renaming ownsRow_nil → VZ, block_lt_of_cell? → Wa, cell?_alloc_lt → WX, setCell_alloc_past → Yn, drew → Yo
open _root_.Int renaming le_refl → WD, toNat_natCast → XO
open _root_.List renaming getElem?_cons_zero → Ft, getElem?_toArray → Hi, getElem?_eq_getElem → L1, getElem?_cons_succ → N2, mem_of_getElem? → S2, mem_cons_self → VH, flatMap_cons → VM, length_append → VS, findIdx?_eq_some_iff_getElem → VU, mem_singleton → VW, take_add_one → VX, take_of_length_le → V0, getElem?_map → V8, eq_nil_of_length_eq_zero → Wd, range' → Wh, getElem?_append_right → Wk, findIdx?_eq_none_iff → Wn, take_append_of_le_length → Wq, length_take → WA, append_nil → WE, flatMap_append → WG, map_cons → WH, length_filter_le → WL, takeWhile_append_dropWhile → WN, range → WS, take_succ_cons → WU, length_drop → W5, drop_succ_cons → Xb, map_append → Xd, drop_drop → Xk, size_toArray → Xo, nil_append → Xt, mem_take_iff_getElem → Xw, append_assoc → XB, mem_append → XG, set_cons_succ → XH, take_zero → XM, map_nil → XN, not_mem_nil → XX, mem_cons → X4, drop_of_length_le → Yb, pairwise_cons → Ye, drop_zero → Ys, mergeSort_perm → YR, getElem_of_mem → YS
open _root_.List.Pairwise renaming filter → X6
open _root_.Nat renaming le_refl → K0, lt_of_lt_of_le → VL, zero_le → VN, le_trans → VO, zero_add → Wx, mul_le_mul_right → WO, lt_or_ge → W7, add_mul → Xa, eq_zero_or_pos → XW, sub_mul → YG
open _root_.Option renaming some → Bs, none → B0
open _root_.Option.some renaming injEq → VR, inj → WR
variable {K:Act->D0->Prop} {f:Array Bool} {Q:Exit->Act->D0->Prop} {tx:Int} {h p xs:List O0} {B e i j k n:Nat} {S:Nat->Prop} {o s:X7} {A:Option XL} {y z:Option Nat} {P:Xc} {q:Prop} {t t':VV} {v v':O0} {c w' w2:D0}
set_option linter.all false
set_option maxRecDepth 100000
set_option maxHeartbeats 16000000
def LH {p : Prop} (h : p) : Go.RowKit.Hid p := Go.Lib.hid h
section
open Go.Shelf
def qao:Go.Shelf.Ren:=⟨fun|189=>92|125=>117|257=>116|128=>139|129=>140|294=>130|295=>131|296=>132|297=>133|298=>134|299=>135|216=>136|300=>137|301=>138|328=>146|329=>147|330=>148|331=>149|332=>150|215=>151|343=>162|n=>n,fun|28=>26|3=>3|46=>85|0=>0|51=>217|53=>219|4=>4|183=>211|182=>210|131=>126|5=>5|9=>9|218=>224|222=>228|228=>237|229=>238|n=>n,fun|n=>n⟩
def qb6:Go.Proofs.Lays.n189 Tryz.prog qao:={
 mixed:=by kernel_rfl
 f125:=Tryz.func117.trans (congrArg Bs (by kernel_rfl))
 f128:=Tryz.func139.trans (congrArg Bs (by kernel_rfl))
 f129:=Tryz.func140.trans (congrArg Bs (by kernel_rfl))
 f189:=Tryz.func92.trans (congrArg Bs (by kernel_rfl))
 f215:=Tryz.func151.trans (congrArg Bs (by kernel_rfl))
 f216:=Tryz.func136.trans (congrArg Bs (by kernel_rfl))
 f257:=Tryz.func116.trans (congrArg Bs (by kernel_rfl))
 f294:=Tryz.func130.trans (congrArg Bs (by kernel_rfl))
 f295:=Tryz.func131.trans (congrArg Bs (by kernel_rfl))
 f296:=Tryz.func132.trans (congrArg Bs (by kernel_rfl))
 f297:=Tryz.func133.trans (congrArg Bs (by kernel_rfl))
 f298:=Tryz.func134.trans (congrArg Bs (by kernel_rfl))
 f299:=Tryz.func135.trans (congrArg Bs (by kernel_rfl))
 f300:=Tryz.func137.trans (congrArg Bs (by kernel_rfl))
 f301:=Tryz.func138.trans (congrArg Bs (by kernel_rfl))
 f328:=Tryz.func146.trans (congrArg Bs (by kernel_rfl))
 f329:=Tryz.func147.trans (congrArg Bs (by kernel_rfl))
 f330:=Tryz.func148.trans (congrArg Bs (by kernel_rfl))
 f331:=Tryz.func149.trans (congrArg Bs (by kernel_rfl))
 f332:=Tryz.func150.trans (congrArg Bs (by kernel_rfl))
 f343:=Tryz.func162.trans (congrArg Bs (by kernel_rfl))
 t0:=Tryz.underlying0
 a0:=Tryz.isAgg0
 z0:=Tryz.sizeOf0
 v0:=Tryz.zeroValue0
 t3:=Tryz.underlying3
 a3:=Tryz.isAgg3
 z3:=Tryz.sizeOf3
 v3:=Tryz.zeroValue3
 t4:=Tryz.underlying4
 a4:=Tryz.isAgg4
 z4:=Tryz.sizeOf4
 v4:=Tryz.zeroValue4
 t5:=Tryz.underlying5
 a5:=Tryz.isAgg5
 z5:=Tryz.sizeOf5
 v5:=Tryz.zeroValue5
 t9:=Tryz.underlying9
 a9:=Tryz.isAgg9
 z9:=Tryz.sizeOf9
 v9:=Tryz.zeroValue9
 t28:=Tryz.underlying26
 a28:=Tryz.isAgg26
 z28:=Tryz.sizeOf26
 v28:=Tryz.zeroValue26
 t46:=Tryz.underlying85
 a46:=Tryz.isAgg85
 z46:=Tryz.sizeOf85
 v46:=Tryz.zeroValue85
 t51:=Tryz.underlying217
 a51:=Tryz.isAgg217
 z51:=Tryz.sizeOf217
 v51:=Tryz.zeroValue217
 t53:=Tryz.underlying219
 a53:=Tryz.isAgg219
 z53:=Tryz.sizeOf219
 v53:=Tryz.zeroValue219
 t131:=Tryz.underlying126
 a131:=Tryz.isAgg126
 z131:=Tryz.sizeOf126
 v131:=Tryz.zeroValue126
 t182:=Tryz.underlying210
 a182:=Tryz.isAgg210
 z182:=Tryz.sizeOf210
 v182:=Tryz.zeroValue210
 t183:=Tryz.underlying211
 a183:=Tryz.isAgg211
 z183:=Tryz.sizeOf211
 v183:=Tryz.zeroValue211
 t218:=Tryz.underlying224
 a218:=Tryz.isAgg224
 z218:=Tryz.sizeOf224
 v218:=Tryz.zeroValue224
 t222:=Tryz.underlying228
 a222:=Tryz.isAgg228
 z222:=Tryz.sizeOf228
 v222:=Tryz.zeroValue228
 t228:=Tryz.underlying237
 a228:=Tryz.isAgg237
 z228:=Tryz.sizeOf237
 v228:=Tryz.zeroValue237
 t229:=Tryz.underlying238
 a229:=Tryz.isAgg238
 z229:=Tryz.sizeOf238
 v229:=Tryz.zeroValue238 }
open Go.Sort Go.RowKit in
def Tl (f off cap:Nat) (h:List Int) (w:D0) (q:Holds (Wp .i64) w f off h.toArray) (i:f<w.heap.size) (k:h.length<4611686018427387904) :
  VY Tryz.prog 92 #[.slice (Bs ⟨f,off,B0⟩) h.length cap] w fun e w'=>
   e=.returned (.tuple #[])/\∃ n p,w'=grow (putRow (Wp .i64) (Sort.ahead w n) f off (h.mergeSort fun x y=>decide (x<=y)).toArray) p:=Any.slices_Sort_int qb6 f off cap h w q i k
open Go.RowKit Go.Sort in
def GM (p:Option XL) (cap:Nat) (w:D0) :
  VY Tryz.prog 92 #[.slice p 0 cap] w fun e w'=>e=.returned (.tuple #[])/\w'=w:=Any.slices_Sort_int_none qb6 p cap w
end
section
open Go.RowKit Go.Maps Go.Sort Go.Shelf
def q7z:Go.Shelf.Ren:=⟨fun|7=>101|10=>123|n=>n,fun|23=>98|26=>9|3=>161|28=>183|0=>0|27=>182|33=>203|4=>4|n=>n,fun|n=>n⟩
def LK:Go.Proofs.SlLaysZ.n7 Tryz.prog q7z:={
 mixed:=by kernel_rfl
 f7:=⟨Tryz.f101.name,by decide,Tryz.func101.trans (congrArg Bs (by kernel_rfl))⟩
 f10:=⟨Tryz.f123.name,by decide,Tryz.func123.trans (congrArg Bs (by kernel_rfl))⟩
 t0:=Tryz.underlying0
 a0:=Tryz.isAgg0
 z0:=Tryz.sizeOf0
 v0:=Tryz.zeroValue0
 t4:=Tryz.underlying4
 a4:=Tryz.isAgg4
 z4:=Tryz.sizeOf4
 v4:=Tryz.zeroValue4
 t23:=Tryz.underlying98
 a23:=Tryz.isAgg98
 z23:=Tryz.sizeOf98
 v23:=Tryz.zeroValue98
 t26:=Tryz.underlying9
 a26:=Tryz.isAgg9
 z26:=Tryz.sizeOf9
 v26:=Tryz.zeroValue9
 t27:=Tryz.underlying182
 a27:=Tryz.isAgg182
 z27:=Tryz.sizeOf182
 v27:=Tryz.zeroValue182
 t28:=Tryz.underlying183
 a28:=Tryz.isAgg183
 z28:=Tryz.sizeOf183
 v28:=Tryz.zeroValue183
 t33:=Tryz.underlying203
 a33:=Tryz.isAgg203
 z33:=Tryz.sizeOf203
 v33:=Tryz.zeroValue203 }
def q8d:Go.Shelf.Ren:=⟨fun|6=>100|8=>121|9=>122|11=>141|13=>117|12=>142|23=>139|24=>140|14=>152|15=>153|16=>154|17=>155|18=>156|19=>157|20=>158|21=>159|22=>160|25=>163|26=>147|27=>148|28=>164|29=>165|30=>166|31=>167|n=>n,fun|26=>9|28=>183|24=>39|0=>0|3=>3|37=>85|48=>217|50=>219|4=>4|40=>211|39=>210|45=>126|5=>5|9=>9|51=>224|55=>228|57=>237|58=>238|33=>203|n=>n,fun|n=>n⟩
def Jz:Go.Proofs.SlLaysZ.n6 Tryz.prog q8d:={
 mixed:=by kernel_rfl
 f6:=⟨Tryz.f100.name,by decide,Tryz.func100.trans (congrArg Bs (by kernel_rfl))⟩
 f8:=⟨Tryz.f121.name,by decide,Tryz.func121.trans (congrArg Bs (by kernel_rfl))⟩
 f11:=⟨Tryz.f141.name,by decide,Tryz.func141.trans (congrArg Bs (by kernel_rfl))⟩
 t0:=Tryz.underlying0
 a0:=Tryz.isAgg0
 z0:=Tryz.sizeOf0
 v0:=Tryz.zeroValue0
 t24:=Tryz.underlying39
 a24:=Tryz.isAgg39
 z24:=Tryz.sizeOf39
 v24:=Tryz.zeroValue39
 t26:=Tryz.underlying9
 a26:=Tryz.isAgg9
 z26:=Tryz.sizeOf9
 v26:=Tryz.zeroValue9
 t28:=Tryz.underlying183
 a28:=Tryz.isAgg183
 z28:=Tryz.sizeOf183
 v28:=Tryz.zeroValue183
 i26:=by kernel_rfl }
def LJ:Go.Shelf.Ren:=⟨fun|6=>122|8=>117|9=>142|19=>139|20=>140|21=>152|22=>153|23=>154|24=>155|25=>156|26=>157|27=>158|28=>159|29=>160|36=>163|31=>147|32=>148|37=>164|38=>165|39=>166|41=>167|n=>n,fun|27=>39|29=>9|3=>3|32=>85|26=>39|0=>0|44=>217|46=>219|4=>4|36=>211|35=>210|41=>126|5=>5|9=>9|53=>224|57=>228|63=>237|64=>238|n=>n,fun|n=>n⟩
def Ru:Go.Proofs.SlLaysM.n6 Tryz.prog LJ:={
 mixed:=by kernel_rfl
 f6:=⟨Tryz.f122.name,by decide,Tryz.func122.trans (congrArg Bs (by kernel_rfl))⟩
 f8:=Tryz.func117.trans (congrArg Bs (by kernel_rfl))
 f9:=⟨Tryz.f142.name,by decide,Tryz.func142.trans (congrArg Bs (by kernel_rfl))⟩
 f19:=Tryz.func139.trans (congrArg Bs (by kernel_rfl))
 f20:=Tryz.func140.trans (congrArg Bs (by kernel_rfl))
 f21:=⟨Tryz.f152.name,by decide,Tryz.func152.trans (congrArg Bs (by kernel_rfl))⟩
 f22:=⟨Tryz.f153.name,by decide,Tryz.func153.trans (congrArg Bs (by kernel_rfl))⟩
 f23:=⟨Tryz.f154.name,by decide,Tryz.func154.trans (congrArg Bs (by kernel_rfl))⟩
 f24:=⟨Tryz.f155.name,by decide,Tryz.func155.trans (congrArg Bs (by kernel_rfl))⟩
 f25:=⟨Tryz.f156.name,by decide,Tryz.func156.trans (congrArg Bs (by kernel_rfl))⟩
 f26:=⟨Tryz.f157.name,by decide,Tryz.func157.trans (congrArg Bs (by kernel_rfl))⟩
 f27:=⟨Tryz.f158.name,by decide,Tryz.func158.trans (congrArg Bs (by kernel_rfl))⟩
 f28:=⟨Tryz.f159.name,by decide,Tryz.func159.trans (congrArg Bs (by kernel_rfl))⟩
 f29:=⟨Tryz.f160.name,by decide,Tryz.func160.trans (congrArg Bs (by kernel_rfl))⟩
 f31:=Tryz.func147.trans (congrArg Bs (by kernel_rfl))
 f32:=Tryz.func148.trans (congrArg Bs (by kernel_rfl))
 f36:=⟨Tryz.f163.name,by decide,Tryz.func163.trans (congrArg Bs (by kernel_rfl))⟩
 f37:=⟨Tryz.f164.name,by decide,Tryz.func164.trans (congrArg Bs (by kernel_rfl))⟩
 f38:=⟨Tryz.f165.name,by decide,Tryz.func165.trans (congrArg Bs (by kernel_rfl))⟩
 f39:=⟨Tryz.f166.name,by decide,Tryz.func166.trans (congrArg Bs (by kernel_rfl))⟩
 f41:=⟨Tryz.f167.name,by decide,Tryz.func167.trans (congrArg Bs (by kernel_rfl))⟩
 t0:=Tryz.underlying0
 a0:=Tryz.isAgg0
 z0:=Tryz.sizeOf0
 v0:=Tryz.zeroValue0
 t3:=Tryz.underlying3
 a3:=Tryz.isAgg3
 z3:=Tryz.sizeOf3
 v3:=Tryz.zeroValue3
 t4:=Tryz.underlying4
 a4:=Tryz.isAgg4
 z4:=Tryz.sizeOf4
 v4:=Tryz.zeroValue4
 t5:=Tryz.underlying5
 a5:=Tryz.isAgg5
 z5:=Tryz.sizeOf5
 v5:=Tryz.zeroValue5
 t9:=Tryz.underlying9
 a9:=Tryz.isAgg9
 z9:=Tryz.sizeOf9
 v9:=Tryz.zeroValue9
 t26:=Tryz.underlying39
 a26:=Tryz.isAgg39
 z26:=Tryz.sizeOf39
 v26:=Tryz.zeroValue39
 t27:=Tryz.underlying39
 a27:=Tryz.isAgg39
 z27:=Tryz.sizeOf39
 v27:=Tryz.zeroValue39
 t29:=Tryz.underlying9
 a29:=Tryz.isAgg9
 z29:=Tryz.sizeOf9
 v29:=Tryz.zeroValue9
 t32:=Tryz.underlying85
 a32:=Tryz.isAgg85
 z32:=Tryz.sizeOf85
 v32:=Tryz.zeroValue85
 t35:=Tryz.underlying210
 a35:=Tryz.isAgg210
 z35:=Tryz.sizeOf210
 v35:=Tryz.zeroValue210
 t36:=Tryz.underlying211
 a36:=Tryz.isAgg211
 z36:=Tryz.sizeOf211
 v36:=Tryz.zeroValue211
 t41:=Tryz.underlying126
 a41:=Tryz.isAgg126
 z41:=Tryz.sizeOf126
 v41:=Tryz.zeroValue126
 t44:=Tryz.underlying217
 a44:=Tryz.isAgg217
 z44:=Tryz.sizeOf217
 v44:=Tryz.zeroValue217
 t46:=Tryz.underlying219
 a46:=Tryz.isAgg219
 z46:=Tryz.sizeOf219
 v46:=Tryz.zeroValue219
 t53:=Tryz.underlying224
 a53:=Tryz.isAgg224
 z53:=Tryz.sizeOf224
 v53:=Tryz.zeroValue224
 t57:=Tryz.underlying228
 a57:=Tryz.isAgg228
 z57:=Tryz.sizeOf228
 v57:=Tryz.zeroValue228
 t63:=Tryz.underlying237
 a63:=Tryz.isAgg237
 z63:=Tryz.sizeOf237
 v63:=Tryz.zeroValue237
 t64:=Tryz.underlying238
 a64:=Tryz.isAgg238
 z64:=Tryz.sizeOf238
 v64:=Tryz.zeroValue238 }
def M4 (m:Nat):AnyZ.SortsIn Tryz.prog q8d X0 m:=
 ⟨fun i off cap ss W k f h=>callsIn_wide.2 (AnyM.slices_Sort_string Ru i off cap ss W k f h),
  fun p cap W=>callsIn_wide.2 (AnyM.slices_Sort_string_none Ru p cap W)⟩
def Rv (f:Option Nat) (W:D0):CallsIn X0 5 Tryz.prog 101 #[.map f] W fun e w'=>e=.returned (.func (.func 123) #[] #[.pointer (Bs ⟨W.heap.size,0,B0⟩)])/\w'=W.alloc (.cells #[.map f] 98):=
 AnyZ.keys_in LK X0 5 trivial rfl f W
def LI {H:Type} (b u:Nat) (k:YW H) (R:O0->Option (YW H×List Zc)) (w:D0) (h:w.ownsMap Tryz.prog 9 R b u k) (q:Maps.size k<=Wo) (f:Maps.size k*16<=140737488355328) :
  CallsIn X0 5 Tryz.prog 100 #[.func (.func 123) #[] #[.pointer (Bs ⟨w.heap.size,0,B0⟩)]] (w.alloc (.cells #[.map (Bs b)] 98)) fun e w'=>∃ (v:O0) (ss:List (List UInt8)),e=.returned v/\ss.Perm (strKeys k)/\
   w'.ownsRow (w.alloc (.cells #[.map (Bs b)] 98)).heap.size 9 1 v ss.length ((ss.mergeSort (fun x y=>decide (x<=y))).map encStr)/\(v=.slice B0 0 0↔ss=[])/\VP (w.alloc (.cells #[.map (Bs b)] 98)).heap.size (w.alloc (.cells #[.map (Bs b)] 98)) w':=by
 have s:=h.lt;have p:SeqGives X0 2 Tryz.prog 123 #[.pointer (Bs ⟨w.heap.size,0,B0⟩)] encStr (fun ss=>ss.Perm (strKeys k)) (Maps.size k) (w.alloc (.cells #[.map (Bs b)] 98)):=
  AnyZ.keys_gives (ρ:=q7z) { LK with } X0 _ trivial rfl (by omega) w.heap.size b u k _ (by simp) (by simp) (by
   obtain⟨F,i,z,G,hs,E⟩:=h;exact⟨F,i,(Below.heap_alloc _ _ b s).trans z,G,hs,E⟩)
 exact AnyZ.sorted_in Jz X0 5 trivial trivial trivial trivial rfl (by omega) (M4 _) (enters_of Tryz.func122 (by kernel_rfl) rfl) 123 #[.pointer (Bs ⟨w.heap.size,0,B0⟩)] trivial (enters_of Tryz.func123 (by kernel_rfl) rfl) _ _ q f _ p
def Jy (w:D0) :
  CallsIn X0 5 Tryz.prog 100 #[.func (.func 123) #[] #[.pointer (Bs ⟨w.heap.size,0,B0⟩)]] (w.alloc (.cells #[.map B0] 98)) fun e w'=>∃ (v:O0) (ss:List (List UInt8)),e=.returned v/\ss=[]/\
   w'.ownsRow (w.alloc (.cells #[.map B0] 98)).heap.size 9 1 v ss.length ((ss.mergeSort (fun x y=>decide (x<=y))).map encStr)/\(v=.slice B0 0 0↔ss=[])/\VP (w.alloc (.cells #[.map B0] 98)).heap.size (w.alloc (.cells #[.map B0] 98)) w':=by
 have f:SeqGives X0 2 Tryz.prog 123 #[.pointer (Bs ⟨w.heap.size,0,B0⟩)] encStr (fun ss:List (List UInt8)=>ss=[]) 0 (w.alloc (.cells #[.map B0] 98)):=
  AnyZ.keys_gives_nil (ρ:=q7z) { LK with } X0 _ trivial rfl w.heap.size _ (by simp) (by simp)
 exact AnyZ.sorted_in Jz X0 5 trivial trivial trivial trivial rfl (by omega) (M4 _) (enters_of Tryz.func122 (by kernel_rfl) rfl) 123 #[.pointer (Bs ⟨w.heap.size,0,B0⟩)] trivial (enters_of Tryz.func123 (by kernel_rfl) rfl) _ 0 (VN _) (by omega) _ f
end
def Hm (a:XL) (n:Nat):(a.add n).block=a.block:=by unfold Addr.add;split <;> rfl
def Mq (a:XL) (i j:Nat):(a.add i).add j=a.add (i+j):=by
 unfold Addr.add;by_cases h:i=0 <;> by_cases f:j=0 <;> simp[h,f,Nat.add_assoc]
def DZ (w:D0) (B size:Nat) (A:Option XL) (n:Nat) (xs:List O0):Prop:=
 xs.length=n*size/\(0<n->∃ f,A=Bs f/\f.block<B/\∀ j u,xs[j]? = Bs u->w.cell? (f.add j)=Bs u)
def Ae (w:D0) (g:Nat) (t:VV) (cs:Array O0):Prop:=w.heap[g]? = Bs (.cells cs t (0,0))
section
variable {w w':D0} {g:Nat} {t:VV} {cs:Array O0}
def Ae.lt (h:Ae w g t cs):g<w.heap.size:=by
 rcases W7 g w.heap.size with f|i
 ·exact f
 ·unfold Ae at h;rw[WW i] at h;cases h
def Ae.cell (h:Ae w g t cs) (i:Nat):w.cell? ⟨g,i,B0⟩=cs[i]?:=cell_of_row w g i cs t (0,0) h
def Ae.frozen (h:Ae w g t cs) (i:Nat):w.frozen? ⟨g,i,B0⟩=Jx:=by
 unfold Ae at h;simp[World.frozen?,h]
def Ae.new (w:D0) (t:VV) (cs:Array O0):Ae (w.alloc (.cells cs t)) w.heap.size t cs:=heap_alloc_new w _
def Ae.alloc (h:Ae w g t cs) (o:Obj):Ae (w.alloc o) g t cs:=(Below.heap_alloc w o g h.lt).trans h
def Ae.aH (h:Ae w g t cs) (i:Nat) (u:O0):Ae (w.setCell ⟨g,i,B0⟩ u) g t (cs.setIfInBounds i u):=by
 unfold Ae at h ⊢;simp[World.setCell,Array.getElem?_modify,h]
def Ae.far (h:Ae w g t cs) {p:XL} (f:g≠p.block) (u:O0):Ae (w.setCell p u) g t cs:=(Below.heap_setCell w p u g f).trans h
def Ae.below (h:Ae w g t cs) (i:VP B w w') (f:g<B):Ae w' g t cs:=(i.block g f).trans h
def Ae.ne_ {p:Nat} {k:Array O0} (h:Ae w g t cs) (f:Ae w p t' k) (i:t≠t'):g≠p:=by
 rintro rfl;unfold Ae at h f;rw[h] at f;injection f with f;injection f with _ ht;exact i ht
def Bh {base:Nat} {e:VV} {size:Nat} (h:w.ownsRow base e size v n xs) (k:Ae w g t cs) (f:e≠t):v.ownBlock≠Bs g:=by
 rcases h.2 with ⟨rfl,_⟩|⟨q,cap,s,rfl,_,i,_⟩
 ·simp[Wc]
 ·intro p;have:q=g:=by simpa [Wc] using p
  subst this;exact Ae.ne_ (t:=e) i k f rfl
end
section
variable {P:Xc} (w:D0)
def q7p (base:Nat) (t q e:VV) (i:TypeInfo) (size:Nat) (k:P.underlying t=Bs (.slice e)) (p:P.info? e=Bs i)
  (v:O0) (n:Nat) (xs:List O0) (f:w.ownsRow base e size v n xs) (c:Nat):(Xu #[t,t] q #[v,.slice B0 0 c]).run P w=.ok v w:=by
 rcases f.2 with ⟨rfl,rfl⟩|⟨g,cap,s,rfl,_,_,h,_⟩
 ·simp[Xu,Yu k,YU,typeInfo,p,Builtin.lenOf,X1]
 ·simp[Xu,Yu k,YU,typeInfo,p,Builtin.lenOf,X1,h,storeCells]
def qap (base:Nat) (t I e:VV) (i:TypeInfo) (z:O0) (size k:Nat) (Y:P.underlying t=Bs (.slice e)) (Z:P.info? e=Bs i) (hz:i.zero=Bs z)
  (y:i.size=size) (R:i.bytes=k) (J:z.cells.size=size) (M:0<size)
  (v:O0) (n:Nat) (xs:List O0) (p:w.ownsRow base e size v n xs)
  (B:Nat) (A:Option XL) (m c:Nat) (f:List O0) (H:DZ w B size A m f) (h1:∀ u∈f,u.oneCell'=VJ)
  (U:n+m<=Wo) (s:(n+m)*k<=140737488355328) (E:base<=w.heap.size) :
  ∃ v' w',(Xu #[t,t] I #[v,.slice A m c]).run P w=.ok v' w'/\w'.ownsRow base e size v' (n+m) (xs++f)/\w.grownBy w' v.ownBlock/\
   (v'.ownBlock=v.ownBlock\/v'.ownBlock=Bs w.heap.size):=by
 rcases A with _|W
 ·have hm:m=0:=by
   rcases XW m with F|F
   ·exact F
   ·obtain⟨W,h,_⟩:=H.2 F;cases h
  subst hm;have O:f=[]:=Wd (by simpa using H.1);subst O;exact⟨v,w,q7p w base t I e i size Y Z v n xs p c,by simpa using p,World.grownBy.refl w _,.inl rfl⟩
 ·have q:∀ j u,f[j]? = Bs u->w.cell? (W.add j)=Bs u:=by
   intro j u X;rcases XW m with F|F
   ·subst F;have O:f=[]:=Wd (by simpa using H.1);subst O;simp at X
   ·obtain⟨a0,h,_,hc⟩:=H.2 F;injection h with h;subst h;exact hc j u X
  obtain⟨v',w',G,h2,h3,_,h5⟩:=run_append_own_at (P:=P) w base t I e i z size k Y Z hz y R J M v n xs p W m c f H.1 q h1 U s E;exact⟨v',w',G,h2,h3,h5⟩
def q6r {a:Act} (s x:Yy) (t:VV)
  (W:o.op=.call { callee:=.builtin .append,args:=#[s,x],argTypes:=#[t,t] })
  (base:Nat) (e:VV) (i:TypeInfo) (z:O0) (size f:Nat) (R:P.underlying t=Bs (.slice e)) (X:P.info? e=Bs i) (M:i.zero=Bs z)
  (q:i.size=size) (I:i.bytes=f) (G:z.cells.size=size) (H:0<size)
  (v:O0) (n:Nat) (xs:List O0) (hs:a.eval s=v) (F:w.ownsRow base e size v n xs)
  (B:Nat) (A:Option XL) (m c:Nat) (k:List O0) (O:a.eval x=.slice A m c) (U:DZ w B size A m k) (h1:∀ u∈k,u.oneCell'=VJ)
  (J:n+m<=Wo) (p:(n+m)*f<=140737488355328) (y:base<=w.heap.size)
  (h:∀ v' w',w'.ownsRow base e size v' (n+m) (xs++k)->w.grownBy w' v.ownBlock->(v'.ownBlock=v.ownBlock\/v'.ownBlock=Bs w.heap.size)->K (a.put o.dst v') w'):o.wp P a w K Q:=by
 obtain⟨v',w',E,h2,Z,Y⟩:=qap (P:=P) w base t o.type e i z size f R X M q I G H v n xs F B A m c k U h1 J p y;unfold YN Yx;simp only[W,resolve,invoke,builtin,Sem.run_bind,Sem.run_pure,Zb,List.map_toArray,WH,XN,hs,O,E];exact h v' w' h2 Z Y
def q7j {ops:Array X7} {rest:List X7} {a:Act} (H:o.guard=B0) (s x:Yy) (t:VV)
  (W:o.op=.call { callee:=.builtin .append,args:=#[s,x],argTypes:=#[t,t] })
  (base:Nat) (e:VV) (i:TypeInfo) (z:O0) (size f:Nat) (R:P.underlying t=Bs (.slice e)) (X:P.info? e=Bs i) (M:i.zero=Bs z)
  (q:i.size=size) (I:i.bytes=f) (F:z.cells.size=size) (G:0<size)
  (v:O0) (n:Nat) (xs:List O0) (hs:a.eval s=v) (E:w.ownsRow base e size v n xs)
  (B:Nat) (A:Option XL) (m c:Nat) (k:List O0) (O:a.eval x=.slice A m c) (U:DZ w B size A m k) (h1:∀ u∈k,u.oneCell'=VJ)
  (J:n+m<=Wo) (p:(n+m)*f<=140737488355328) (y:base<=w.heap.size)
  (h:∀ v' w',w'.ownsRow base e size v' (n+m) (xs++k)->w.grownBy w' v.ownBlock->(v'.ownBlock=v.ownBlock\/v'.ownBlock=Bs w.heap.size)->Yt P ops Q rest (a.put o.dst v') w'):Yt P ops Q (o::rest) a w:=
 YM H fun _ Y=>q6r w s x t W base e i z size f R X M q I F G v n xs hs E B A m c k O U h1 J p y fun v' w' h2 h3 Z=>Y _ _ (h v' w' h2 h3 Z)
end
def Stop (p:Prop):Prop:=p
def stop {p:Prop} (h:Stop p):p:=h
def Df {p:Prop} (h:p):Stop p:=h
structure Fr (S:Nat->Prop) (w w':D0):Prop where
 os:w'.os=w.os
 tape:w'.tape=w.tape
 output:w'.output=w.output
 size:w.heap.size<=w'.heap.size
 block:∀ k,k<w.heap.size->¬S k->w'.heap[k]? = w.heap[k]?
section
variable {S T:Nat->Prop} {a b c w w':D0}
def Fr.refl (S:Nat->Prop) (w:D0):Fr S w w:=⟨rfl,rfl,rfl,K0 _,fun _ _ _=>rfl⟩
def Fr.trans' (h:Fr S a b) (k:Fr T b c) (s:∀ i,i<a.heap.size->T i->S i):Fr S a c:=
 ⟨k.os.trans h.os,k.tape.trans h.tape,k.output.trans h.output,VO h.size k.size,fun i f p=>(k.block i (VL f h.size) (fun q=>p (s i f q))).trans (h.block i f p)⟩
def Fr.trans (h:Fr S a b) (k:Fr S b c):Fr S a c:=h.trans' k fun _ _ x=>x
def Fr.mono (h:Fr S a b) (p:∀ i,i<a.heap.size->S i->T i):Fr T a b:=⟨h.os,h.tape,h.output,h.size,fun i f k=>h.block i f (fun hs=>k (p i f hs))⟩
def Fr.drew (h:Fr S a w):Fr S a w.drew:=⟨h.os,h.tape,h.output,h.size,h.block⟩
def Fr.drewN (h:Fr S a w) (n:Nat):Fr S a (w.drewN n):=⟨h.os,h.tape,h.output,h.size,h.block⟩
def Fr.alloc (h:Fr S a w) (o:Obj):Fr S a (w.alloc o):=h.trans ⟨rfl,rfl,rfl,by simp,fun k f _=>Below.heap_alloc _ _ _ f⟩
def Fr.setCell (h:Fr S a w) {p:XL} (f:S p.block\/a.heap.size<=p.block) (u:O0):Fr S a (w.setCell p u):=
 ⟨h.os,h.tape,h.output,by simpa [World.setCell] using h.size,fun k q i=>(Below.heap_setCell w p u k (by
  rintro rfl;rcases f with f|f
  ·exact i f
  ·omega)).trans (h.block k q i)⟩
def Fr.below (h:Fr S a b) (f:∀ i,S i->B<=i) (q:B<=a.heap.size):VP B a b:=⟨h.os,h.tape,h.output,h.size,fun k p=>h.block k (by omega) (fun hs=>by have:=f k hs;omega)⟩
def Below.fr (h:VP w.heap.size w w') (S:Nat->Prop):Fr S w w':=⟨h.os,h.tape,h.output,h.size,fun k f _=>h.block k f⟩
def Fr.aZ (h:w.grownBy w' y) (i:∀ k,y=Bs k->S k):Fr S w w':=⟨h.os,h.tape,h.output,h.size,fun k q p=>h.block k q (fun e=>p (i k e.symm))⟩
def Fr.bb (h:Fr (fun _=>False) w w'):VP w.heap.size w w':=⟨h.os,h.tape,h.output,h.size,fun k f=>h.block k f (fun x=>x)⟩
def Fr.cell (h:Fr S w w') {p:XL} (f:p.block<w.heap.size) (i:¬S p.block):w'.cell? p=w.cell? p:=World.cell?_of_block (h.block p.block f i)
def Fr.ak {g:Nat} {cs:Array O0} (h:Fr S w w') (f:Ae w g t cs) (i:¬S g):Ae w' g t cs:=(h.block g f.lt i).trans f
def Fr.own {base:Nat} {e:VV} {size n:Nat} {v:O0} {xs:List O0} (h:Fr S w w') (k:w.ownsRow base e size v n xs) (p:∀ g,v.ownBlock=Bs g->¬S g):w'.ownsRow base e size v n xs:=by
 refine⟨k.1,?_⟩;rcases k.2 with q|⟨g,cap,i,rfl,s,f,rest⟩
 ·exact .inl q
 ·exact .inr ⟨g,cap,i,rfl,s,(h.block g (Array.getElem?_eq_some_iff.1 f).1 (p g rfl)).trans f,rest⟩
end
def Fr.a6 (p:Nat) (w:D0) (i:Nat) (u:O0):Fr (fun k=>k=p) w (w.setCell ⟨p,i,B0⟩ u):=(Fr.refl (fun k=>k=p) w).setCell (p:=⟨p,i,B0⟩) (.inl rfl) u
def Rd (w:D0) (B size:Nat) (A:Option XL) (n:Nat) (xs:List O0):Prop:=
 xs.length=n*size/\(0<n->∃ g off,A=Bs ⟨g,off,B0⟩/\g<B/\∀ j u,xs[j]? = Bs u->w.cell? ⟨g,off+j,B0⟩=Bs u)
section
variable {w w':D0} {B size n:Nat} {A:Option XL} {xs:List O0}
def Rd.reads (h:Rd w B size A n xs):DZ w B size A n xs:=⟨h.1,fun p=>by
 obtain⟨g,off,rfl,k,i⟩:=h.2 p;exact⟨_,rfl,k,fun j u f=>by rw[WJ];exact i j u f⟩⟩
def Rd.none_ (w:D0) (B size:Nat) (A:Option XL):Rd w B size A 0 []:=⟨by simp,fun h=>absurd h (by omega)⟩
def Rd.fr (h:Rd w B size A n xs) (q:Fr S w w') (y:B<=w.heap.size) (k:∀ g off,A=Bs ⟨g,off,B0⟩->0<n->¬S g):Rd w' B size A n xs:=
 ⟨h.1,fun f=>by
  obtain⟨g,off,e,v,s⟩:=h.2 f;exact⟨g,off,e,v,fun j u i=>(q.cell (p:=⟨g,off+j,B0⟩) (by show g<_;omega) (k g off e f)).trans (s j u i)⟩⟩
def Rd.more {B':Nat} (h:Rd w B size A n xs) (p:B<=B'):Rd w B' size A n xs:=
 ⟨h.1,fun i=>by
  obtain⟨g,off,e,k,f⟩:=h.2 i;exact⟨g,off,e,by omega,f⟩⟩
def Rd.below (h:Rd w B size A n xs) (q:VP B w w'):Rd w' B size A n xs:=
 ⟨h.1,fun s=>by
  obtain⟨g,off,e,f,k⟩:=h.2 s;exact⟨g,off,e,f,fun j u i=>(q.cell (p:=⟨g,off+j,B0⟩) f).trans (k j u i)⟩⟩
def Rd.ay {base:Nat} {e:VV} {c:Nat} (h:w.ownsRow base e size (.slice A n c) n xs):Rd w w.heap.size size A n xs:=by
 refine⟨h.1,fun p=>?_⟩;obtain⟨g,cap,i,_,f⟩:=h.form p;have q:A=Bs ⟨g,0,B0⟩:=by injection i
 subst q;exact⟨g,0,rfl,f,fun j u k=>by have:=h.cells (g:=g) rfl j u k;rwa [WJ] at this⟩
def Rd.lit (w:D0) (cs:Array O0) (e:VV) (n size:Nat) (hs:cs.size=n*size):Rd (w.alloc (.cells cs e)) (w.heap.size+1) size (Bs ⟨w.heap.size,0,B0⟩) n cs.toList:=
 ⟨by simpa using hs,fun _=>⟨w.heap.size,0,rfl,by omega,fun j u f=>by
  have:=(Ae.new w e cs).cell j;rw[Wx,this];simpa using f⟩⟩
def Rd.ck (h:Rd w B 1 A n xs) (p:k<n):∃ g off u,A=Bs ⟨g,off,B0⟩/\g<B/\xs[k]? = Bs u/\w.cell? ⟨g,off+k,B0⟩=Bs u:=by
 obtain⟨g,off,e,i,f⟩:=h.2 (by omega);have hl:k<xs.length:=by have:=h.1;omega
 exact⟨g,off,xs[k],e,i,L1 hl,f k _ (L1 hl)⟩
end
def Av (w w':D0) (b f:Option Nat):Prop:=Fr (fun k=>Bs k=b) w w'/\(f=b\/∃ g,f=Bs g/\w.heap.size<=g)
def Av.trans {a b:D0} {x:Option Nat} (h:Av a b x y) (k:Av b c y z):Av a c x z:=by
 obtain⟨u,f⟩:=h;obtain⟨v,p⟩:=k;refine⟨u.trans' v (fun i E q=>?_),?_⟩
 ·rcases f with f|⟨g,f,s⟩
  ·rw[f] at q;exact q
  ·rw[f] at q;injection q;omega
 ·rcases p with p|⟨g,p,s⟩
  ·rw[p];exact f
  ·exact .inr ⟨g,p,VO u.size s⟩
def Av.alloc (w:D0) (o:Obj) (b:Option Nat):Av w (w.alloc o) b b:=⟨(Fr.refl _ _).alloc o,.inl rfl⟩
def Av.below {w w':D0} {b q:Option Nat} {B:Nat} (h:Av w w' b q) (k:∀ g,b=Bs g->B<=g) (p:B<=w.heap.size):VP B w w':=h.1.below (fun i f=>k i f.symm) p
def Av.bL {w:D0} (p:w.grownBy w' v.ownBlock) (f:v'.ownBlock=v.ownBlock\/v'.ownBlock=Bs w.heap.size):Av w w' v.ownBlock v'.ownBlock:=by
 refine⟨Fr.aZ p (fun k i=>i.symm),?_⟩;rcases f with h|h
 ·exact .inl h
 ·exact .inr ⟨_,h,K0 _⟩
def PD (w:D0) (X:Obj) {ops:Array X7} {rest:List X7} {a:Act} (M:o.guard=B0) (s x:Yy) (t:VV)
  (ho:o.op=.call { callee:=.builtin .append,args:=#[s,x],argTypes:=#[t,t] })
  (base:Nat) (e:VV) (z:O0) (size f:Nat) (ht:P.underlying t=Bs (.slice e)) (J:(P.info? e).map (fun i=>(i.zero,i.size,i.bytes))=Bs (Bs z,size,f)) (G:z.cells.size=size) (BD:0<size)
  (v:O0) (n:Nat) (xs:List O0) (y:Array O0) (hs:a.eval s=v) (E:w.ownsRow base e size v n xs)
  (c:Nat) (hx:a.eval x=.slice (Bs ⟨w.heap.size,0,B0⟩) 1 c) (Y:VV) (I:X=.cells y Y) (H:y.size=size) (h1:∀ u∈y.toList,u.oneCell'=VJ)
  (W:n+1<=Wo) (k:(n+1)*f<=140737488355328) (R:base<=w.heap.size)
  (h:∀ v' w',w'.ownsRow base e size v' (n+1) (xs++y.toList)->Av w w' v.ownBlock v'.ownBlock->Yt P ops Q rest (a.put o.dst v') w') :
  Yt P ops Q (o::rest) a (w.alloc X):=by
 obtain⟨i,J,Z,p,O⟩:=Y1 J;subst I;refine wpList_append_own_at _ M s x t ho base e i z size f ht J Z p O G BD v n xs hs (E.alloc _) ⟨w.heap.size,0,B0⟩ 1 c y.toList hx (by simp[H]) (fun j u hu=>?_) h1 W k (by simp;omega)
  fun v' w' q hg _ U=>h v' w' q ((Av.alloc w _ _).trans (Av.bL hg U))
 have F:(⟨w.heap.size,0,B0⟩:XL).add j=⟨w.heap.size,j,B0⟩:=by unfold Addr.add;split <;> simp_all
 rw[F,(Ae.new w Y y).cell j];simpa using hu
def q2e (w:D0) {ops:Array X7} {rest:List X7} {a:Act} (I:o.guard=B0) (s x:Yy) (t:VV)
  (Y:o.op=.call { callee:=.builtin .append,args:=#[s,x],argTypes:=#[t,t] })
  (base:Nat) (e:VV) (z:O0) (size f:Nat) (W:P.underlying t=Bs (.slice e)) (H:(P.info? e).map (fun i=>(i.zero,i.size,i.bytes))=Bs (Bs z,size,f)) (G:z.cells.size=size) (BD:0<size)
  (v:O0) (n:Nat) (xs:List O0) (hs:a.eval s=v) (F:w.ownsRow base e size v n xs)
  (B:Nat) (A:Option XL) (m c:Nat) (k:List O0) (U:a.eval x=.slice A m c) (X:DZ w B size A m k) (h1:∀ u∈k,u.oneCell'=VJ)
  (O:n+m<=Wo) (p:(n+m)*f<=140737488355328) (E:base<=w.heap.size)
  (h:∀ v' w',w'.ownsRow base e size v' (n+m) (xs++k)->Av w w' v.ownBlock v'.ownBlock->Yt P ops Q rest (a.put o.dst v') w') :
  Yt P ops Q (o::rest) a w:=by
 obtain⟨i,H,R,q,J⟩:=Y1 H;exact q7j w I s x t Y base e i z size f W H R q J G BD v n xs hs F B A m c k U X h1 O p E
  fun v' w' y Z M=>h v' w' y (Av.bL Z M)
def AR {w:D0} {base size:Nat} (h:w.ownsRow base e size v n xs):∃ A c,v=.slice A n c/\n<=c/\(∀ f,A=Bs f->v.ownBlock=Bs f.block):=by
 rcases h.2 with ⟨rfl,rfl⟩|⟨g,cap,k,rfl,_,_,i,_⟩
 ·exact⟨B0,0,rfl,K0 _,fun f h=>by cases h⟩
 ·exact⟨_,_,rfl,i,fun f h=>by injection h with h;subst h;rfl⟩
section
open Go.RowKit Go.Maps Go.WideMaps
structure CJ (P:Xc) (kt:VV) (κ:Type) where
 law:Keyed P kt
 kl:κ->Lit
 val:κ->O0
 ok:κ->Prop
 mkk:∀ x,ok x->keyOf P kt (val x)=Bs (kl x)
 inv:∀ v l,keyOf P kt v=Bs l->∃ x,ok x/\v=val x/\l=kl x
 inj:∀ x y,kl x=kl y->x=y
def keyI {P:Xc} {kt:VV} (h:P.underlying kt=Bs (.int .i64)):CJ P kt Int where
 law:=int_keyed h
 kl x:=.int .i64 x
 val x:=.int .i64 x
 ok x:=(Lit.int .i64 x).wf=VJ
 mkk x hx:=keyOf_int_mk h hx
 inv v l hv:=by obtain⟨x,k,i,f⟩:=Maps.keyOf_int_inv h hv;exact⟨x,f,k,i⟩
 inj x y e:=by injection e
def keyS {P:Xc} {kt:VV} (h:P.underlying kt=Bs .string):CJ P kt ByteArray where
 law:=string_keyed h
 kl s:=.string s.data.toList
 val s:=.string s
 ok s:=s.size<=Wo
 mkk s hs:=keyOf_string_mk h hs
 inv v l hv:=by
  cases v <;> simp[keyOf,h,mapKey] at hv;rename_i s;exact⟨s,hv.1,rfl,hv.2.symm⟩
 inj s t e:=by
  injection e with e;have:s.data=t.data:=Array.ext' e;cases s;cases t;simp_all
def CN (v:O0):Option (YW O0×List Zc):=Bs (.held v,[])
section
variable {P:Xc} {kt:VV} {κ:Type}
def CJ.key (C:CJ P kt κ) {x:κ} (f:C.ok x):WideAt.IsKeyLit (C.kl x):=C.law.key (C.mkk x f)
def Dk (C:CJ P kt κ) (D:YW O0) (m:κ->Option O0):Prop:=
 ∀ x,C.ok x->Maps.has D (C.kl x)=(m x).isSome/\∀ v,m x=Bs v->∀ z,D.atKey (C.kl x) z=.held v
def Ab (C:CJ P kt κ) (w:D0) (b n:Nat) (m:κ->Option O0):Prop:=∃ D:YW O0,w.ownsMap P kt CN b n D/\Dk C D m
variable {C:CJ P kt κ} {w w':D0} {b n:Nat} {m:κ->Option O0}
def Ab.lt (h:Ab C w b n m):b<w.heap.size:=by obtain⟨D,h,_⟩:=h;exact h.lt
def Ab.mono (h:Ab C w b n m) {n':Nat} (i:n<=n'):Ab C w b n' m:=by obtain⟨D,h,f⟩:=h;exact⟨D,h.mono i,f⟩
def Ab.of_block (h:Ab C w b n m) (e:w'.heap[b]? = w.heap[b]?):Ab C w' b n m:=by
 obtain⟨D,⟨p,f,k,r⟩,i⟩:=h;exact⟨D,⟨p,f,e.trans k,r⟩,i⟩
def Ab.fr (h:Ab C w b n m) (i:Fr S w w') (f:¬S b):Ab C w' b n m:=h.of_block (i.block b h.lt f)
def Ab.below (h:Ab C w b n m) (f:VP B w w') (i:b<B):Ab C w' b n m:=h.of_block (f.block b i)
def Ab.drewN (h:Ab C w b n m) (k:Nat):Ab C (w.drewN k) b n m:=h
def Ab.alloc (h:Ab C w b n m) (o:Obj):Ab C (w.alloc o) b n m:=h.fr (S:=fun _=>False) ((Fr.refl _ _).alloc o) (fun x=>x)
def Ab.aB {g:Nat} {cs:Array O0} (h:Ab C w b n m) (f:Ae w g t cs):b≠g:=by
 rintro rfl;obtain⟨D,⟨k,i,e,_⟩,_⟩:=h;unfold Ae at f;rw[e] at f;cases f
def Ab.aL {base size:Nat} {e:VV} (h:Ab C w b n m) (p:w.ownsRow base e size v k xs):v.ownBlock≠Bs b:=by
 rcases p.2 with ⟨rfl,_⟩|⟨g,cap,s,rfl,_,i,_⟩
 ·simp[Wc]
 ·intro q;have:g=b:=by simpa [Wc] using q
  subst this;obtain⟨D,⟨u,f,e,_⟩,_⟩:=h;rw[e] at i;cases i
def IA (C:CJ P kt κ):Dk C (.map []) (fun _=>B0):=fun s _=>⟨rfl,fun v h=>by cases h⟩
def Ab.made (C:CJ P kt κ) (w:D0):Ab C (w.alloc (.map #[] 0)) w.heap.size 0 (fun _=>B0):=⟨_,World.ownsMap_made w _ _ _,IA C⟩
open Classical in
noncomputable def AU (m:κ->Option O0) (x:κ) (v:Option O0):κ->Option O0:=fun y=>if y=x then v else m y
def q9m (m:κ->Option O0) (x:κ) (v:Option O0):AU m x v x=v:=by unfold AU;rw[if_pos rfl]
def GR {m:κ->Option O0} {x y:κ} (h:y≠x) (v:Option O0):AU m x v y=m y:=by unfold AU;rw[if_neg h]
def Dk.set {D:YW O0} (h:Dk C D m) (p:IsMap D) (x:κ) (v:O0):Dk C (D.put (C.kl x) (.held v)) (AU m x (Bs v)):=fun t k=>by
 by_cases e:t=x
 ·subst e;rw[has_put_same p (C.key k),q9m];refine⟨rfl,fun u f z=>?_⟩;rw[atKey_put_same p (C.key k)];injection f with f;rw[f]
 ·have i:C.kl t≠C.kl x:=fun q=>e (C.inj _ _ q)
  rw[has_put_other i,GR e];refine⟨(h t k).1,fun u f z=>?_⟩;rw[atKey_put_other i];exact(h t k).2 u f z
def Dk.del {D:YW O0} (h:Dk C D m) (x:κ):Dk C (D.del (C.kl x)) (AU m x B0):=fun t k=>by
 by_cases e:t=x
 ·subst e;rw[has_del_same,q9m];exact⟨rfl,fun u i z=>by cases i⟩
 ·have f:C.kl t≠C.kl x:=fun p=>e (C.inj _ _ p)
  rw[has_del_other f,GR e];refine⟨(h t k).1,fun u i z=>?_⟩;rw[atKey_del_other f];exact(h t k).2 u i z
def RF {d:YW O0} {ps:List Zc} (h:CN v=Bs (d,ps)):d=.held v:=by
 unfold CN at h;injection h with h;injection h with h _;exact h.symm
def Ab.look (h:Ab C w b n m) {e:VV} (F:P.underlying t=Bs (.map kt e)) {z:O0} (E:(Yd e).run P w=.ok z w) {x:κ} (q:C.ok x) :
  (XQ t (.map (Bs b)) (C.val x) VJ).run P w=.ok (.tuple #[(m x).getD z,.bool (m x).isSome]) w/\(XQ t (.map (Bs b)) (C.val x) Jx).run P w=.ok ((m x).getD z) w:=by
 obtain⟨D,G,J⟩:=h;obtain⟨I,M⟩:=J x q;have f:∀ (v:O0) (ps:List Zc),CN v=Bs (D.atKey (C.kl x) (.held z),ps)->v=(m x).getD z:=fun v ps u=>by
  have e:=RF u;rcases H:m x with _|y
  ·rw[atKey_of_not_has (by rw[I,H];rfl)] at e;injection e with e;exact e.symm
  ·rw[M y H] at e;injection e with e;exact e.symm
 obtain⟨v,ps,k,u⟩:=G.look_ok C.law F E (zd:=.held z) (zp:=[]) rfl (C.mkk x q);obtain⟨v',p,i,s⟩:=G.lookup C.law F E (zd:=.held z) (zp:=[]) rfl (C.mkk x q);rw[k,i,f v ps u,f v' p s,I];exact⟨rfl,rfl⟩
def OJ (C:CJ P kt κ) (w:D0) {e:VV} (i:P.underlying t=Bs (.map kt e)) (f:(Yd e).run P w=.ok v w) {x:κ} (h:C.ok x) :
  (XQ t (.map B0) (C.val x) VJ).run P w=.ok (.tuple #[v,.bool Jx]) w/\(XQ t (.map B0) (C.val x) Jx).run P w=.ok v w:=
 ⟨Maps.look_nil VJ C.law i f (C.mkk x h),Maps.look_nil Jx C.law i f (C.mkk x h)⟩
def Ab.len (h:Ab C w b n m) {t e:VV} (U:P.underlying t=Bs (.map kt e)):∃ k:Nat,(∀ E,(Builtin.len_ #[t] E #[.map (Bs b)]).run P w=.ok (.int .i64 k) w)/\k<=n/\(k=0↔∀ x,C.ok x->m x=B0):=by
 obtain⟨D,z,O⟩:=h;refine⟨Maps.size D,fun E=>z.len U E,z.size_le,fun J x u=>?_,fun J=>?_⟩
 ·have q:=(O x u).1;obtain⟨s,rfl⟩:=z.isMap;have:s=[]:=Wd J;subst this;rcases X:m x with _|y
  ·rfl
  ·rw[X] at q;cases q
 ·obtain⟨s,I,_,Y⟩:=z.entries C.law;obtain⟨i,M,Z,F,hs,H⟩:=z;rcases s with _|⟨p,s⟩
  ·rw[I];rfl
  ·exfalso;have f:=Maps.fit_keys F;have W:p∈(i.toList.map (Go.WideElems.rg P kt CN)):=by
    have:p∈((i.toList.map (Go.WideElems.rg P kt CN)).foldr DataW.insert []):=by
     have e:DataW.map ((i.toList.map (Go.WideElems.rg P kt CN)).foldr DataW.insert [])=.map (p::s):=H.symm.trans I;injection e with e;rw[e];exact VH ..
    exact mem_sorted.1 this
   obtain⟨v,G⟩:=f p W;obtain⟨x,u,_,R⟩:=C.inv v _ G;have q:=(O x u).1;rw[J x u,I] at q;have:Maps.has (DataW.map (p::s)) (C.kl x)=VJ:=by
    rw[has_eq,List.any_cons,<- R,WideAt.sameKey_self (by rw[R];exact C.key u)];rfl
   rw[this] at q;cases q
def Ab.cA (f:w.grownBy w' (Bs b)):Fr (fun k=>k=b) w w':=Fr.aZ f (fun k e=>(WR e).symm)
def Ab.store (h:Ab C w b n m) {e:VV} (y:P.underlying t=Bs (.map kt e)) (z:n<Wo) {x:κ} (u:C.ok x) (v:O0) :
  ∃ w',(Instr.mapUpdate t (.map (Bs b)) (C.val x) v).run P w=.ok () w'/\Ab C w' b (n+1) (AU m x (Bs v))/\Fr (fun k=>k=b) w w':=by
 obtain⟨D,p,f⟩:=h;obtain⟨w',i,s,q⟩:=p.update C.law y z (C.mkk x u) (d:=.held v) (ps:=[]) rfl;exact⟨w',i,⟨_,s,f.set p.isMap x v⟩,Ab.cA q⟩
def Ab.drop (h:Ab C w b n m) {t e:VV} (v:P.underlying t=Bs (.map kt e)) {x:κ} (u:C.ok x) (p:VV) :
  ∃ w',(Builtin.delete_ #[t,kt] p #[.map (Bs b),C.val x]).run P w=.ok (.tuple #[]) w'/\Ab C w' b n (AU m x B0)/\Fr (fun k=>k=b) w w':=by
 obtain⟨D,y,f⟩:=h;obtain⟨w',i,s,q⟩:=y.drop C.law v (C.mkk x u) p;exact⟨w',i,⟨_,s,f.del x⟩,Ab.cA q.grown⟩
def DE (C:CJ P kt κ) (w:D0) (b r n:Nat) (m:κ->Option O0) (left:κ->Bool) (cnt:Nat):Prop:=
 ∃ (D:YW O0) (l:Lit->Bool),w.ranges P kt CN b r n D l cnt/\Dk C D m/\∀ x,C.ok x->l (C.kl x)=left x
variable {r cnt:Nat} {left:κ->Bool}
def DE.owns (h:DE C w b r n m left cnt):Ab C w b n m:=by obtain⟨D,l,i,f,_⟩:=h;exact⟨D,i.owns,f⟩
def DE.lt (h:DE C w b r n m left cnt):r<w.heap.size:=by obtain⟨D,l,f,i,_⟩:=h;exact f.lt
def DE.bw (h:DE C w b r n m left cnt) (e:w'.heap[b]? = w.heap[b]?) (F:w'.heap[r]? = w.heap[r]?):DE C w' b r n m left cnt:=by
 obtain⟨D,l,⟨E,i,f,k,G,s,z,y,v,q,u⟩,p⟩:=h;exact⟨D,l,⟨E,i,f,k,G,e.trans s,z,y,v,F.trans q,u⟩,p⟩
def DE.fr (h:DE C w b r n m left cnt) (f:Fr S w w') (k:¬S b) (i:¬S r):DE C w' b r n m left cnt:=
 h.bw (f.block b h.owns.lt k) (f.block r h.lt i)
def Ab.range (h:Ab C w b n m) {t e:VV} (u:P.underlying t=Bs (.map kt e)) :
  ∃ w' cnt,(Instr.range t (.map (Bs b))).run P w=.ok (.pointer (Bs ⟨w.heap.size,0,B0⟩)) w'/\DE C w' b w.heap.size n m (fun x=>(m x).isSome) cnt/\Fr (fun _=>False) w w'/\w'.heap.size=w.heap.size+1:=by
 obtain⟨D,v,i⟩:=h;obtain⟨w',f,q,p,k⟩:=v.range C.law u;exact⟨w',_,f,⟨D,_,q,i,fun x s=>(i x s).1⟩,Fr.aZ p (fun _ e=>by cases e),k⟩
open Classical in
def DE.next (h:DE C w b r n m left cnt) (G:VV) :
  (cnt=0/\(∀ x,C.ok x->left x=Jx)/\(Instr.next (.pointer (Bs ⟨r,0,B0⟩)) Jx G).run P w=.ok (.tuple #[.bool Jx]) w)\/
  ∃ x v w' f,C.ok x/\left x=VJ/\m x=Bs v/\(Instr.next (.pointer (Bs ⟨r,0,B0⟩)) Jx G).run P w=.ok (.tuple #[.bool VJ,C.val x,v]) w'/\
   DE C w' b r n m (fun y=>left y && !decide (y=x)) f/\f<cnt/\Fr (fun k=>k=r) w w'/\w'.heap.size=w.heap.size/\(Instr.entry (.pointer (Bs ⟨r,0,B0⟩))).run P w'=.ok (.tuple #[C.val x,v]) w':=by
 obtain⟨D,l,hr,X,hl⟩:=h;rcases hr.next C.law G with ⟨h0,F,W⟩|⟨H,v,Z,y,w',f,s,O,i,z,q,J,M,R,I,U⟩
 ·exact .inl ⟨h0,fun x p=>by rw[<- hl x p,F],W⟩
 ·obtain⟨x,p,rfl,rfl⟩:=C.inv H Z s;obtain⟨F,W⟩:=X x p;have E:y=(.held v,[]):=by unfold CN at i;injection i with i;exact i.symm
  subst E;have hm:m x=Bs v:=by
   rw[has_true_of_atKey z] at F;obtain⟨u,Y⟩:=Option.isSome_iff_exists.1 F.symm;have:=(W u Y (.held v)).symm.trans (z (.held v));injection this with this;rw[Y,this]
  refine .inr ⟨x,v,w',f,p,by rw[<- hl x p];exact O,hm,q,⟨D,_,J,X,fun y E=>?_⟩,M,Ab.cA R,I,U⟩;rw[hl y E];by_cases e:y=x
  ·subst e;rw[WideAt.sameKey_self (C.key E)];simp
  ·rw[sameKey_ne (fun e2=>e (C.inj _ _ e2))];simp[e]
end
section
variable {P:Xc} {kt:VV} {κ:Type} {C:CJ P kt κ} {w:D0} {ops:Array X7} {rest:List X7} {o:X7} {a:Act} {Q:Exit->Act->D0->Prop} {K:Act->D0->Prop} {b n:Nat} {m:κ->Option O0}
def Gx (t e:VV) (F:P.underlying t=Bs (.map kt e)) (s x v:Yy) (q:o.op=Op.mapUpdate t s x v) (H:a.eval s=.map (Bs b)) (p:Ab C w b n m) (G:n<Wo) (h:κ) (f:O0) (z:a.eval x=C.val h) (E:a.eval v=f)
  (I:C.ok h) (J:∀ w',Ab C w' b (n+1) (AU m h (Bs f))->Fr (fun k=>k=b) w w'->K (a.put o.dst Yq) w'):o.wp P a w K Q:=by
 obtain⟨w',i,y,u⟩:=p.store F G I f;unfold YN;simp[Yx,q,H,z,E,i,W9];exact J _ y u
def SR (H:o.guard=B0) (t e:VV) (z:P.underlying t=Bs (.map kt e)) (p x v:Yy) (q:o.op=Op.mapUpdate t p x v) (F:a.eval p=.map (Bs b)) (i:Ab C w b n m) (E:n<Wo) (f:κ) (h:O0) (u:a.eval x=C.val f) (y:a.eval v=h)
  (G:C.ok f) (I:∀ w',Ab C w' b (n+1) (AU m f (Bs h))->Fr (fun k=>k=b) w w'->Yt P ops Q rest (a.put o.dst Yq) w'):Yt P ops Q (o::rest) a w:=
 YM H fun _ s=>Gx t e z p x v q F i E f h u y G fun w' M J=>s _ _ (I w' M J)
def SX (t e:VV) (y:P.underlying t=Bs (.map kt e)) (q x:Yy) (p:o.op=Op.call { callee:=Callee.builtin Builtin.delete,args:=#[q,x],argTypes:=#[t,kt] }) (z:a.eval q=.map (Bs b)) (i:Ab C w b n m) (f:κ) (v:a.eval x=C.val f)
  (E:C.ok f) (F:∀ w',Ab C w' b n (AU m f B0)->Fr (fun k=>k=b) w w'->K (a.put o.dst (.tuple #[])) w'):o.wp P a w K Q:=by
 obtain⟨w',h,u,s⟩:=i.drop y E o.type;unfold YN;simp[Yx,p,resolve,invoke,builtin,z,v,h,W9];exact F _ u s
def Iq (z:o.guard=B0) (t e:VV) (u:P.underlying t=Bs (.map kt e)) (i x:Yy) (p:o.op=Op.call { callee:=Callee.builtin Builtin.delete,args:=#[i,x],argTypes:=#[t,kt] }) (v:a.eval i=.map (Bs b)) (h:Ab C w b n m) (f:κ) (s:a.eval x=C.val f)
  (y:C.ok f) (E:∀ w',Ab C w' b n (AU m f B0)->Fr (fun k=>k=b) w w'->Yt P ops Q rest (a.put o.dst (.tuple #[])) w'):Yt P ops Q (o::rest) a w:=
 YM z fun _ q=>SX t e u i x p v h f s y fun w' G F=>q _ _ (E w' G F)
end
end
def enc (n:Nat):List Nat:=if n<128 then [n] else(n % 128+128)::enc (n / 128)
termination_by n
decreasing_by omega
def strOf (l:List Nat):ByteArray:=⟨(l.map UInt8.ofNat).toArray⟩
structure Pr where
 key:ByteArray
 val:ByteArray
 gone:Bool
structure Cm where
 ai:Int
 tx:Int
 ag:Int
 ad:List Pr
structure Ms where
 ai:Int
 from_:Int
 a4:Int
 aa:Int
 n:Int
 cmd:Cm
def small (p:Pr):Prop:=p.key.size<=1048576/\p.val.size<=1048576
def CR (p:Pr):List O0:=[.string p.key,.string p.val,.bool p.gone]
def JP:∀ (l:List Pr) (j:Nat) (p:Pr),l[j]? = Bs p->(l.flatMap CR)[j*3]? = Bs (.string p.key)/\(l.flatMap CR)[j*3+1]? = Bs (.string p.val)/\(l.flatMap CR)[j*3+2]? = Bs (.bool p.gone)
 | [],j,p,h=>by simp at h
 | q::l,0,p,h=>by
  simp at h;subst h;simp[CR]
 | q::l,j+1,p,h=>by
  have f:l[j]? = Bs p:=by simpa using h
  obtain⟨a,b,c⟩:=JP l j p f;have e:∀ i,((q::l).flatMap CR)[(j+1)*3+i]? = (l.flatMap CR)[j*3+i]?:=fun i=>by
   have:(j+1)*3+i=(j*3+i)+3:=by omega
   rw[this,VM];rw[Wk (by simp[CR])];simp[CR]
  exact⟨by simpa using (e 0).trans (by simpa using a),(e 1).trans b,(e 2).trans c⟩
def FE (w:D0) (B:Nat) (A:Option XL) (n:Nat) (l:List Pr):Prop:=l.length=n/\Rd w B 3 A n (l.flatMap CR)
def FE.at_ {w:D0} {l:List Pr} (h:FE w B A n l) (q:k<n):∃ g off p,A=Bs ⟨g,off,B0⟩/\g<B/\l[k]? = Bs p/\
  w.cell? ⟨g,off+k*3,B0⟩=Bs (.string p.key)/\w.cell? ⟨g,off+k*3+1,B0⟩=Bs (.string p.val)/\w.cell? ⟨g,off+k*3+2,B0⟩=Bs (.bool p.gone):=by
 obtain⟨g,off,e,s,f⟩:=h.2.2 (by omega);have hl:k<l.length:=by rw[h.1];exact q
 have i:l[k]? = Bs l[k]:=L1 hl;obtain⟨a,b,c⟩:=JP l k _ i;exact⟨g,off,l[k],e,s,i,f _ _ a,f _ _ b,f _ _ c⟩
def FE.fr {S:Nat->Prop} {w w':D0} {B n:Nat} {A:Option XL} {l:List Pr} (h:FE w B A n l) (i:Fr S w w') (k:B<=w.heap.size) (f:∀ g off,A=Bs ⟨g,off,B0⟩->0<n->¬S g):FE w' B A n l:=⟨h.1,h.2.fr i k f⟩
def Bv (m:Ms) (A:Option XL) (n k:Nat):Array O0:=#[.int .i64 m.ai,.int .i64 m.from_,.int .i64 m.a4,.int .i64 m.aa,.int .i64 m.n,.int .i64 m.cmd.ai,.int .i64 m.cmd.tx,.int .i64 m.cmd.ag,.slice A n k]
def De (m:Ms) (A:Option XL) (n k:Nat):O0:=.agg #[.int .i64 m.ai,.int .i64 m.from_,.int .i64 m.a4,.int .i64 m.aa,.int .i64 m.n,.int .i64 m.cmd.ai,.int .i64 m.cmd.tx,.int .i64 m.cmd.ag,.slice A n k]
structure By where
 c:Cm
 A:Option XL
 n:Nat
 k:Nat
def DM (x:By):List O0:=[.int .i64 x.c.ai,.int .i64 x.c.tx,.int .i64 x.c.ag,.slice x.A x.n x.k]
def Vj:∀ (l:List By) (j:Nat) (x:By),l[j]? = Bs x->(l.flatMap DM)[j*4]? = Bs (.int .i64 x.c.ai)/\(l.flatMap DM)[j*4+1]? = Bs (.int .i64 x.c.tx)/\(l.flatMap DM)[j*4+2]? = Bs (.int .i64 x.c.ag)/\(l.flatMap DM)[j*4+3]? = Bs (.slice x.A x.n x.k)
 | [],j,p,h=>by simp at h
 | q::l,0,p,h=>by
  simp at h;subst h;simp[DM]
 | q::l,j+1,p,h=>by
  have f:l[j]? = Bs p:=by simpa using h
  obtain⟨a,b,c,d⟩:=Vj l j p f;have e:∀ i,((q::l).flatMap DM)[(j+1)*4+i]? = (l.flatMap DM)[j*4+i]?:=fun i=>by
   have:(j+1)*4+i=(j*4+i)+4:=by omega
   rw[this,VM];rw[Wk (by simp[DM])];simp[DM]
  exact⟨by simpa using (e 0).trans (by simpa using a),(e 1).trans b,(e 2).trans c,(e 3).trans d⟩
def AM (l:List By):List Cm:=l.map (·.c)
def K8 {w:D0} {base base' size:Nat} (h:w.ownsRow base e size v n xs) (i:base'<=base):w.ownsRow base' e size v n xs:=
 ⟨h.1,h.2.imp id fun⟨g,cap,f,p,k,r⟩=>⟨g,cap,f,p,VO i k,r⟩⟩
structure AW where
 l:List Ms
 ao:Int->Bool
def Cg (s:AW) (m:Ms):Bool:=s.ao m.from_ || s.ao m.a4 || decide (s.l.length=200)
def AN (s:AW) (m:Ms):AW:=if Cg s m then s else { s with l:=s.l++[m] }
def Em (s:AW) (ms:List Ms):AW:=ms.foldl AN s
def takeS (s:AW) (k:Nat):AW:={ s with l:=s.l.eraseIdx k }
def gone (id:Int) (m:Ms):Bool:=decide (m.from_=id) || decide (m.a4=id)
def Ev (s:AW) (id:Int):AW:=⟨s.l.filter (fun m=>!gone id m),fun i=>decide (i=id) || s.ao i⟩
def N9 (s:AW) (m:Ms) (h:s.l.length<=200):(AN s m).l.length<=200:=by
 unfold AN Cg;split
 ·exact h
 ·rename_i f;simp only[X8,decide_eq_true_eq,not_or] at f;simp;omega
def qbb:∀ (ms:List Ms) (s:AW),s.l.length<=200->(Em s ms).l.length<=200
 | [],_,h=>h
 | m::ms,s,h=>qbb ms (AN s m) (N9 s m h)
def q4e (s:AW) (m:Ms):(AN s m).ao=s.ao:=by unfold AN;split <;> rfl
def q31:∀ (ms:List Ms) (s:AW),(Em s ms).ao=s.ao
 | [],_=>rfl
 | m::ms,s=>(q31 ms (AN s m)).trans (q4e s m)
def q9e (s:AW) (ms:List Ms) (m:Ms):Em s (ms++[m])=AN (Em s ms) m:=by simp[Em,List.foldl_append]
structure AS where
 m:Ms
 A:Option XL
 n:Nat
 k:Nat
def Ct (x:AS):List O0:=(Bv x.m x.A x.n x.k).toList
def q2n (x:AS):(Ct x).length=9:=rfl
def AF (l:List AS):List Ms:=l.map (·.m)
def My (w:D0) (N:Nat->Prop) (A:Option XL) (n:Nat) (l:List AS):Prop:=
 l.length=n/\Rd w w.heap.size 9 A n (l.flatMap Ct)/\(∀ g off,A=Bs ⟨g,off,B0⟩->0<n->¬N g)/\
  ∀ x∈l,FE w w.heap.size x.A x.n x.m.cmd.ad/\∀ g off,x.A=Bs ⟨g,off,B0⟩->0<x.n->¬N g
def DR (w:D0) (base:Nat) (x:AS):Prop:=w.ownsRow base 45 3 (.slice x.A x.n x.k) x.n (x.m.cmd.ad.flatMap CR)/\x.m.cmd.ad.length=x.n
noncomputable abbrev BC:CJ Tryz.prog 3 Int:=keyI Tryz.underlying3
def Bq (w:D0) (nd:Nat) (D:Option Nat) (dead:Int->Bool):Prop:=
 match D with
 | none=>∀ i,dead i=Jx
 | some b=>Ab BC w b nd (fun i=>if dead i then Bs (.bool VJ) else B0)
def Ke (n:Nat) (x:AS):Prop:=∀ b,Wc (.slice x.A x.n x.k)=Bs b->n<=b
structure AJ (w:D0) (base g off:Nat) (T:VV) (cs:Array O0) (V:O0) (D:Option Nat) (nd:Nat) (L:List AS) (dead:Int->Bool) (lost:Int):Prop where
 ak:Ae w g T cs
 c0:cs[off]? = Bs V
 c1:cs[off+1]? = Bs (.map D)
 c2:cs[off+2]? = Bs (.int .i64 lost)
 row:w.ownsRow base 116 9 V L.length (L.flatMap Ct)
 own:∀ x∈L,DR w base x
 down:Bq w nd D dead
 len:L.length<=200
 ne:T≠116/\T≠45
 bg:base<=w.heap.size
abbrev EW (i:Int):Prop:=(Lit.int .i64 i).wf=VJ
def Bq.look {w:D0} {nd:Nat} {D:Option Nat} {dead:Int->Bool} (h:Bq w nd D dead) {i:Int} (k:EW i):(XQ 60 (.map D) (.int .i64 i) Jx).run Tryz.prog w=.ok (.bool (dead i)) w:=by
 have f:(Yd 4).run Tryz.prog w=.ok (.bool Jx) w:=by kernel_rfl
 unfold Bq at h;rcases D with _|b
 ·rw[h i];exact(OJ BC w Tryz.underlying60 f (x:=i) k).2
 ·have:=(h.look Tryz.underlying60 f (x:=i) k).2;rw[show BC.val i=Wp .i64 i from rfl] at this;rw[this];cases dead i <;> rfl
def Bq.fr {S:Nat->Prop} {w w':D0} {nd:Nat} {D:Option Nat} {dead:Int->Bool} (h:Bq w nd D dead) (i:Fr S w w') (f:∀ b,D=Bs b->¬S b):Bq w' nd D dead:=by
 unfold Bq at h ⊢;rcases D with _|b
 ·exact h
 ·exact h.fr i (f b rfl)
def Bq.aB {w:D0} {nd g:Nat} {D:Option Nat} {dead:Int->Bool} {t:VV} {cs:Array O0} (h:Bq w nd D dead) (f:Ae w g t cs):D≠Bs g:=by
 rintro rfl;exact Ab.aB (C:=BC) h f rfl
def Bq.aL {w:D0} {nd base size k:Nat} {e:VV} {v:O0} {xs:List O0} {D:Option Nat} {dead:Int->Bool} (h:Bq w nd D dead) (f:w.ownsRow base e size v k xs) {b:Nat} (i:D=Bs b):v.ownBlock≠Bs b:=by
 subst i;exact Ab.aL (C:=BC) h f
def Bq.lt {w:D0} {nd b:Nat} {dead:Int->Bool} (h:Bq w nd (Bs b) dead):b<w.heap.size:=Ab.lt (C:=BC) h
def Vi:∀ (l:List AS) (j:Nat) (x:AS),l[j]? = Bs x->∀ i,i<9->(l.flatMap Ct)[j*9+i]? = (Ct x)[i]?
 | [],j,p,h,i,f=>by simp at h
 | q::l,0,p,h,i,f=>by
  simp at h;subst h;rw[VM,List.getElem?_append_left (by rw[q2n];omega)];simp
 | q::l,j+1,p,h,i,f=>by
  have k:l[j]? = Bs p:=by simpa using h
  have:(j+1)*9+i=(j*9+i)+9:=by omega
  rw[this,VM,Wk (by rw[q2n];omega),q2n,Nat.add_sub_cancel];exact Vi l j p k i f
def Cells9 (w:D0) (g o:Nat) (x:AS):Prop:=
 w.cell? ⟨g,o,B0⟩=Bs (.int .i64 x.m.ai)/\w.cell? ⟨g,o+1,B0⟩=Bs (.int .i64 x.m.from_)/\w.cell? ⟨g,o+2,B0⟩=Bs (.int .i64 x.m.a4)/\w.cell? ⟨g,o+3,B0⟩=Bs (.int .i64 x.m.aa)/\w.cell? ⟨g,o+4,B0⟩=Bs (.int .i64 x.m.n)/\
  w.cell? ⟨g,o+5,B0⟩=Bs (.int .i64 x.m.cmd.ai)/\w.cell? ⟨g,o+6,B0⟩=Bs (.int .i64 x.m.cmd.tx)/\w.cell? ⟨g,o+7,B0⟩=Bs (.int .i64 x.m.cmd.ag)/\w.cell? ⟨g,o+8,B0⟩=Bs (.slice x.A x.n x.k)
def Rd.bO {w:D0} {l:List AS} (h:Rd w B 9 A n (l.flatMap Ct)) (hl:l.length=n) (q:j<n):∃ g off x,A=Bs ⟨g,off,B0⟩/\g<B/\l[j]? = Bs x/\Cells9 w g (off+j*9) x:=by
 obtain⟨g,off,e,p,i⟩:=h.2 (by omega);have k:l[j]? = Bs l[j]:=L1 (by omega);have f:=Vi l j _ k;refine⟨g,off,l[j],e,p,k,?_,?_,?_,?_,?_,?_,?_,?_,?_⟩
 ·exact i (j*9) _ (f 0 (by omega))
 ·exact i (j*9+1) _ (f 1 (by omega))
 ·exact i (j*9+2) _ (f 2 (by omega))
 ·exact i (j*9+3) _ (f 3 (by omega))
 ·exact i (j*9+4) _ (f 4 (by omega))
 ·exact i (j*9+5) _ (f 5 (by omega))
 ·exact i (j*9+6) _ (f 6 (by omega))
 ·exact i (j*9+7) _ (f 7 (by omega))
 ·exact i (j*9+8) _ (f 8 (by omega))
def BO (g:Nat) (V:O0) (D:Option Nat) (k:Nat):Prop:=k=g\/Bs k=V.ownBlock\/Bs k=D
section
variable {P:Xc} {ops:Array X7} {Q:Exit->Act->D0->Prop} {md:XJ}
def FD (i:Nat) {k:X7} {fuel:Nat} {a:Act} {w:D0} (u:ops[i]? = Bs k)
  (hs:WY ops=VJ) (y:XD md ops f i=VJ) (s:(Wu md ops f).contains i=VJ)
  (z:∀ c a w,Q (.panic c) (a.put k.dst v) w->Q (.panic c) a w) (q:Ww k (XK ops a.tmps)=VJ)
  (p:∀ w,(Yx a.eval k).run P w=.ok (.value v) w)
  (h:wpAny P md ops Q fuel (f.setIfInBounds i VJ) (a.put k.dst v) w):wpAny P md ops Q (fuel+1) f a w:=
 wpAny_take u hs y s z (.inl ⟨q,p⟩) h
def UL (i:Nat) {fuel:Nat} {a:Act} {w:D0} (q:Wu md ops f=[i]) (s:ops[i]? = Bs o)
  (p:Ww o (XK ops a.tmps)=VJ) (h:∀ k:Act->D0->Prop,(∀ a w,wpAny P md ops Q fuel (f.setIfInBounds i VJ) a w->k a w)->YN P o a w k Q):wpAny P md ops Q (fuel+1) f a w:=
 wpAny_ready q (by simp) (AllReady.cons s (fun k u=>by rw[if_pos p];exact h k u) AllReady.nil)
end
def Lj:(Tryz.prog.info? 45).map (fun i=>(i.zero,i.size,i.bytes))=Bs (Bs (.agg #[.string ⟨#[]⟩,.string ⟨#[]⟩,.bool Jx]),3,40):=by kernel_rfl
def TF (l:List Pr):∀ u∈l.flatMap CR,u.oneCell'=VJ:=fun u h=>by
 obtain⟨p,_,f⟩:=List.mem_flatMap.1 h;unfold CR at f;rcases List.mem_cons.1 f with rfl|f
 ·rfl
 ·rcases List.mem_cons.1 f with rfl|f
  ·rfl
  ·rw[List.mem_singleton.1 f];rfl
def q9r (w:D0) (base:Nat) (e:VV) (size:Nat) (f:base<=w.heap.size):(w.alloc (.cells #[] e)).ownsRow base e size (.slice (Bs ⟨w.heap.size,0,B0⟩) 0 0) 0 []:=
 ⟨by simp,.inr ⟨w.heap.size,0,#[],rfl,f,by simpa [Ae] using Ae.new w e #[],K0 _,VN _,by simp,by simp⟩⟩
def ES {w:D0} {base base' size n':Nat} (h:w.ownsRow base e size v n xs) (F:w.ownsRow base' B i v' n' p) (q:e≠B) {g:Nat} (s:v.ownBlock=Bs g):v'.ownBlock≠Bs g:=by
 intro k;rcases h.2 with ⟨rfl,_⟩|⟨H,cap,M,rfl,_,E,_⟩
 ·simp[Wc] at s
 ·rcases F.2 with ⟨rfl,_⟩|⟨G,z,y,rfl,_,f,_⟩
  ·simp[Wc] at k
  ·have J:H=g:=by simpa [Wc] using s
   have I:G=g:=by simpa [Wc] using k
   subst J;subst I;rw[E] at f;injection f with f;injection f with _ ht;exact q ht
def Ck {w:D0} (h:VP B w w') (n:Nat):VP B w (w'.drewN n):=⟨h.os,h.tape,h.output,h.size,h.block⟩
def Tm (w:D0) (n:Nat):(w.drewN n).heap.size=w.heap.size:=rfl
def DG {w:D0} (h:VP B w w'):Fr (fun k=>B<=k) w w':=⟨h.os,h.tape,h.output,h.size,fun k _ f=>h.block k (by omega)⟩
def MB (base:Nat) (n:Nat) (l:List Pr) (w:D0) (e:WC) (w':D0):Prop:=
 ∃ A k,e=.returned (.slice A n k)/\w'.ownsRow base 45 3 (.slice A n k) n (l.flatMap CR)/\VP w.heap.size w w'
def qah (base B n k:Nat) (A:Option XL) (l:List Pr) (w:D0) (h:FE w B A n l) (I:B<=w.heap.size) (G:base<=w.heap.size) (J:n<=100000) (z:A=B0->k=0) :
  VY Tryz.prog 78 #[.slice A n k] w (MB base n l w):=by
 have H:=LH h;clear h;rcases A with _|a
 ·have s:=z rfl;subst s;have q:n=0:=by
   rcases XW n with u|u
   ·exact u
   ·obtain⟨g,off,h,_⟩:=H.o.2.2 u;cases h
  subst q;have hl:l=[]:=Wd H.o.1;subst hl;have p:MB base 0 [] w (.returned (.slice B0 0 0)) w:=⟨B0,0,rfl,VZ _ _ _ _,VK _ _⟩
  have v:=LH p;clear p H;have i:=XV w 67 _ B0 0 0 0 0 Tryz.underlying67;go_enter Tryz.func78,Tryz.ntmps78;go_wp2_with fail;go_ret;exact v.o
 ·clear z;have i:=XV w 67 _ (Bs a) n k 0 0 Tryz.underlying67;go_enter Tryz.func78,Tryz.ntmps78;go_wp2_with (at_builtin;refine stop ?_)
  refine Df ?_;have hs:VP w.heap.size w (w.alloc (.cells #[] 45)):=(VK _ _).alloc (K0 _) _;refine q2e _ rfl (.tmp 5) (.tmp 6) 67 rfl base 45 _ 3 40 Tryz.underlying67 Lj rfl (by decide) _ 0 [] rfl (q9r w base _ _ G) B _ n k (l.flatMap CR) rfl ((H.o.2.below (hs.mono I)).reads) (TF l) (by unfold Wo;omega) (by omega) (by simp;omega) ?_;intro v' w' f y;rw[Wx,Xt] at f;obtain⟨E,c,rfl,_,_⟩:=AR f;have p:MB base n l w (.returned (.slice E n c)) w':=⟨E,c,rfl,f,hs.trans (y.below (fun g F=>by have e:Bs w.heap.size=Bs g:=F;injection e with e;omega) (by simp))⟩
  have v:=LH p;clear p f y hs;go_wp2_with fail;go_ret;exact v.o
section
variable {P:Xc} {w:D0} {base e size g n cap:Nat} {xs:List O0}
def q3x (h:w.ownsRow base e size (.slice (Bs ⟨g,0,B0⟩) n cap) n xs):∃ f:Array O0,base<=g/\w.heap[g]? = Bs (.cells f e (0,0))/\n<=cap/\cap<=Wo/\f.size=cap*size/\f.toList.take (n*size)=xs:=by
 rcases h.2 with ⟨h,_⟩|⟨y,u,f,h,s,v,k,q,p,i⟩
 ·cases h
 ·simp only[YF,VR,W1,and_true,true_and] at h;obtain⟨rfl,rfl⟩:=h;exact⟨f,s,v,k,q,p,i⟩
def Tv (h:w.ownsRow base e size (.slice (Bs ⟨g,0,B0⟩) n cap) n xs):n<=cap/\cap<=Wo:=by
 obtain⟨k,_,_,i,f,_⟩:=q3x h;exact⟨i,f⟩
def q4w (h:w.ownsRow base e size (.slice (Bs ⟨g,0,B0⟩) n cap) n xs) (y:i<=n):w.ownsRow base e size (.slice (Bs ⟨g,0,B0⟩) i cap) i (xs.take (i*size)):=by
 have v:i*size<=n*size:=WO _ y;obtain⟨s,q,z,u,p,k,f⟩:=q3x h;exact⟨by rw[WA,h.1];omega,.inr ⟨g,cap,s,rfl,q,z,by omega,p,k,by rw[<- f,List.take_take,Nat.min_eq_left v]⟩⟩
def FQ (h:w.ownsRow base e size (.slice (Bs ⟨g,0,B0⟩) n cap) n xs) (u:n+1<=cap):∃ v:List O0,v.length=size/\w.ownsRow base e size (.slice (Bs ⟨g,0,B0⟩) (n+1) cap) (n+1) (xs++v):=by
 obtain⟨k,s,z,y,q,i,f⟩:=q3x h;have hl:(n+1)*size<=cap*size:=WO _ u;have p:(n+1)*size=n*size+size:=by rw[Xa,Nat.one_mul]
 refine⟨(k.toList.drop (n*size)).take size,by rw[WA,W5,Ws,i];omega,?_,.inr ⟨g,cap,k,rfl,s,z,u,q,i,?_⟩⟩
 ·rw[VS,h.1,WA,W5,Ws,i];omega
 ·rw[p,List.take_add,f]
def qcd (w:D0) (G I H h:VV) (k g o p z:Nat) (a:XL) (f s:Nat) (q:Array O0) (t:VV) (cs:List O0)
  (J:P.underlying G=Bs (.slice h)) (hs:(P.info? h).map (·.size)=Bs k)
  (R:w.heap[g]? = Bs (.cells q t (0,0))) (M:cs.length=Nat.min f p*k)
  (u:∀ j v,cs[j]? = Bs v->w.cell? (a.add j)=Bs v) (y:o+cs.length<=q.size) (U:∀ v∈cs,v.oneCell'=VJ) :
  (Builtin.copy_ #[G,I] H #[.slice (Bs ⟨g,o,B0⟩) p z,.slice (Bs a) f s]).run P w =
   .ok (goInt (Nat.min f p)) (w.setRow g (q.toList.take o++cs++q.toList.drop (o+cs.length)).toArray):=by
 have hl:=run_loadCells_list (P:=P) w a cs u;have E:=run_storeCells_at P g o t cs 0 q w R (by simpa using y) U;cases F:P.info? h with
 | none=>simp[F] at hs
 | some i=>
  have O:i.size=k:=by simpa [F] using hs
  rw[M] at hl;simp[Builtin.copy_,Yu J,Builtin.lenOf,X1,YU,typeInfo,F,O,hl,E]
def SO (W Y p:VV) (hu:P.underlying W=Bs (.slice p)) (hs:(P.info? p).map (·.size)=Bs size)
  (h:w.ownsRow base e size (.slice (Bs ⟨g,0,B0⟩) n cap) n xs) {m:Nat} (M:i+m<=n) (y:List O0) (f:y.length=m*size) (a:XL) (G:∀ j v,y[j]? = Bs v->w.cell? (a.add j)=Bs v)
  (h1:∀ v∈y,v.oneCell'=VJ) (U dc J X:Nat) (s:Nat.min J U=m) :
  ∃ w',(∀ I,(Builtin.copy_ #[W,Y] I #[.slice (Bs ⟨g,i*size,B0⟩) U dc,.slice (Bs a) J X]).run P w=.ok (goInt m) w')/\
   w'.ownsRow base e size (.slice (Bs ⟨g,0,B0⟩) n cap) n (xs.take (i*size)++y++xs.drop ((i+m)*size))/\Fr (fun k=>k=g) w w':=by
 obtain⟨F,R,Z,H,O,E,z⟩:=q3x h;have e1:(i+m)*size<=n*size:=WO _ M;have e2:n*size<=cap*size:=WO _ H;have e3:(i+m)*size=i*size+m*size:=Xa _ _ _;have q:=fun I=>qcd (P:=P) w W Y I p size g (i*size) U dc a J X F e y hu hs Z (by rw[s,f]) G (by rw[f,E];omega) h1
 simp only[s] at q;refine⟨_,q,⟨?_,.inr ⟨g,cap,_,rfl,R,setRow_heap w g F _ e _ Z,H,O,?_,?_⟩⟩,⟨rfl,rfl,rfl,by simp,fun k _ hk=>setRow_other w g k _ hk⟩⟩
 ·rw[VS,VS,WA,W5,h.1,f];omega
 ·simp only[Xo,VS,WA,W5,Ws,f,E];omega
 ·rw[<- z];simp only[];have u:(F.toList.take (i*size)++y).length=(i+m)*size:=by
   rw[VS,WA,Ws,E,f];omega
  have hd:i*size+y.length=(i+m)*size:=by rw[f];omega
  rw[hd,List.take_append,u,V0 (by rw[u];omega),List.take_take,Nat.min_eq_left (by omega),List.drop_take]
def qbd (t J:VV) (f:TypeInfo) (z:O0) (X Y:IntKind) (ht:P.underlying t=Bs (.slice e)) (M:P.underlying J=Bs (.int Y)) (hi:P.info? e=Bs f) (hz:f.zero=Bs z) (s:f.size=size) (i:z.cells.size=size) (BD:0<size)
  (h:w.ownsRow base e size (.slice (Bs ⟨g,0,B0⟩) n cap) n xs) (h0:0<k) (Z:cap<n+k) (E:n+k<=1000000) (W:f.bytes<=1000000) (a0:∀ v∈xs,v.oneCell'=VJ) (hb:base<=w.heap.size) :
  ∃ c' w',(∀ I,(Xu #[t,J] I #[.slice (Bs ⟨g,0,B0⟩) n cap,.int X k]).run P w=.ok (.slice (Bs ⟨w.heap.size,0,B0⟩) (n+k) c') w')/\
   w'.ownsRow base e size (.slice (Bs ⟨w.heap.size,0,B0⟩) (n+k) c') (n+k) (xs++(Wz z.cells k).toList)/\Fr (fun _=>False) w w'/\w'.heap.size=w.heap.size+1:=by
 obtain⟨H,a6,R,O,a5,a4,p⟩:=q3x h;have a1:n*size<=cap*size:=WO _ O;have y:(X1 f.size n (.slice (Bs ⟨g,0,B0⟩) n cap)).run P w.drew=.ok xs.toArray w.drew:=by
  have:=run_loadCells_list (P:=P) w.drew ⟨g,0,B0⟩ xs (fun j v q=>by
   have a3:j<xs.length:=(List.getElem?_eq_some_iff.1 q).1;rw[WJ,Wx];show w.cell? _=_;have h2:H[j]? = Bs v:=by
    rw[<- p] at q;rw[List.getElem?_take] at q;split at q
    ·simpa using q
    ·cases q
   exact(cell_of_row w g j H e (0,0) R).trans h2)
  rw[h.1] at this;unfold X1;rw[s];exact this
 have G:(n+k)*f.bytes<=140737488355328:=by
  have:(n+k)*f.bytes<=1000000*1000000:=Nat.mul_le_mul E W;omega
 have a2:k*f.bytes<=(n+k)*f.bytes:=WO _ (by omega);have u:=fun I=>Lib.run_append_grow_zeros (P:=P) w t J I e f z X Y ht M hi hz (Bs ⟨g,0,B0⟩) n cap xs y k h0 (by rw[s];exact BD) Z (by omega) (by omega) (growslice_fits Z G)
 have U:=grownCap_ge w (n+k) cap e;have F:grownCap w (n+k) cap e<=Wo:=grownCap_le_maxLen w (n+k) cap e (by unfold Wo;omega);refine⟨_,_,u,⟨?_,.inr ⟨w.heap.size,_,_,rfl,hb,heap_alloc_new w.drew _,U,F,?_,?_⟩⟩,(Fr.refl _ w).drew.alloc _,by simp⟩
 ·rw[VS,h.1,Ws,Xs,i,Xa]
 ·simp only[Array.size_append,Xo,Xs,i,h.1,<- Xa];congr 1;omega
 ·have hl:(xs++(Wz z.cells k).toList).length=(n+k)*size:=by rw[VS,h.1,Ws,Xs,i,Xa]
  simp only[Array.toList_append];rw[<- hl];exact List.take_left
def IU (g k cap size:Nat):Option XL:=if cap=k then Bs ⟨g,0,B0⟩ else Bs ⟨g,k*size,B0⟩
def KR (g k cap size:Nat):∃ o,IU g k cap size=Bs ⟨g,o,B0⟩/\(k<cap->o=k*size):=by
 unfold IU;split
 ·rename_i f;exact⟨0,rfl,fun h=>by omega⟩
 ·exact⟨_,rfl,fun _=>rfl⟩
def q5b (t:VV) (z:O0) (ht:P.underlying t=Bs (.slice e)) (hv:∀ w,(Yd e).run P w=.ok z w) (hz:z.cells.size=size) (J:∀ u∈z.cells.toList,u.oneCell'=VJ)
  (h:w.ownsRow base e size (.slice (Bs ⟨g,0,B0⟩) n cap) n xs) {m c:Nat} (hm:n+m<=cap) :
  ∃ w',(∀ G,(YH #[t] G #[.slice (IU g n cap size) m c]).run P w=.ok (.tuple #[]) w')/\w'.ownsRow base e size (.slice (Bs ⟨g,0,B0⟩) n cap) n xs/\Fr (fun k=>k=g) w w':=by
 obtain⟨o,ho,R⟩:=KR g n cap size;rw[ho];rcases XW m with h0|h0
 ·subst h0;exact⟨w,fun G=>by simp[YH,Yu ht],h,Fr.refl _ _⟩
 have O:=R (by omega);subst O;rcases h.2 with ⟨F,_⟩|⟨g',a0,f,F,Z,hg,U,Y,X,p⟩
 ·cases F
 ·simp only[YF,VR,W1,and_true,true_and] at F;obtain⟨rfl,rfl⟩:=F;have v:(Wz z.cells m).toList.length=m*size:=by rw[Ws,Xs,hz]
  have I:∀ u∈(Wz z.cells m).toList,u.oneCell'=VJ:=fun u M=>by
   obtain⟨i,hi,M⟩:=YS M;have H:0<z.cells.size:=by
    rcases XW z.cells.size with h|h
    ·rw[v,<- hz,h] at hi;omega
    ·exact h
   refine J u ?_;rw[<- M];simp[Wz];have W:i % z.cells.size<z.cells.size:=Nat.mod_lt _ H;simp[W]
  have s:n*size+(Wz z.cells m).toList.length<=f.size:=by rw[v,X,<- Xa];exact WO _ hm
  have y:=run_storeCells_at (P:=P) g (n*size) e (Wz z.cells m).toList 0 f w hg (by simpa using s) I;simp only[Nat.add_zero] at y;obtain⟨E,rfl⟩:∃ E,m=E+1:=⟨m-1,by omega⟩
  refine⟨w.setRow g (f.toList.take (n*size)++(Wz z.cells (E+1)).toList++f.toList.drop (n*size+(Wz z.cells (E+1)).toList.length)).toArray,?_,⟨h.1,.inr ⟨g,cap,_,rfl,Z,setRow_heap w g f _ e _ hg,U,Y,?_,?_⟩⟩,⟨rfl,rfl,rfl,by simp,fun k _ hk=>setRow_other w g k _ hk⟩⟩
  ·intro G;simp[YH,Yu ht,hv,y]
  ·simp only[Xo,VS,WA,W5,Ws];simp only[Ws] at s;omega
  ·have q:(f.toList.take (n*size)).length=n*size:=by rw[p,h.1]
   rw[XB,Wq (by rw[q];omega),V0 (by rw[q];omega),p]
def q5a (T:VV) (f:P.underlying T=Bs (.slice (P.elem T))) (hs:∀ w,(YU (P.elem T)).run P w=.ok size w) (w:D0) (g n c v:Nat) (h:Int) (i:h=v) (k:v<=n) :
  (Yv T (.slice (Bs ⟨g,0,B0⟩) n c) (Bs (.int .i64 h)) B0 B0).run P w=.ok (.slice (IU g v c size) (n-v) (c-v)) w:=by
 subst i;rw[run_slice_l w T _ n c f .i64 (v:Int) (by omega) (by omega),hs];simp only[W9,sliced,XO,IU];congr 2;split <;> simp[WJ]
def PC (T:VV) (i:P.underlying T=Bs (.slice e)) (f:P.elem T=e) (hs:∀ w,(YU e).run P w=.ok size w) (w:D0) (g n c v:Nat) (h:Int) (k:h=v) (p:v<=n) (q:v<c) :
  (Yv T (.slice (Bs ⟨g,0,B0⟩) n c) (Bs (.int .i64 h)) B0 B0).run P w=.ok (.slice (Bs ⟨g,v*size,B0⟩) (n-v) (c-v)) w:=by
 subst k;subst f;rw[run_slice_l w T _ n c i .i64 (v:Int) (by omega) (by omega),hs];simp only[W9,sliced,XO];rw[if_neg (by omega)];simp[WJ]
def U5 (T:VV) (h:P.underlying T=Bs (.slice e)) (f:P.elem T=e) (hs:∀ w,(YU e).run P w=.ok size w) (w:D0) (A:Option XL) (n c v:Nat) (i:v<=n) :
  ∃ r,(Yv T (.slice A n c) (Bs (.int .i64 (v:Int))) B0 B0).run P w=.ok r w:=by
 subst f;rw[run_slice_l w T _ n c h .i64 (v:Int) (by omega) (by omega),hs];exact⟨_,rfl⟩
def q3v (T:VV) (i:P.underlying T=Bs (.slice e)) (f:P.elem T=e) (hs:∀ w,(YU e).run P w=.ok size w) (w:D0) (g n c v:Nat) (h:Int) (k:h=v) (p:v<=c) :
  (Yv T (.slice (Bs ⟨g,0,B0⟩) n c) B0 (Bs (.int .i64 h)) B0).run P w=.ok (.slice (Bs ⟨g,0,B0⟩) v c) w:=by
 subst k;subst f;rw[run_slice_h w T _ n c i .i64 (v:Int) (by omega) (by omega),hs];simp only[W9,sliced,XO,Nat.zero_mul,Nat.sub_zero];congr 2;split <;> simp[Addr.add]
end
section
variable {P:Xc} {w w':D0} {ops:Array X7} {rest:List X7} {o:X7} {a:Act} {Q:Exit->Act->D0->Prop} {K:Act->D0->Prop}
def qan (s x:Yy) (t t':VV) (k:o.op=.call { callee:=.builtin .append,args:=#[s,x],argTypes:=#[t,t'] }) (v u r:O0) (hs:a.eval s=v) (i:a.eval x=u)
  (f:(Xu #[t,t'] o.type #[v,u]).run P w=.ok r w') (h:K (a.put o.dst r) w'):o.wp P a w K Q:=by
 unfold YN Yx;simp only[k,resolve,invoke,builtin,Sem.run_bind,Sem.run_pure,Zb,List.map_toArray,WH,XN,hs,i,f];exact h
def q26 (i:o.guard=B0) (s x:Yy) (t t':VV) (p:o.op=.call { callee:=.builtin .append,args:=#[s,x],argTypes:=#[t,t'] }) (v u r:O0) (hs:a.eval s=v) (k:a.eval x=u)
  (f:(Xu #[t,t'] o.type #[v,u]).run P w=.ok r w') (h:Yt P ops Q rest (a.put o.dst r) w'):Yt P ops Q (o::rest) a w:=
 YM i fun _ q=>qan s x t t' p v u r hs k f (q _ _ h)
def q2p (d s:Yy) (t t':VV) (i:o.op=.call { callee:=.builtin .copy,args:=#[d,s],argTypes:=#[t,t'] }) (v u r:O0) (k:a.eval d=v) (hs:a.eval s=u)
  (f:(Builtin.copy_ #[t,t'] o.type #[v,u]).run P w=.ok r w') (h:K (a.put o.dst r) w'):o.wp P a w K Q:=by
 unfold YN Yx;simp only[i,resolve,invoke,builtin,Sem.run_bind,Sem.run_pure,Zb,List.map_toArray,WH,XN,k,hs,f];exact h
def q1z (i:o.guard=B0) (d s:Yy) (t t':VV) (k:o.op=.call { callee:=.builtin .copy,args:=#[d,s],argTypes:=#[t,t'] }) (v u r:O0) (p:a.eval d=v) (hs:a.eval s=u)
  (f:(Builtin.copy_ #[t,t'] o.type #[v,u]).run P w=.ok r w') (h:Yt P ops Q rest (a.put o.dst r) w'):Yt P ops Q (o::rest) a w:=
 YM i fun _ q=>q2p d s t t' k v u r p hs f (q _ _ h)
end
def B7 (size i:Nat) (f xs:List O0):List O0:=xs.take (i*size)++f++xs.drop (i*size)
def q9n {size:Nat} (hl:xs.length=n*size) (q:i<n) (k:h.length=size) :
  (((xs++h).take ((i+1)*size)++xs.drop (i*size)++(xs++h).drop ((i+1+(n-i))*size)).take (i*size)++p++((xs++h).take ((i+1)*size)++xs.drop (i*size)++(xs++h).drop ((i+1+(n-i))*size)).drop ((i+1)*size))=B7 size i p xs:=by
 have z:(i+1)*size=i*size+size:=by rw[Xa,Nat.one_mul]
 have y:(i+1)*size<=n*size:=WO _ q;have v:(i+1+(n-i))*size=n*size+size:=by rw[show i+1+(n-i)=n+1 by omega,Xa,Nat.one_mul]
 have u:(xs++h).take ((i+1)*size)=xs.take ((i+1)*size):=by rw[Wq (by omega)]
 have s:(xs++h).drop ((i+1+(n-i))*size)=[]:=List.drop_eq_nil_of_le (by rw[VS,hl,k,v];omega);have f:(xs.take ((i+1)*size)).length=(i+1)*size:=by rw[WA,hl];omega
 rw[u,s,WE,Wq (by rw[f];omega),List.take_take,Nat.min_eq_left (by omega),List.drop_append_of_le_length (by rw[f];omega),Yb (by rw[f];omega)];rfl
def q7w {size:Nat} {f:List O0} (hl:xs.length=n*size) (u:i<=n) (q:f.length=(n+1-i)*size) (s:h.length=size) :
  ((((xs.take (i*size)++f).take (i*size)++h++(xs.take (i*size)++f).drop ((i+1)*size)).take ((i+1)*size))++xs.drop (i*size)++((xs.take (i*size)++f).take (i*size)++h++(xs.take (i*size)++f).drop ((i+1)*size)).drop ((i+1+(n-i))*size))=B7 size i h xs:=by
 have H:(i+1)*size=i*size+size:=by rw[Xa,Nat.one_mul]
 have G:i*size<=n*size:=WO _ u;have F:(i+1+(n-i))*size=n*size+size:=by rw[show i+1+(n-i)=n+1 by omega,Xa,Nat.one_mul]
 have E:(n+1-i)*size=n*size+size-i*size:=by rw[YG,Xa,Nat.one_mul]
 have k:(xs.take (i*size)).length=i*size:=by rw[WA,hl];omega
 have z:(xs.take (i*size)++f).take (i*size)=xs.take (i*size):=by rw[Wq (by omega),V0 (by omega)]
 rw[z];have p:(xs.take (i*size)++h).length=(i+1)*size:=by rw[VS,k,s];omega
 have y:((xs.take (i*size)++h++(xs.take (i*size)++f).drop ((i+1)*size)).take ((i+1)*size))=xs.take (i*size)++h:=by
  rw[Wq (by omega),V0 (by omega)]
 have v:(xs.take (i*size)++h++(xs.take (i*size)++f).drop ((i+1)*size)).drop ((i+1+(n-i))*size)=[]:=by
  refine List.drop_eq_nil_of_le ?_;rw[VS,p,W5,VS,k,q];omega
 rw[y,v,WE];rfl
section
variable {P:Xc} {ops:Array X7} {Q:Exit->Act->D0->Prop} {md:XJ} {N:Nat} {C:D0->Prop}
def BW (P:Xc) (md:XJ) (ops:Array X7) (Q:Exit->Act->D0->Prop) (N:Nat) (C:D0->Prop):Nat->Array Bool->Act->D0->Prop
 | 0,f,a,w=>Wu md ops f=[]/\Q .normal a w
 | fuel+1,f,a,w=>
  (Wu md ops f=[]->Q .normal a w)/\
  ∀ i∈Wu md ops f,wpOp P ops Q i (fun h w'=>(i<N->C w')/\BW P md ops Q N C fuel (f.setIfInBounds i VJ) h w') a w
def qaq:∀ (fuel:Nat) (f:Array Bool) (a:Act) (w:D0),BW P md ops Q N C fuel f a w->wpAny P md ops Q fuel f a w
 | 0,_,_,_,h=>h
 | fuel+1,_,_,_,h=>⟨h.1,fun i k=>wpOp_mono (fun q w' p=>qaq fuel _ q w' p.2) (h.2 i k)⟩
def C6 (md:XJ) (ops:Array X7) (f:Array Bool) (i N:Nat):Bool:=
 (WS ops.size).all fun j=>j == i || f.getD j VJ || decide (j<N) || (match ops[j]? with|some o=>o.after.any fun e=>Xv md e && e.on == i|none=>VJ)
def qbl (h:C6 md ops f i N=VJ):∀ j p,ops[j]? = Bs p->j≠i->f.getD j VJ=Jx->(∀ e∈p.after,Xv md e=VJ->e.on≠i)->j<N:=fun j p y u hl q=>by
 have s:j<ops.size:=(Array.getElem?_eq_some_iff.1 y).1;have k:=List.all_eq_true.1 h j (List.mem_range.2 s);rw[y] at k;simp only[X8,beq_iff_eq,decide_eq_true_eq] at k;rcases k with ((k|k)|k)|k
 ·exact absurd k u
 ·rw[hl] at k;cases k
 ·exact k
 ·obtain⟨e,z,v⟩:=Array.any_eq_true'.1 k;simp only[Wj,beq_iff_eq] at v;exact absurd v.2 (q e z v.1)
def q87 {E:X7} (hi:ops[i]? = Bs E) (u:∀ (j:Nat) (o:X7) cs b,ops[j]? = Bs o->o.op≠.select cs b)
  (hQ:∀ c a w,Q (.panic c) (a.put E.dst v) w->Q (.panic c) a w) :
  ∀ (fuel:Nat) (f:Array Bool) (a:Act) (w:D0),
   (∀ j z,ops[j]? = Bs z->j≠i->f.getD j VJ=Jx->(∀ e∈z.after,Xv md e=VJ->e.on≠i)->E.apart ops z=VJ/\j<N)->
   i∈Wu md ops f->YieldsIf P ops C E v a->C w->
   BW P md ops Q N C fuel (f.setIfInBounds i VJ) (a.put E.dst v) w->BW P md ops Q N C (fuel+1) f a w:=by
 intro fuel;induction fuel with
 | zero=>
  intro f a w _ F W U H;refine⟨fun h=>(by rw[h] at F;cases F),fun j X=>?_⟩;by_cases p:j=i
  ·subst p;exact W.wpOp hi U ⟨fun _=>U,H⟩
  ·have:=ready_mono X p;rw[H.1] at this;cases this
 | succ fuel ih=>
  intro f a w q F W U H;refine⟨fun h=>(by rw[h] at F;cases F),fun j X=>?_⟩;by_cases p:j=i
  ·subst p;exact W.wpOp hi U ⟨fun _=>U,H⟩
  ·have I:=H.2 j (ready_mono X p);obtain⟨y,z,G,R⟩:=mem_ready.1 X;have M:∀ e∈z.after,Xv md e=VJ->e.on≠i:=fun e he hb a2=>by
    have I:=R e he hb;have h0:=(mem_ready.1 F).1;rw[a2] at I;rcases W7 i f.size with h'|h'
    ·simp[h'] at h0 I;rw[h0] at I;cases I
    ·simp[WW h'] at I
   obtain⟨a3,a1⟩:=q j z G p y M;have h2:=wpOp_putIf G a3 (fun cs b=>u i E cs b hi) (fun cs b=>u j z cs b G) hQ W I;have s:∀ k ok,ops[k]? = Bs ok->k≠i->(f.setIfInBounds j VJ).getD k VJ=Jx->
     (∀ e∈ok.after,Xv md e=VJ->e.on≠i)->E.apart ops ok=VJ/\k<N:=fun k ok hk a0 J Z=>by
    refine q k ok hk a0 ?_ Z;by_cases O:j=k
    ·subst O;exact y
    ·rw[getD_set_ne VJ O] at J;exact J
   refine wpOp_mono (fun a' w' Y=>⟨Y.2.1,ih (f.setIfInBounds j VJ) a' w' s (ready_mono F (Ne.symm p)) Y.1 (Y.2.1 a1) ?_⟩) h2;rw[Array.setIfInBounds_comm _ _ p];exact Y.2.2
def Ra (i:Nat) {k:X7} {fuel:Nat} {a:Act} {w:D0} (z:ops[i]? = Bs k)
  (hs:WY ops=VJ) (H:XD md ops f i=VJ) (hl:C6 md ops f i N=VJ) (G:(Wu md ops f).contains i=VJ)
  (I:∀ c a w,Q (.panic c) (a.put k.dst v) w->Q (.panic c) a w) (F:Ww k (XK ops a.tmps)=VJ) (J:C w)
  (E:∀ w,C w->(Yx a.eval k).run P w=.ok (.value v) w)
  (h:BW P md ops Q N C fuel (f.setIfInBounds i VJ) (a.put k.dst v) w):BW P md ops Q N C (fuel+1) f a w:=
 q87 z (Region.noSelect_spec hs) I fuel f a w (fun j u y s q p=>⟨Region.free_spec z H j u y s q p,qbl hl j u y s q p⟩) (by simpa using G) (.inl ⟨F,E⟩) J h
def B8 (i:Nat) {fuel:Nat} {a:Act} {w:D0} (y:ops[i]? = Bs s)
  (hs:WY ops=VJ) (F:XD md ops f i=VJ) (hl:C6 md ops f i N=VJ) (E:(Wu md ops f).contains i=VJ)
  (G:∀ c a w,Q (.panic c) (a.put s.dst Yq) w->Q (.panic c) a w) (z:Ww s (XK ops a.tmps)=Jx) (H:C w)
  (h:BW P md ops Q N C fuel (f.setIfInBounds i VJ) (a.put s.dst Yq) w):BW P md ops Q N C (fuel+1) f a w:=
 q87 y (Region.noSelect_spec hs) G fuel f a w (fun j u v q p k=>⟨Region.free_spec y F j u v q p k,qbl hl j u v q p k⟩) (by simpa using E) (.inr ⟨z,rfl⟩) H h
def U8 (i:Nat) {fuel:Nat} {a:Act} {w:D0} (p:Wu md ops f=[i]) (v:ops[i]? = Bs o)
  (u:Ww o (XK ops a.tmps)=VJ) (h:∀ k:Act->D0->Prop,(∀ a w,(i<N->C w)->BW P md ops Q N C fuel (f.setIfInBounds i VJ) a w->k a w)->YN P o a w k Q):BW P md ops Q N C (fuel+1) f a w:=
 ⟨(fun s=>by rw[p] at s;cases s),fun j q=>by
  rw[p] at q;obtain rfl:j=i:=by simpa using q
  exact wpOp_step v (fun k z=>by rw[if_pos u];exact h k (fun a w hs y=>z a w ⟨hs,y⟩))⟩
def ndone {a:Act} {w:D0} (i:Wu md ops f=[]) (h:Q .normal a w):∀ fuel,BW P md ops Q N C fuel f a w
 | 0=>⟨i,h⟩
 | _+1=>⟨fun _=>h,by rw[i];simp⟩
def SJ {fuel:Nat} {a:Act} {w:D0} (C:D0->Prop) (N:Nat) (h:BW P md ops Q N C fuel f a w):wpAny P md ops Q fuel f a w:=qaq fuel f a w h
def nC (i:Nat) {k:X7} {fuel:Nat} {a:Act} {w:D0} (u:ops[i]? = Bs k)
  (z:∀ c a w,Q (.panic c) (a.put k.dst v) w->Q (.panic c) a w) (E:C w) (p:∀ w,C w->(Yx a.eval k).run P w=.ok (.value v) w)
  (h:BW P md ops Q N C fuel (f.setIfInBounds i VJ) (a.put k.dst v) w)
  (hs:WY ops=VJ:=by kernel_rfl) (y:XD md ops f i=VJ:=by kernel_rfl) (hl:C6 md ops f i N=VJ:=by kernel_rfl) (s:(Wu md ops f).contains i=VJ:=by kernel_rfl)
  (q:Ww k (XK ops a.tmps)=VJ:=by kernel_rfl):BW P md ops Q N C (fuel+1) f a w:=Ra i u hs y hl s z q E p h
def nO (i:Nat) {fuel:Nat} {a:Act} {w:D0} (s:ops[i]? = Bs o)
  (h:∀ k:Act->D0->Prop,(∀ a w,(i<N->C w)->BW P md ops Q N C fuel (f.setIfInBounds i VJ) a w->k a w)->YN P o a w k Q) (q:Wu md ops f=[i]:=by kernel_rfl) (p:Ww o (XK ops a.tmps)=VJ:=by kernel_rfl) :
  BW P md ops Q N C (fuel+1) f a w:=U8 i q s p h
end
def CF {md:XJ} {ops:Array X7} {fuel:Nat} {a:Act} {w:D0} (C:D0->Prop) (N:Nat) (i:∀ c a (d:Nat) (v:O0) w,Q (.panic c) (Xl a (Bs d) v) w->Q (.panic c) a w)
  (h:(∀ c a (d:Nat) (v:O0) w,Q (.panic c) (Xl a (Bs d) v) w->Q (.panic c) a w)->BW P md ops Q N C fuel f a w):wpAny P md ops Q fuel f a w:=SJ C N (h i)
def SQ (w:D0) (H:Nat) (hH:w.heap.size=H) (W:Obj) {a:Act} (s x:Yy) (t:VV)
  (ho:o.op=.call { callee:=.builtin .append,args:=#[s,x],argTypes:=#[t,t] })
  (base:Nat) (e:VV) (z:O0) (size f:Nat) (ht:P.underlying t=Bs (.slice e)) (I:(P.info? e).map (fun i=>(i.zero,i.size,i.bytes))=Bs (Bs z,size,f)) (F:z.cells.size=size) (BD:0<size)
  (v:O0) (n:Nat) (xs:List O0) (p:Array O0) (hs:a.eval s=v) (E:w.ownsRow base e size v n xs)
  (c:Nat) (Z:a.eval x=.slice (Bs ⟨H,0,B0⟩) 1 c) (U:VV) (G:W=.cells p U) (Y:p.size=size) (h1:∀ u∈p.toList,u.oneCell'=VJ)
  (R:n+1<=Wo) (k:(n+1)*f<=140737488355328) (M:base<=w.heap.size)
  (h:∀ v' w',w'.ownsRow base e size v' (n+1) (xs++p.toList)->Av w w' v.ownBlock v'.ownBlock->K (a.put o.dst v') w') :
  o.wp P a (w.alloc W) K Q:=by
 obtain⟨i,I,X,q,J⟩:=Y1 I;subst G hH;have hr:DZ (w.alloc (.cells p U)) (w.heap.size+1) size (Bs ⟨w.heap.size,0,B0⟩) 1 p.toList:=(Rd.lit w p U 1 size (by omega)).reads;exact q6r _ s x t ho base e i z size f ht I X q J F BD v n xs hs (E.alloc _) (w.heap.size+1) _ 1 c p.toList Z hr h1 R k (by simp;omega)
  fun v' w' y hg O=>h v' w' y ((Av.alloc w _ _).trans (Av.bL hg O))
section
variable {P:Xc} {ops:Array X7} {Q:Exit->Act->D0->Prop} {md:XJ} {N:Nat} {C:D0->Prop}
def qaj (md:XJ) (ops:Array X7) (f:Array Bool) (i:Nat) (D:List Nat):Bool:=
 D.all fun k=>!(k == i) && (f.getD k VJ == Jx) && (match ops[k]? with|some o=>o.after.any fun e=>Xv md e && (e.on == i || D.contains e.on)|none=>Jx)
def Jw (md:XJ) (ops:Array X7) (f:Array Bool) (i N:Nat) (D:List Nat):Bool:=
 (WS ops.size).all fun j=>j == i || f.getD j VJ || decide (j<N) || D.contains j || (match ops[j]? with|some o=>o.after.any fun e=>Xv md e && e.on == i|none=>VJ)
def LG {D:List Nat} (h:Jw md ops f i N D=VJ):∀ j p,ops[j]? = Bs p->j≠i->f.getD j VJ=Jx->(∀ e∈p.after,Xv md e=VJ->e.on≠i)->j ∉ D->j<N:=fun j p y u hl q E=>by
 have s:j<ops.size:=(Array.getElem?_eq_some_iff.1 y).1;have k:=List.all_eq_true.1 h j (List.mem_range.2 s);rw[y] at k;simp only[X8,beq_iff_eq,decide_eq_true_eq] at k;rcases k with (((k|k)|k)|k)|k
 ·exact absurd k u
 ·rw[hl] at k;cases k
 ·exact k
 ·exact absurd (by simpa using k) E
 ·obtain⟨e,z,v⟩:=Array.any_eq_true'.1 k;simp only[Wj,beq_iff_eq] at v;exact absurd v.2 (q e z v.1)
def q6p {D:List Nat} (h:qaj md ops f i D=VJ):∀ k∈D,k≠i/\f.getD k VJ=Jx/\∃ o,ops[k]? = Bs o/\∃ e∈o.after,Xv md e=VJ/\(e.on=i\/e.on∈D):=fun k v=>by
 have s:=List.all_eq_true.1 h k v;simp only[Wj,beq_iff_eq,XE,beq_eq_false_iff_ne] at s;obtain⟨⟨E,z⟩,q⟩:=s;refine⟨E,z,?_⟩;split at q
 ·rename_i o u;obtain⟨e,y,p⟩:=Array.any_eq_true'.1 q;simp only[Wj,X8,beq_iff_eq] at p;exact⟨o,u,e,y,p.1,p.2.imp id (fun h=>by simpa using h)⟩
 ·cases q
def qbz {I:X7} (D:List Nat) (hi:ops[i]? = Bs I) (E:∀ (j:Nat) (o:X7) cs b,ops[j]? = Bs o->o.op≠.select cs b)
  (hQ:∀ c a w,Q (.panic c) (a.put I.dst v) w->Q (.panic c) a w) (a5:∀ k∈D,∃ o,ops[k]? = Bs o/\∃ e∈o.after,Xv md e=VJ/\(e.on=i\/e.on∈D)) :
  ∀ (fuel:Nat) (f:Array Bool) (a:Act) (w:D0),
   (∀ j z,ops[j]? = Bs z->j≠i->f.getD j VJ=Jx->(∀ e∈z.after,Xv md e=VJ->e.on≠i)->I.apart ops z=VJ/\(j ∉ D->j<N))->
   (∀ k∈D,k≠i/\f.getD k VJ=Jx)->
   i∈Wu md ops f->YieldsIf P ops C I v a->C w->
   BW P md ops Q N C fuel (f.setIfInBounds i VJ) (a.put I.dst v) w->BW P md ops Q N C (fuel+1) f a w:=by
 intro fuel;induction fuel with
 | zero=>
  intro f a w _ _ J hy Y H;refine⟨fun h=>(by rw[h] at J;cases J),fun j hj=>?_⟩;by_cases p:j=i
  ·subst p;exact hy.wpOp hi Y ⟨fun _=>Y,H⟩
  ·have:=ready_mono hj p;rw[H.1] at this;cases this
 | succ fuel ih=>
  intro f a w s M J hy Y H;refine⟨fun h=>(by rw[h] at J;cases J),fun j hj=>?_⟩;by_cases p:j=i
  ·subst p;exact hy.wpOp hi Y ⟨fun _=>Y,H⟩
  ·have O:=H.2 j (ready_mono hj p);obtain⟨G,z,u,X⟩:=mem_ready.1 hj;have q:∀ x,f.getD x VJ=Jx->∀ e∈z.after,Xv md e=VJ->e.on≠x:=fun x h0 e he hb a3=>by
    have O:=X e he hb;rw[a3] at O;rcases W7 x f.size with h'|h'
    ·simp[h'] at h0 O;rw[h0] at O;cases O
    ·simp[WW h'] at O
   have F:∀ e∈z.after,Xv md e=VJ->e.on≠i:=q i (mem_ready.1 J).1;have W:j ∉ D:=fun hD=>by
    obtain⟨o,ho,e,he,hb,h⟩:=a5 j hD;rw[u] at ho;obtain rfl:=WR ho;rcases h with h|h
    ·exact F e he hb h
    ·exact q _ (M _ h).2 e he hb rfl
   obtain⟨a4,a2⟩:=s j z u p G F;have h2:=wpOp_putIf u a4 (fun cs b=>E i I cs b hi) (fun cs b=>E j z cs b u) hQ hy O;have y:∀ k ok,ops[k]? = Bs ok->k≠i->(f.setIfInBounds j VJ).getD k VJ=Jx->
     (∀ e∈ok.after,Xv md e=VJ->e.on≠i)->I.apart ops ok=VJ/\(k ∉ D->k<N):=fun k ok R a1 q a0=>by
    refine s k ok R a1 ?_ a0;by_cases U:j=k
    ·subst U;exact G
    ·rw[getD_set_ne VJ U] at q;exact q
   have Z:∀ k∈D,k≠i/\(f.setIfInBounds j VJ).getD k VJ=Jx:=fun k R=>by
    refine⟨(M k R).1,?_⟩;rw[getD_set_ne VJ (fun e:j=k=>W (e▸R))];exact(M k R).2
   refine wpOp_mono (fun a' w' h3=>⟨h3.2.1,ih (f.setIfInBounds j VJ) a' w' y Z (ready_mono J (Ne.symm p)) h3.1 (h3.2.1 (a2 W)) ?_⟩) h2;rw[Array.setIfInBounds_comm _ _ p];exact h3.2.2
def ntakeD (i:Nat) (D:List Nat) {p:X7} {fuel:Nat} {a:Act} {w:D0} (G:ops[i]? = Bs p)
  (hs:WY ops=VJ) (M:XD md ops f i=VJ) (z:qaj md ops f i D=VJ) (hl:Jw md ops f i N D=VJ) (J:(Wu md ops f).contains i=VJ)
  (O:∀ c a w,Q (.panic c) (a.put p.dst v) w->Q (.panic c) a w) (I:Ww p (XK ops a.tmps)=VJ) (R:C w)
  (H:∀ w,C w->(Yx a.eval p).run P w=.ok (.value v) w)
  (h:BW P md ops Q N C fuel (f.setIfInBounds i VJ) (a.put p.dst v) w):BW P md ops Q N C (fuel+1) f a w:=
 qbz D G (Region.noSelect_spec hs) O (fun k y=>(q6p z k y).2.2) fuel f a w (fun j E F u s q=>⟨Region.free_spec G M j E F u s q,LG hl j E F u s q⟩)
  (fun k y=>⟨(q6p z k y).1,(q6p z k y).2.1⟩) (by simpa using J) (.inl ⟨I,H⟩) R h
end
section
variable {P:Xc} {md:XJ} {ops:Array X7} {Q:Exit->Act->D0->Prop} {N:Nat} {C:D0->Prop}
def Q9 (i:Nat) {d:Nat} {k:X7} {fuel:Nat} {a:Act} {w:D0} (y:ops[i]? = Bs k) (p:k.dst=Bs d)
  (hs:WY ops=VJ) (z:XD md ops f i=VJ) (hl:C6 md ops f i N=VJ) (u:(Wu md ops f).contains i=VJ)
  (E:∀ c a w,Q (.panic c) (Xl a (Bs d) v) w->Q (.panic c) a w) (s:Ww k (XK ops a.tmps)=VJ) (F:C w)
  (q:∀ w,C w->(Yx a.eval k).run P w=.ok (.value v) w)
  (h:BW P md ops Q N C fuel (f.setIfInBounds i VJ) (a.put (Bs d) v) w):BW P md ops Q N C (fuel+1) f a w:=
 Ra i y hs z hl u (by rw[p];exact E) s F q (by rw[p];exact h)
def Rb (i:Nat) {d:Nat} {k:X7} {fuel:Nat} {a:Act} {w:D0} (u:ops[i]? = Bs k) (p:k.dst=Bs d)
  (hs:WY ops=VJ) (v:XD md ops f i=VJ) (hl:C6 md ops f i N=VJ) (s:(Wu md ops f).contains i=VJ)
  (y:∀ c a w,Q (.panic c) (Xl a (Bs d) Yq) w->Q (.panic c) a w) (q:Ww k (XK ops a.tmps)=Jx) (z:C w)
  (h:BW P md ops Q N C fuel (f.setIfInBounds i VJ) (a.put (Bs d) Yq) w):BW P md ops Q N C (fuel+1) f a w:=
 B8 i u hs v hl s (by rw[p];exact y) q z (by rw[p];exact h)
def MV (i:Nat) (D:List Nat) {d:Nat} {k:X7} {fuel:Nat} {a:Act} {w:D0} (y:ops[i]? = Bs k) (p:k.dst=Bs d)
  (hs:WY ops=VJ) (z:XD md ops f i=VJ) (E:qaj md ops f i D=VJ) (hl:Jw md ops f i N D=VJ) (u:(Wu md ops f).contains i=VJ)
  (F:∀ c a w,Q (.panic c) (Xl a (Bs d) v) w->Q (.panic c) a w) (s:Ww k (XK ops a.tmps)=VJ) (G:C w)
  (q:∀ w,C w->(Yx a.eval k).run P w=.ok (.value v) w)
  (h:BW P md ops Q N C fuel (f.setIfInBounds i VJ) (a.put (Bs d) v) w):BW P md ops Q N C (fuel+1) f a w:=
 ntakeD i D y hs z E hl u (by rw[p];exact F) s G q (by rw[p];exact h)
def nB (i:Nat) {d:Nat} {k:X7} {fuel:Nat} {a:Act} {w:D0} (u:ops[i]? = Bs k) (z:k.dst=Bs d)
  (E:∀ c a (d:Nat) (v:O0) w,Q (.panic c) (Xl a (Bs d) v) w->Q (.panic c) a w) (F:C w) (p:∀ w,C w->(Yx a.eval k).run P w=.ok (.value v) w)
  (h:BW P md ops Q N C fuel (f.setIfInBounds i VJ) (a.put (Bs d) v) w)
  (hs:WY ops=VJ:=by kernel_rfl) (y:XD md ops f i=VJ:=by kernel_rfl) (hl:C6 md ops f i N=VJ:=by kernel_rfl) (s:(Wu md ops f).contains i=VJ:=by kernel_rfl)
  (q:Ww k (XK ops a.tmps)=VJ:=by kernel_rfl):BW P md ops Q N C (fuel+1) f a w:=Q9 i u z hs y hl s (fun c a w=>E c a d v w) q F p h
def nS (i:Nat) {d:Nat} {k:X7} {fuel:Nat} {a:Act} {w:D0} (s:ops[i]? = Bs k) (y:k.dst=Bs d)
  (z:∀ c a (d:Nat) (v:O0) w,Q (.panic c) (Xl a (Bs d) v) w->Q (.panic c) a w) (E:C w)
  (h:BW P md ops Q N C fuel (f.setIfInBounds i VJ) (a.put (Bs d) Yq) w)
  (hs:WY ops=VJ:=by kernel_rfl) (u:XD md ops f i=VJ:=by kernel_rfl) (hl:C6 md ops f i N=VJ:=by kernel_rfl) (q:(Wu md ops f).contains i=VJ:=by kernel_rfl)
  (p:Ww k (XK ops a.tmps)=Jx:=by kernel_rfl):BW P md ops Q N C (fuel+1) f a w:=Rb i s y hs u hl q (fun c a w=>z c a d Yq w) p E h
def nA (i:Nat) (D:List Nat) {d:Nat} {k:X7} {fuel:Nat} {a:Act} {w:D0} (u:ops[i]? = Bs k) (z:k.dst=Bs d)
  (F:∀ c a (d:Nat) (v:O0) w,Q (.panic c) (Xl a (Bs d) v) w->Q (.panic c) a w) (G:C w) (p:∀ w,C w->(Yx a.eval k).run P w=.ok (.value v) w)
  (h:BW P md ops Q N C fuel (f.setIfInBounds i VJ) (a.put (Bs d) v) w)
  (hs:WY ops=VJ:=by kernel_rfl) (y:XD md ops f i=VJ:=by kernel_rfl) (E:qaj md ops f i D=VJ:=by kernel_rfl) (hl:Jw md ops f i N D=VJ:=by kernel_rfl) (s:(Wu md ops f).contains i=VJ:=by kernel_rfl)
  (q:Ww k (XK ops a.tmps)=VJ:=by kernel_rfl):BW P md ops Q N C (fuel+1) f a w:=MV i D u z hs y E hl s (fun c a w=>F c a d v w) q G p h
def nD (i:Nat) (D:List Nat) {d:Nat} {k:X7} {fuel:Nat} {a:Act} {w:D0}
  (F:∀ c a (d:Nat) (v:O0) w,Q (.panic c) (Xl a (Bs d) v) w->Q (.panic c) a w) (G:C w)
  (h:BW P md ops Q N C fuel (f.setIfInBounds i VJ) (a.put (Bs d) v) w) (u:ops[i]? = Bs k:=by rfl) (z:k.dst=Bs d:=by rfl) (p:∀ w,C w->(Yx a.eval k).run P w=.ok (.value v) w:=by intros;go_simp;rfl)
  (hs:WY ops=VJ:=by kernel_rfl) (y:XD md ops f i=VJ:=by kernel_rfl) (E:qaj md ops f i D=VJ:=by kernel_rfl) (hl:Jw md ops f i N D=VJ:=by kernel_rfl) (s:(Wu md ops f).contains i=VJ:=by kernel_rfl)
  (q:Ww k (XK ops a.tmps)=VJ:=by kernel_rfl):BW P md ops Q N C (fuel+1) f a w:=MV i D u z hs y E hl s (fun c a w=>F c a d v w) q G p h
def nF (i:Nat) {d:Nat} {k:X7} {fuel:Nat} {a:Act} {w:D0}
  (E:∀ c a (d:Nat) (v:O0) w,Q (.panic c) (Xl a (Bs d) v) w->Q (.panic c) a w) (F:C w)
  (h:BW P md ops Q N C fuel (f.setIfInBounds i VJ) (a.put (Bs d) v) w) (u:ops[i]? = Bs k:=by rfl) (z:k.dst=Bs d:=by rfl) (p:∀ w,C w->(Yx a.eval k).run P w=.ok (.value v) w:=by intros;go_simp;rfl)
  (hs:WY ops=VJ:=by kernel_rfl) (y:XD md ops f i=VJ:=by kernel_rfl) (hl:C6 md ops f i N=VJ:=by kernel_rfl) (s:(Wu md ops f).contains i=VJ:=by kernel_rfl)
  (q:Ww k (XK ops a.tmps)=VJ:=by kernel_rfl):BW P md ops Q N C (fuel+1) f a w:=Q9 i u z hs y hl s (fun c a w=>E c a d v w) q F p h
def nT (i:Nat) {d:Nat} {k:X7} {fuel:Nat} {a:Act} {w:D0}
  (z:∀ c a (d:Nat) (v:O0) w,Q (.panic c) (Xl a (Bs d) v) w->Q (.panic c) a w) (E:C w)
  (h:BW P md ops Q N C fuel (f.setIfInBounds i VJ) (a.put (Bs d) Yq) w) (s:ops[i]? = Bs k:=by rfl) (y:k.dst=Bs d:=by rfl)
  (hs:WY ops=VJ:=by kernel_rfl) (u:XD md ops f i=VJ:=by kernel_rfl) (hl:C6 md ops f i N=VJ:=by kernel_rfl) (q:(Wu md ops f).contains i=VJ:=by kernel_rfl)
  (p:Ww k (XK ops a.tmps)=Jx:=by kernel_rfl):BW P md ops Q N C (fuel+1) f a w:=Rb i s y hs u hl q (fun c a w=>z c a d Yq w) p E h
def nE (i:Nat) {k:X7} {fuel:Nat} {a:Act} {w:D0} (E:C w)
  (h:BW P md ops Q N C fuel (f.setIfInBounds i VJ) (a.put k.dst v) w) (u:ops[i]? = Bs k:=by rfl)
  (z:∀ c a w,Q (.panic c) (a.put k.dst v) w->Q (.panic c) a w:=by intros;assumption) (p:∀ w,C w->(Yx a.eval k).run P w=.ok (.value v) w:=by intros;go_simp;rfl)
  (hs:WY ops=VJ:=by kernel_rfl) (y:XD md ops f i=VJ:=by kernel_rfl) (hl:C6 md ops f i N=VJ:=by kernel_rfl) (s:(Wu md ops f).contains i=VJ:=by kernel_rfl)
  (q:Ww k (XK ops a.tmps)=VJ:=by kernel_rfl):BW P md ops Q N C (fuel+1) f a w:=Ra i u hs y hl s z q E p h
def nG (i:Nat) {fuel:Nat} {a:Act} {w:D0}
  (h:∀ k:Act->D0->Prop,(∀ a w,(i<N->C w)->BW P md ops Q N C fuel (f.setIfInBounds i VJ) a w->k a w)->YN P o a w k Q) (s:ops[i]? = Bs o:=by rfl) (q:Wu md ops f=[i]:=by kernel_rfl) (p:Ww o (XK ops a.tmps)=VJ:=by kernel_rfl) :
  BW P md ops Q N C (fuel+1) f a w:=U8 i q s p h
def nX {fuel:Nat} {a:Act} {w:D0} (h:Q .normal a w) (i:Wu md ops f=[]:=by kernel_rfl):BW P md ops Q N C fuel f a w:=ndone i h fuel
def nW {id:Nat} {a:Act} {w:D0} (h:wpAny P .any ops Q ops.size (Array.replicate ops.size Jx) a w.drew) (f:P.follows .mixedOrders=VJ:=by kernel_rfl):(Code.region id ops VJ).wp P Q a w:=wp_region_any f h
def nZ {p:Prop} (h:¬p:=by decide):p->q:=fun a=>absurd a h
end
structure Nd where
 id:Int
 aa:Int
 nodes:List Int
 at_:Int
 log:List Cm
 an:Int
def Vo:Cm:=⟨0,0,0,[]⟩
def Nd.head (d:Nd):Bool:=d.at_ == 0
def Nd.tail (d:Nd):Bool:=decide (d.at_>=0) && d.at_ == (d.nodes.length:Int)-1
def Nd.a4 (d:Nd) (b:Int):Int:=(d.nodes[(d.at_+b).toNat]?).getD 0
def Nd.msg (d:Nd) (kind b k:Int):Ms:=⟨kind,d.id,d.a4 b,d.aa,k,Vo⟩
def Nd.forward (d:Nd) (k:Nat):Ms:=⟨3,d.id,d.a4 1,d.aa,k,(d.log[k]?).getD Vo⟩
def Nd.tick (d:Nd):Nd×List Ms:=
 if d.at_<0 then(d,[]) else if d.tail then({ d with an:=d.log.length },if d.at_ > 0 then [d.msg 4 (-1) d.log.length] else []) else(d,[d.msg 1 1 d.log.length])
def Nd.push (d:Nd) (c:Cm):Nd:={ d with log:=d.log++[c] }
def Nd.grow (d:Nd) (c:Cm):Nd×List Ms:=if d.tail then(d.push c).tick else(d.push c,[(d.push c).forward d.log.length])
def Nd.add (d:Nd) (c:Cm) (b:Bool):(Nd×List Ms)×Int×Int:=
 if !d.head then((d,[]),0,6) else if d.log.length=500 then((d,[]),0,4) else(d.grow c,if b then d.log.length+1 else d.log.length,0)
def Nd.step (d:Nd) (m:Ms):Nd×List Ms:=
 if d.at_<0\/m.aa≠d.aa\/m.a4≠d.id then(d,[]) else
 let f:=decide (d.at_ > 0) && m.from_ == d.a4 (-1)
 let next:=!d.tail && m.from_ == d.a4 1
 if m.ai=1/\f=VJ then(d,[d.msg 2 (-1) d.log.length]) else
 if m.ai=2/\next=VJ/\0<=m.n then(d,(Wh m.n.toNat (d.log.length-m.n.toNat)).map d.forward) else
 if m.ai=3/\f=VJ/\m.n=d.log.length/\m.n<500 then d.grow m.cmd else
 if m.ai=4/\next=VJ/\0<=m.n/\m.n<=d.log.length then
  ({ d with an:=max d.an m.n },if d.at_ > 0 then [d.msg 4 (-1) (max d.an m.n)] else []) else(d,[])
def EF (w:D0) (base:Nat) (x:By):Prop:=w.ownsRow base 45 3 (.slice x.A x.n x.k) x.n (x.c.ad.flatMap CR)/\x.c.ad.length=x.n/\x.n<=100000
structure BI (w:D0) (base g:Nat) (C V:O0) (L:List By) (d:Nd):Prop where
 ak:Ae w g 150 #[.int .i64 d.id,.int .i64 d.aa,C,.int .i64 d.at_,V,.int .i64 d.an]
 b7:w.ownsRow base 3 1 C d.nodes.length (d.nodes.map (Wp .i64))
 row:w.ownsRow base 69 4 V L.length (L.flatMap DM)
 own:∀ x∈L,EF w base x
 log:AM L=d.log
 len:L.length<=500
 br:d.nodes.length<=6
 at0:-1<=d.at_
 ck:d.at_<d.nodes.length
 st0:0<=d.an
 b3:d.an<=500
 lo:base<=g
def CC (g:Nat) (C V:O0) (L:List By) (b:Nat):Prop:=b=g\/C.ownBlock=Bs b\/V.ownBlock=Bs b\/∃ x∈L,(WM x.A x.n x.k).ownBlock=Bs b
section
variable {w w':D0} {base g:Nat} {C V:O0} {L:List By} {d:Nd}
def BI.fr (h:BI w base g C V L d) (k:Fr S w w') (i:∀ b,CC g C V L b->¬S b):BI w' base g C V L d:=
 ⟨k.ak h.ak (i g (.inl rfl)),k.own h.b7 (fun b f=>i b (.inr (.inl f))),k.own h.row (fun b f=>i b (.inr (.inr (.inl f)))),
  fun x p=>⟨k.own (h.own x p).1 (fun b f=>i b (.inr (.inr (.inr ⟨x,p,f⟩)))),(h.own x p).2⟩,h.log,h.len,h.br,h.at0,h.ck,h.st0,h.b3,h.lo⟩
def BI.aw (h:BI w base g C V L d) {b:Nat} (f:CC g C V L b):base<=b/\b<w.heap.size:=by
 rcases f with rfl|f|f|⟨x,i,f⟩
 ·exact⟨h.lo,h.ak.lt⟩
 ·exact h.b7.lt b f
 ·exact h.row.lt b f
 ·exact(h.own x i).1.lt b f
def BI.aC (h:BI w base g C V L d) (f:VP w.heap.size w w'):BI w' base g C V L d:=
 h.fr (S:=fun b=>w.heap.size<=b) ⟨f.os,f.tape,f.output,f.size,fun i _ p=>f.block i (by omega)⟩ (fun b k q=>by have:=(h.aw k).2;omega)
def BI.cells (h:BI w base g C V L d):w.cell? ⟨g,0,B0⟩=Bs (.int .i64 d.id)/\w.cell? ⟨g,1,B0⟩=Bs (.int .i64 d.aa)/\w.cell? ⟨g,2,B0⟩=Bs C/\w.cell? ⟨g,3,B0⟩=Bs (.int .i64 d.at_)/\w.cell? ⟨g,4,B0⟩=Bs V/\w.cell? ⟨g,5,B0⟩=Bs (.int .i64 d.an)/\g<w.heap.size:=by
 have s:=h.ak.cell 0;have q:=h.ak.cell 1;have p:=h.ak.cell 2;have k:=h.ak.cell 3;have i:=h.ak.cell 4;have f:=h.ak.cell 5;simp only[Hi,Ft,N2] at s q p k i f;exact⟨s,q,p,k,i,f,h.ak.lt⟩
def BI.bA (h:BI w base g C V L d):d.log.length=L.length:=by rw[<- h.log];simp[AM]
def BI.dw (h:BI w base g C V L d):∃ A c,C=.slice A d.nodes.length c:=by obtain⟨A,c,e,_⟩:=AR h.b7;exact⟨A,c,e⟩
def BI.cF (h:BI w base g C V L d):∃ A c,V=.slice A L.length c:=by obtain⟨A,c,e,_⟩:=AR h.row;exact⟨A,c,e⟩
def LP (h:BI w base g C V L d):VY Tryz.prog 74 #[.pointer (Bs ⟨g,0,B0⟩)] w fun e w'=>e=.returned (.int .i64 d.id)/\w=w':=by
 obtain⟨i,_,_,_,_,_,f⟩:=h.cells;clear h;go_enter Tryz.func74,Tryz.ntmps74;go_wp2_with fail;go_ret;exact⟨rfl,rfl⟩
def qct (h:BI w base g C V L d):VY Tryz.prog 57 #[.pointer (Bs ⟨g,0,B0⟩)] w fun e w'=>e=.returned (.bool d.head)/\w=w':=by
 obtain⟨_,_,_,i,_,_,f⟩:=h.cells;clear h;unfold Nd.head;go_enter Tryz.func57,Tryz.ntmps57;go_wp2_with fail;go_ret;exact⟨rfl,rfl⟩
def qb5 (h:BI w base g C V L d):VY Tryz.prog 96 #[.pointer (Bs ⟨g,0,B0⟩)] w fun e w'=>e=.returned (.int .i64 d.an)/\w=w':=by
 obtain⟨_,_,_,_,_,i,f⟩:=h.cells;clear h;go_enter Tryz.func96,Tryz.ntmps96;go_wp2_with fail;go_ret;exact⟨rfl,rfl⟩
def Qi (h:BI w base g C V L d):VY Tryz.prog 58 #[.pointer (Bs ⟨g,0,B0⟩)] w fun e w'=>e=.returned (.bool d.tail)/\∃ m,w'=w.drewN m:=by
 obtain⟨_,_,y,v,_,_,q⟩:=h.cells;obtain⟨A,c,rfl⟩:=h.dw;have u:=h.br;have f:d.tail=(decide (d.at_>=0) && d.at_ == (d.nodes.length:Int)-1):=rfl;have k:=LH f;clear f h;generalize d.nodes.length=n at *;generalize d.at_=a at *;by_cases i:a>=0
 ·go_enter Tryz.func58,Tryz.ntmps58;go_wp2_with fail;have p:decide (0<=a)=VJ:=decide_eq_true i;have s:IntKind.i64.wrap ((n:Int)-1)=(n:Int)-1:=V4 _ ⟨by omega,by omega⟩;go_quiet (fail);go_wp2_with fail;go_ret;rw[k.o,decide_eq_true i];exact⟨rfl,_,rfl⟩
 ·go_enter Tryz.func58,Tryz.ntmps58;go_wp2_with fail;have p:decide (0<=a)=Jx:=decide_eq_false (by omega);go_quiet (fail);go_wp2_with fail;go_ret;rw[k.o,decide_eq_false (by omega)];exact⟨rfl,_,rfl⟩
def q8i (h:BI w base g C V L d):VY Tryz.prog 58 #[.pointer (Bs ⟨g,0,B0⟩)] w fun e w'=>e=.returned (.bool d.tail)/\VP w.heap.size w w':=
 (Qi h).mono fun e w' ⟨i,m,f⟩=>⟨i,by rw[f];exact Ck (VK _ _) _⟩
end
def q75:(Tryz.prog.info? 116).map (fun i=>(i.zero,i.size,i.bytes))=Bs (Bs (.agg #[.int .i64 0,.int .i64 0,.int .i64 0,.int .i64 0,.int .i64 0,.int .i64 0,.int .i64 0,.int .i64 0,.slice B0 0 0]),9,88):=by kernel_rfl
section
variable {w w':D0} {base g off nd:Nat} {T:VV} {cs:Array O0} {V:O0} {D:Option Nat} {L:List AS} {dead:Int->Bool} {lost:Int}
def AJ.fr {S:Nat->Prop} (h:AJ w base g off T cs V D nd L dead lost) (f:Fr S w w') (p:¬S g) (q:∀ b,V.ownBlock=Bs b->¬S b) (s:∀ b,D=Bs b->¬S b) (hP:∀ b t cs,Ae w b t cs->t=45->¬S b):AJ w' base g off T cs V D nd L dead lost:=
 ⟨f.ak h.ak p,h.c0,h.c1,h.c2,f.own h.row q,fun x k=>⟨f.own (h.own x k).1 (fun b i e=>by
  rcases(h.own x k).1.2 with ⟨hv,_⟩|⟨g',cap,cur,hv,_,hh,_⟩
  ·rw[hv] at i;simp[Wc] at i
  ·rw[hv] at i;have u:g'=b:=by simpa [Wc] using i
   subst u;exact hP g' _ _ hh rfl e),(h.own x k).2⟩,h.down.fr f s,h.len,h.ne,VO h.bg f.size⟩
def AJ.vlt (h:AJ w base g off T cs V D nd L dead lost) {b:Nat} (f:V.ownBlock=Bs b):b<w.heap.size:=(h.row.lt b f).2
end
def Kb (base g off nd:Nat) (T:VV) (cs:Array O0) (V:O0) (D:Option Nat) (L:List AS) (dead:Int->Bool) (lost:Int) (l:List AS) (w:D0) (e:WC) (w':D0):Prop:=
 ∃ V' L' lost' d,e=.returned (.int .i64 d)/\(∀ x∈L',x∈L\/Ke w.heap.size x)/\AJ w' base g off T ((cs.setIfInBounds off V').setIfInBounds (off+2) (.int .i64 lost')) V' D nd L' dead lost'/\Em ⟨AF L,dead⟩ (AF l)=⟨AF L',dead⟩/\Fr (BO g V D) w w'/\(V'.ownBlock=V.ownBlock\/∃ b,V'.ownBlock=Bs b/\w.heap.size<=b)
def Hw (base g off nd:Nat) (T:VV) (cs:Array O0) (V:O0) (D:Option Nat) (L:List AS) (dead:Int->Bool) (lost:Int) (l:List AS) (n:Nat) (w:D0) (i c:O0) (wr:D0):Prop:=
 ∃ (j k:Nat) (V':O0) (L':List AS),i=.int .i64 j/\c=.int .i64 k/\j<=n/\k<=j/\(∀ x∈L',x∈L\/Ke w.heap.size x)/\AJ wr base g off T (cs.setIfInBounds off V') V' D nd L' dead lost/\Em ⟨AF L,dead⟩ (AF (l.take j))=⟨AF L',dead⟩/\Fr (BO g V D) w wr/\(V'.ownBlock=V.ownBlock\/∃ b,V'.ownBlock=Bs b/\w.heap.size<=b)
section
variable {w wr w2:D0} {base g off nd n:Nat} {T:VV} {cs:Array O0} {V V':O0} {D:Option Nat} {L L':List AS} {dead:Int->Bool} {lost:Int} {l:List AS} {j kk:Nat} {x:AS}
def FV (f:l[j]? = Bs x):AF (l.take (j+1))=AF (l.take j)++[x.m]:=by
 rw[VX,f];simp[AF]
def q9g (i:∀ x∈L',x∈L\/Ke w.heap.size x) (hI:AJ wr base g off T (cs.setIfInBounds off V') V' D nd L' dead lost) (hs:Em ⟨AF L,dead⟩ (AF (l.take j))=⟨AF L',dead⟩) (s:Fr (BO g V D) w wr)
  (u:V'.ownBlock=V.ownBlock\/∃ b,V'.ownBlock=Bs b/\w.heap.size<=b) (p:l[j]? = Bs x) (q:j<n) (v:kk<=j) (f:Cg ⟨AF L',dead⟩ x.m=VJ) (k:Fr (fun _=>False) wr w2) :
  Hw base g off nd T cs V D L dead lost l n w (.int .i64 ((j:Int)+1)) (.int .i64 ((kk:Int)+1)) w2:=
 ⟨j+1,kk+1,V',L',rfl,rfl,q,by omega,i,hI.fr k (fun h=>h) (fun _ _ h=>h) (fun _ _ h=>h) (fun _ _ _ _ _ h=>h),by
  rw[FV p,q9e,hs];unfold AN;rw[f,if_pos rfl],s.trans' k (fun _ _ h=>h.elim),u⟩
end
def q4s (cs:Array O0) (i:Nat) (u v:O0):(cs.setIfInBounds i u).setIfInBounds i v=cs.setIfInBounds i v:=by
 ext k h1 h2
 ·simp
 ·by_cases h:i=k <;> simp[h]
def q5x {cs:Array O0} (h:cs[i]? = Bs v):cs.setIfInBounds i v=cs:=by
 ext k h1 h2
 ·simp
 ·by_cases e:i=k
  ·subst e;rw[Array.getElem?_eq_getElem h2] at h;rw[Array.getElem_setIfInBounds_self];exact(WR h).symm
  ·exact Array.getElem_setIfInBounds_ne h2 e
section
variable {w wr w2 w4:D0} {base g off nd n:Nat} {T:VV} {cs:Array O0} {V V' V2:O0} {D:Option Nat} {L L':List AS} {dead:Int->Bool} {lost:Int} {l:List AS} {j kk:Nat} {x x2:AS}
def QB (U:∀ x∈L',x∈L\/Ke w.heap.size x) (X:Ke w.heap.size x2) (hI:AJ wr base g off T (cs.setIfInBounds off V') V' D nd L' dead lost) (hs:Em ⟨AF L,dead⟩ (AF (l.take j))=⟨AF L',dead⟩) (Z:Fr (BO g V D) w wr)
  (O:V'.ownBlock=V.ownBlock\/∃ b,V'.ownBlock=Bs b/\w.heap.size<=b) (hx:l[j]? = Bs x) (hj:j<n) (hk:kk<=j) (z:Cg ⟨AF L',dead⟩ x.m=Jx)
  (h3:Fr (fun k=>wr.heap.size<=k) wr w2) (R:x2.m=x.m) (H:DR w2 base x2) (G:Av w2 w4 V'.ownBlock V2.ownBlock) (E:w4.ownsRow base 116 9 V2 (L'.length+1) (L'.flatMap Ct++Ct x2)) :
  Hw base g off nd T cs V D L dead lost l n w (.int .i64 ((j:Int)+1)) (.int .i64 (kk:Int)) (w4.setCell ⟨g,off,B0⟩ V2):=by
 have f:AJ w2 base g off T (cs.setIfInBounds off V') V' D nd L' dead lost:=hI.fr h3 (fun h=>by have:=hI.ak.lt;omega) (fun b p h=>by have:=hI.vlt p;omega) (fun b p h=>by have:=hI.down;rw[p] at this;have:=this.lt;omega) (fun b t cs p _ h=>by have:=p.lt;omega);have I:off<cs.size:=by have:=hI.c0;rw[Array.getElem?_setIfInBounds_self] at this;split at this <;> simp_all
 have Y:¬Bs g=V'.ownBlock:=fun e=>Bh f.row f.ak (fun e=>hI.ne.1 e.symm) e.symm
 have F:Ae w4 g T (cs.setIfInBounds off V'):=G.1.ak f.ak Y;have q:Fr (fun k=>k=g) w4 (w4.setCell ⟨g,off,B0⟩ V2):=Fr.a6 g w4 off V2;have M:=F.aH off V2;rw[q4s] at M;have W:∀ b v m xs,w4.ownsRow base 45 3 v m xs->v.ownBlock=Bs b->¬b=g:=fun b v m xs ho p e=>by subst e;exact Bh ho F (fun e=>hI.ne.2 e.symm) p
 have u:∀ y,DR w2 base y->DR (w4.setCell ⟨g,off,B0⟩ V2) base y:=fun y s=>by
  have h4:=G.1.own s.1 (fun b p e=>ES s.1 f.row (by decide) p e.symm);exact⟨q.own h4 (fun b p e=>W b _ _ _ h4 p e),s.2⟩
 refine⟨j+1,kk,V2,L'++[x2],rfl,rfl,hj,by omega,(fun y s=>(List.mem_append.1 s).elim (U y) (fun h=>.inr (by rw[List.mem_singleton.1 h];exact X))),⟨M,?_,?_,?_,?_,fun y s=>?_,?_,?_,hI.ne,?_⟩,?_,?_,?_⟩
 ·simp[I]
 ·have:=hI.c1
  rwa [Wi (by omega)] at this ⊢
 ·have:=hI.c2
  rwa [Wi (by omega)] at this ⊢
 ·rw[VS,WG,List.flatMap_singleton];exact q.own E (fun b p e=>by subst e;exact Bh E F (fun e=>hI.ne.1 e.symm) p)
 ·rcases List.mem_append.1 s with s|s
  ·exact u y (f.own y s)
  ·rw[List.mem_singleton.1 s];exact u x2 H
 ·refine(f.down.fr G.1 (fun b p e=>?_)).fr q (fun b p e=>?_)
  ·exact f.down.aL f.row p e.symm
  ·subst e;exact f.down.aB f.ak p
 ·unfold Cg at z;simp only[Bool.or_eq_false_iff,decide_eq_false_iff_not] at z;have h1:=hI.len;have h2:=z.2;simp[AF] at h2 ⊢;omega
 ·exact VO f.bg (VO G.1.size q.size)
 ·rw[FV hx,q9e,hs];unfold AN;rw[z,if_neg (by simp)];simp[AF,R]
 ·refine(Z.trans' h3 (fun i hi h=>?_)).trans' ((G.1.mono (T:=fun k=>Bs k=V'.ownBlock\/k=g) (fun i _ h=>.inl h)).trans' q (fun i _ h=>.inr h)) (fun i hi h=>?_)
  ·have:=Z.size;omega
  ·rcases h with h|h
   ·rcases O with O|⟨b,p,J⟩
    ·rw[O] at h;exact .inr (.inl h)
    ·rw[p] at h;injection h with h;subst h;omega
   ·exact .inl h
 ·rcases G.2 with h|⟨b,p,J⟩
  ·rw[h];exact O
  ·exact .inr ⟨b,p,VO (VO Z.size h3.size) J⟩
end
def IX (base g off nd n k:Nat) (T:VV) (cs:Array O0) (V:O0) (D:Option Nat) (L:List AS) (dead:Int->Bool) (lost:Int) (A:Option XL) (l:List AS) (w:D0)
  (hI:AJ w base g off T cs V D nd L dead lost) (hR:My w (BO g V D) A n l) (hn:n<=100000) (ar:∀ x∈l,EW x.m.from_/\EW x.m.a4/\x.n<=100000/\(x.A=B0->x.k=0)) :
  VY Tryz.prog 50 #[.pointer (Bs ⟨g,off,B0⟩),.slice A n k] w (Kb base g off nd T cs V D L dead lost l w):=by
 have HI:=LH hI;have HR:=LH hR;clear hR;have ao:=LH ar;clear ar;go_enter Tryz.func50,Tryz.ntmps50;go_wp2_with fail;go_loopw [10,5] (Hw base g off nd T cs V D L dead lost l n w) (fun i _ _=>n-(intOf i).toNat)
 case atStart=>exact⟨0,0,V,L,rfl,rfl,VN _,K0 _,fun _ h=>.inl h,by rw[q5x HI.o.c0];exact HI.o,by simp[AF,Em],Fr.refl _ _,.inl rfl⟩
 case round=>
  obtain⟨j,kk,V',L',rfl,rfl,hj,Y,am,f,hs,hf,O⟩:=hrel;by_cases aZ:(j:Int)<n
  ·obtain⟨ga,oa,x,hA,ax,hx,h0,h1,h2,h3,h4,h5,h6,h7,h8⟩:=HR.o.2.1.bO HR.o.1 (j:=j) (by omega);subst hA;have aB:=HR.o.2.2.1 ga oa rfl (by omega);have Y:∀ o,wr.cell? ⟨ga,o,B0⟩=w.cell? ⟨ga,o,B0⟩:=fun o=>hf.cell (p:=⟨ga,o,B0⟩) ax aB
   have q0:=(Y _).trans h0;have q1:=(Y _).trans h1;have q2:=(Y _).trans h2;have q3:=(Y _).trans h3;have q4:=(Y _).trans h4;have q5:=(Y _).trans h5;have q6:=(Y _).trans h6;have q7:=(Y _).trans h7;have q8:=(Y _).trans h8;have b9:ga<wr.heap.size:=VL ax hf.size;clear h0 h1 h2 h3 h4 h5 h6 h7 h8 Y aB;have u:=LH f;clear f;have af:=LH am;clear am;have HS:=LH hs;clear hs;have HF:=LH hf;clear hf;have HV:=LH O;clear O;have HX:=LH hx;clear hx;have R:AJ (wr.alloc (.cells (Bv x.m x.A x.n x.k) 116)) base g off T (cs.setIfInBounds off V') V' D nd L' dead lost:=u.o.fr ((Fr.refl (fun _=>False) _).alloc _) (fun h=>h) (fun _ _ h=>h) (fun _ _ h=>h) (fun _ _ _ _ _ h=>h);have ad:Ae (wr.alloc (.cells (Bv x.m x.A x.n x.k) 116)) wr.heap.size 116 (Bv x.m x.A x.n x.k):=Ae.new wr _ _;obtain⟨A',c',O,ba,aF⟩:=AR u.o.row;have x0:=(R.ak.cell off).trans R.c0;have x1:=(R.ak.cell (off+1)).trans R.c1;rw[O] at x0;have y1:=ad.cell 1;have y2:=ad.cell 2;have a4:=fun K=>(show Bq ((wr.alloc (.cells (Bv x.m x.A x.n x.k) 116)).drewN K) nd D dead from R.down).look (ao.o x (S2 HX.o)).1
   have a3:=fun K=>(show Bq ((wr.alloc (.cells (Bv x.m x.A x.n x.k) 116)).drewN K) nd D dead from R.down).look (ao.o x (S2 HX.o)).2.1
   have aX:=u.o.len;have bb:=LH R;clear R;have aW:=LH ad;clear ad;have a6:=LH O;clear O;have bc:=LH aF;clear aF;have au:∀ b1 b2,dead x.m.from_=b1->dead x.m.a4=b2->Cg ⟨AF L',dead⟩ x.m=(b1 || b2 || decide (L'.length=200)):=fun b1 b2 e1 e2=>by unfold Cg;dsimp only;rw[e1,e2];simp[AF]
   have ae:=LH au;clear au;rcases H:dead x.m.from_ with _|_
   ·rcases M:dead x.m.a4 with _|_
    ·rw[H] at a4;rw[M] at a3;by_cases G:L'.length=200
     ·have hz:((L'.length:Int) == 200)=VJ:=by rw[G];rfl
      have E:Cg ⟨AF L',dead⟩ x.m=VJ:=(ae.o _ _ H M).trans (by simp[G]);have I:=LH E;clear E;clear H M G;unfold Bv at *;go_wp2_with fail;go_quiet (fail);go_wp2_with fail;go_roundw
      ·exact q9g af.o u.o HS.o HF.o HV.o HX.o (by omega) Y I.o ((((Fr.refl _ wr).alloc _)).drewN _)
      ·simp[intOf];omega
     ·have hz:((L'.length:Int) == 200)=Jx:=by simpa using (by omega:¬(L'.length:Int)=200)
      have E:Cg ⟨AF L',dead⟩ x.m=Jx:=(ae.o _ _ H M).trans (by simp[G]);have I:=LH E;clear E;have aS:=LH (show L'.length+1<=200 by omega);clear H M G;have aj:=HR.o.2.2.2 x (S2 HX.o);have a8:FE wr w.heap.size x.A x.n x.m.cmd.ad:=aj.1.fr HF.o (K0 _) aj.2;have ak:=ao.o x (S2 HX.o);have az:=fun K=>qah wr.heap.size w.heap.size x.n x.k x.A x.m.cmd.ad ((wr.alloc (.cells (Bv x.m x.A x.n x.k) 116)).drewN K) ⟨a8.1,a8.2.below (Ck (((VK _ _).alloc (K0 _) _).mono HF.o.size) K)⟩ (by have:=HF.o.size;simp;omega) (by simp) ak.2.2.1 ak.2.2.2
      have aG:=LH (show x.m.cmd.ad.length=x.n from a8.1);have aT:=LH az;clear az ak a8 aj;unfold Bv at *;go_wp2_with fail;go_quiet (fail);go_wp2_with fail;refine(aT.o _).mono ?_;rintro e w2 ⟨A2,k2,rfl,F,aa⟩;have aR:=LH (show Ke w.heap.size ⟨x.m,A2,x.n,k2⟩ from fun b hb=>VO HF.o.size (F.lt b hb).1);have F:=K8 F u.o.bg;have aM:=aa.size;simp only[Tm,World.size_alloc] at aM;have ac:Ae w2 wr.heap.size 116 #[.int .i64 x.m.ai,.int .i64 x.m.from_,.int .i64 x.m.a4,.int .i64 x.m.aa,.int .i64 x.m.n,.int .i64 x.m.cmd.ai,.int .i64 x.m.cmd.tx,.int .i64 x.m.cmd.ag,.slice x.A x.n x.k]:=(aa.block wr.heap.size (by show wr.heap.size<(wr.alloc _).heap.size;simp)).trans aW.o;have z0:=ac.cell 8;have z1:=ac.frozen 8;have aL:=LH ac;clear ac;have aI:=LH F;clear F;have aV:=LH aa;clear aa;go_wp2_with fail;have aD:Fr (fun k=>wr.heap.size<=k) wr w2:=(((Fr.refl _ wr).alloc _).drewN _).trans ((DG aV.o).mono (fun i _ h=>by
       have h':(wr.alloc (.cells (Bv x.m x.A x.n x.k) 116)).heap.size<=i:=h;simp at h';omega))
      have U:=Fr.a6 wr.heap.size w2 8 (.slice A2 x.n k2);have ab:=aD.trans (U.mono (T:=fun k=>wr.heap.size<=k) (fun i _ h=>Nat.le_of_eq h.symm));have z:=aL.o.aH 8 (.slice A2 x.n k2);simp only[List.setIfInBounds_toArray,XH,List.set_cons_zero] at z;have ah:∀ b,Wc (.slice A2 x.n k2)=Bs b->¬b=wr.heap.size:=fun b hb e=>by subst e;exact Bh aI.o aL.o (by decide) hb
      have aC:=U.own aI.o ah;generalize w2.setCell ⟨wr.heap.size,8,B0⟩ (.slice A2 x.n k2)=w3 at *;have aO:g<wr.heap.size:=u.o.ak.lt;have n0:=(ab.cell (p:=⟨g,off,B0⟩) aO (fun h:wr.heap.size<=g=>by omega)).trans ((u.o.ak.cell off).trans u.o.c0);rw[a6.o] at n0;have b0:=z.cell 0;have b1:=z.cell 1;have b2:=z.cell 2;have b3:=z.cell 3;have b4:=z.cell 4;have b5:=z.cell 5;have b6:=z.cell 6;have b7:=z.cell 7;have b8:=z.cell 8;simp only[Hi,N2,Ft] at b0 b1 b2 b3 b4 b5 b6 b7 b8;have aY:=ab.size;have ap:=LH ab;clear ab;have aK:=LH z;clear z;have aQ:=LH aC;clear aC;clear U aD ah z0 z1;refine nW ?_;refine SJ (fun w'=>w'.cell? ⟨g,off,B0⟩=Bs (.slice A' L'.length c')/\w'.cell? ⟨wr.heap.size,0,B0⟩=Bs (.int .i64 x.m.ai)/\w'.cell? ⟨wr.heap.size,1,B0⟩=Bs (.int .i64 x.m.from_)/\w'.cell? ⟨wr.heap.size,2,B0⟩=Bs (.int .i64 x.m.a4)/\w'.cell? ⟨wr.heap.size,3,B0⟩=Bs (.int .i64 x.m.aa)/\w'.cell? ⟨wr.heap.size,4,B0⟩=Bs (.int .i64 x.m.n)/\w'.cell? ⟨wr.heap.size,5,B0⟩=Bs (.int .i64 x.m.cmd.ai)/\w'.cell? ⟨wr.heap.size,6,B0⟩=Bs (.int .i64 x.m.cmd.tx)/\w'.cell? ⟨wr.heap.size,7,B0⟩=Bs (.int .i64 x.m.cmd.ag)/\w'.cell? ⟨wr.heap.size,8,B0⟩=Bs (.slice A2 x.n k2)) 8 ?_;have Z:=Wm n0 (Wm b0 (Wm b1 (Wm b2 (Wm b3 (Wm b4 (Wm b5 (Wm b6 (Wm b7 b8))))))));refine nE 0 Z ?_;refine nE 1 Z ?_;refine nE 2 Z ?_;refine nE 3 Z ?_;refine nC 4 rfl (fun _ _ _ h=>h) Z (fun w' al=>by obtain⟨c0,c1,c2,c3,c4,c5,c6,c7,c8,c9⟩:=al;go_simp;rfl) ?_;refine nC 5 rfl (fun _ _ _ h=>h) Z (fun w' al=>by obtain⟨c0,c1,c2,c3,c4,c5,c6,c7,c8,c9⟩:=al;go_simp;rfl) ?_;have s:∀ o q p,q<w3.heap.size->(w3.alloc o).cell? ⟨q,p,B0⟩=w3.cell? ⟨q,p,B0⟩:=fun o q p hq=>WX w3 o ⟨q,p,B0⟩ hq
      have y:=aK.o.lt;have a2:w3.ownsRow base 116 9 (.slice A' L'.length c') L'.length (L'.flatMap Ct):=by
       rw[<- a6.o];exact ap.o.own u.o.row (fun b hb (h:wr.heap.size<=b)=>by have:=u.o.vlt hb;omega)
      have a7:=LH a2;clear a2;have a9:base<=w3.heap.size:=by have:=u.o.bg;omega
      refine nG 6 (fun K hK=>?_);go_simp;refine hK _ _ (fun _=>⟨(s _ _ _ (by omega)).trans n0,(s _ _ _ y).trans b0,(s _ _ _ y).trans b1,(s _ _ _ y).trans b2,(s _ _ _ y).trans b3,(s _ _ _ y).trans b4,(s _ _ _ y).trans b5,(s _ _ _ y).trans b6,(s _ _ _ y).trans b7,(s _ _ _ y).trans b8⟩) ?_;clear hK K Z s;refine nG 7 (fun K hK=>?_);have av:=aS.o;refine SQ w3.drew w3.heap.size rfl _ (.tmp 50) (.tmp 52) 86 rfl base 116 _ 9 88 Tryz.underlying86 q75 rfl (by decide) _ _ _ #[.int .i64 x.m.ai,.int .i64 x.m.from_,.int .i64 x.m.a4,.int .i64 x.m.aa,.int .i64 x.m.n,.int .i64 x.m.cmd.ai,.int .i64 x.m.cmd.tx,.int .i64 x.m.cmd.ag,.slice A2 x.n k2] rfl a7.o 1 rfl _ rfl rfl (by simp[WB]) (by unfold Wo;omega) (by omega) a9 ?_;clear av;intro V2 w4 W X;obtain⟨A4,c4,rfl,_,_⟩:=AR W;have a0:Av w3 w4 V'.ownBlock (Wc (.slice A4 (L'.length+1) c4)):=by rw[a6.o];exact⟨⟨X.1.os,X.1.tape,X.1.output,X.1.size,X.1.block⟩,X.2⟩
      have a5:Ae w3 g T (cs.setIfInBounds off V'):=ap.o.ak u.o.ak (fun h:wr.heap.size<=g=>by omega);have a1:w3.ownsRow base 116 9 V' L'.length (L'.flatMap Ct):=by rw[a6.o];exact a7.o
      have ay:¬Bs g=V'.ownBlock:=fun e=>Bh a1 a5 (fun e=>u.o.ne.1 e.symm) e.symm
      have aq:¬Bs wr.heap.size=V'.ownBlock:=fun e=>by have:=u.o.vlt e.symm;omega
      have an:=a0.1.ak a5 ay;have v:=a0.1.ak aK.o aq;have y0:=an.cell off;have y1:=an.frozen off;have aA:=u.o.c0;rw[aA,a6.o] at y0;have aE:=Wm y0 (Wm (v.cell 0) (Wm (v.cell 1) (Wm (v.cell 2) (Wm (v.cell 3) (Wm (v.cell 4) (Wm (v.cell 5) (Wm (v.cell 6) (Wm (v.cell 7) (v.cell 8)))))))));have aU:=LH aE;clear aE;have ag:=QB (x2:=⟨x.m,A2,x.n,k2⟩) af.o aR.o u.o HS.o HF.o HV.o HX.o (by omega:j<n) Y I.o ap.o rfl ⟨aQ.o,aG.o⟩ a0 W;have aH:=LH ag;clear ag W X a0 an v a5 a1 ay aq aA;go_simp;refine hK _ _ (fun _=>aU.o) ?_;clear hK K;refine nG 8 (fun K hK=>?_);go_simp;refine hK _ _ nZ ?_;clear hK K;refine nG 9 (fun K hK=>?_);go_simp;refine hK _ _ nZ ?_;clear hK K;refine nG 10 (fun K hK=>?_);go_simp;refine hK _ _ nZ ?_;clear hK K;refine nX ?_;go_wp2_with fail;go_roundw
      ·exact aH.o
      ·simp[intOf];omega
    ·rw[H] at a4;rw[M] at a3;have E:Cg ⟨AF L',dead⟩ x.m=VJ:=(ae.o _ _ H M).trans (by simp);have I:=LH E;clear E;clear H M;unfold Bv at *;go_wp2_with fail;go_quiet (fail);go_wp2_with fail;go_roundw
     ·exact q9g af.o u.o HS.o HF.o HV.o HX.o (by omega) Y I.o ((((Fr.refl _ wr).alloc _)).drewN _)
     ·simp[intOf];omega
   ·rw[H] at a4;have E:Cg ⟨AF L',dead⟩ x.m=VJ:=(ae.o _ _ H rfl).trans (by simp);have I:=LH E;clear E;clear H a3;unfold Bv at *;go_wp2_with fail;go_quiet (fail);go_wp2_with fail;go_roundw
    ·exact q9g af.o u.o HS.o HF.o HV.o HX.o (by omega) Y I.o ((((Fr.refl _ wr).alloc _)).drewN _)
    ·simp[intOf];omega
  ·obtain rfl:j=n:=by omega
   have aw:l.take j=l:=V0 (by have:=HR.o.1;omega);rw[aw] at hs;have x2:=(f.ak.cell (off+2)).trans f.c2;have x3:=f.ak.frozen (off+2);have ai:Kb base g off nd T cs V D L dead lost l w (.returned (.int .i64 kk)) (wr.setCell ⟨g,off+2,B0⟩ (.int .i64 (Xn (lost+kk)))):=by
    have J:=Fr.a6 g wr (off+2) (.int .i64 (Xn (lost+kk)));have aP:AJ (wr.setCell ⟨g,off+2,B0⟩ (.int .i64 (Xn (lost+kk)))) base g off T ((cs.setIfInBounds off V').setIfInBounds (off+2) (.int .i64 (Xn (lost+kk)))) V' D nd L' dead (Xn (lost+kk)):=by
     have aN:off+2<cs.size:=by
      have:=f.c2;rcases W7 (off+2) cs.size with h|h
      ·exact h
      ·rw[WW (by simpa using h)] at this;cases this
     refine⟨f.ak.aH _ _,?_,?_,by simp[aN],J.own f.row (fun b hb e=>by subst e;exact Bh f.row f.ak (fun e=>f.ne.1 e.symm) hb),fun x hx=>⟨J.own (f.own x hx).1 (fun b hb e=>by subst e;exact Bh (f.own x hx).1 f.ak (fun e=>f.ne.2 e.symm) hb),(f.own x hx).2⟩,f.down.fr J (fun b hb e=>by subst e;exact f.down.aB f.ak hb),f.len,f.ne,VO f.bg J.size⟩
     ·rw[Wi (by omega)];exact f.c0
     ·rw[Wi (by omega)];exact f.c1
    exact⟨V',L',_,kk,rfl,am,aP,hs,hf.trans' J (fun i _ h=>.inl h),O⟩
   have aJ:=LH ai;clear ai f hs hf O aw hI;go_wp2_with fail;go_ret;exact aJ.o
def Ew (a:XL):a.add 0=a:=by unfold Addr.add;rw[if_pos rfl]
section
variable {P:Xc} {w:D0} {base e size g n cap:Nat} {xs:List O0}
def qbj (h:w.ownsRow base e size (.slice (Bs ⟨g,0,B0⟩) n cap) n xs) (z:i<=n):w.ownsRow base e size (.slice (Bs ⟨g,0,B0⟩) i cap) i (xs.take (i*size)):=by
 have y:i*size<=n*size:=WO _ z;refine⟨by rw[WA,h.1];omega,?_⟩;rcases h.2 with ⟨h,_⟩|⟨F,u,s,h,q,E,v,p,k,f⟩
 ·cases h
 ·simp only[YF,VR,W1,and_true,true_and] at h;obtain⟨rfl,rfl⟩:=h;refine .inr ⟨g,cap,s,rfl,q,E,by omega,p,k,?_⟩;rw[<- f,List.take_take,Nat.min_eq_left y]
def GZ (h:w.ownsRow base e size (.slice (Bs ⟨g,0,B0⟩) n cap) n xs):n<=cap/\cap<=Wo:=by
 rcases h.2 with ⟨h,_⟩|⟨y,p,u,h,s,v,i,k,q,f⟩
 ·cases h
 ·simp only[YF,VR,W1,and_true,true_and] at h;obtain⟨rfl,rfl⟩:=h;exact⟨i,k⟩
def DS (g k cap size:Nat):Option XL:=if cap=k then Bs ⟨g,0,B0⟩ else Bs ⟨g,k*size,B0⟩
def qb8 (g k cap size:Nat):∃ o,DS g k cap size=Bs ⟨g,o,B0⟩/\(k<cap->o=k*size):=by
 unfold DS;split
 ·rename_i f;exact⟨0,rfl,fun h=>by omega⟩
 ·exact⟨_,rfl,fun _=>rfl⟩
def KU (t s:VV) (i:TypeInfo) (y:P.underlying t=Bs (.slice e)) (F:P.info? e=Bs i) (f:i.size=size)
  (h:w.ownsRow base e size (.slice (Bs ⟨g,0,B0⟩) n cap) n xs) (M:∀ u∈xs,u.oneCell'=VJ) {a b:Nat} (G:a<=b) (R:b<=n) :
  ∃ w',(Xu #[t,t] s #[.slice (Bs ⟨g,0,B0⟩) a cap,.slice (DS g b cap size) (n-b) (cap-b)]).run P w=.ok (.slice (Bs ⟨g,0,B0⟩) (a+(n-b)) cap) w'/\
   w'.ownsRow base e size (.slice (Bs ⟨g,0,B0⟩) (a+(n-b)) cap) (a+(n-b)) (xs.take (a*size)++xs.drop (b*size))/\Fr (fun k=>k=g) w w':=by
 obtain⟨o,z,q⟩:=qb8 g b cap size;have O:=(GZ h).1;have hl:(xs.drop (b*size)).length=(n-b)*size:=by rw[W5,h.1,YG]
 obtain⟨w',J,I,H⟩:=run_append_fits (P:=P) w base t s e i size y F f g a cap _ (qbj h (by omega:a<=n)) ⟨g,o,B0⟩ (n-b) (cap-b) (xs.drop (b*size)) hl (fun j u p=>by
  have v:j<(n-b)*size:=by rw[<- hl];exact(List.getElem?_eq_some_iff.1 p).1
  have E:b<n:=by
   rcases W7 b n with h|h
   ·exact h
   ·rw[Nat.sub_eq_zero_of_le h,Nat.zero_mul] at v;omega
  rw[WJ,q (by omega),h.cellAt]
  ·rw[<- p,List.getElem?_drop]
  ·rw[YG] at v;omega) (fun u p=>M u (List.mem_of_mem_drop p)) (by omega)
 rw[z];exact⟨w',J,I,Fr.aZ H (fun k e=>(WR e).symm)⟩
def q69 (t:VV) (z:O0) (ht:P.underlying t=Bs (.slice e)) (hv:∀ w,(Yd e).run P w=.ok z w) (hz:z.cells.size=size) (J:∀ u∈z.cells.toList,u.oneCell'=VJ)
  (h:w.ownsRow base e size (.slice (Bs ⟨g,0,B0⟩) n cap) n xs) {m c:Nat} (hm:n+m<=cap) :
  ∃ w',(∀ G,(YH #[t] G #[.slice (DS g n cap size) m c]).run P w=.ok (.tuple #[]) w')/\w'.ownsRow base e size (.slice (Bs ⟨g,0,B0⟩) n cap) n xs/\Fr (fun k=>k=g) w w':=by
 obtain⟨o,ho,R⟩:=qb8 g n cap size;rw[ho];rcases XW m with h0|h0
 ·subst h0;exact⟨w,fun G=>by simp[YH,Yu ht],h,Fr.refl _ _⟩
 have O:=R (by omega);subst O;rcases h.2 with ⟨F,_⟩|⟨g',a0,f,F,Z,hg,U,Y,X,p⟩
 ·cases F
 ·simp only[YF,VR,W1,and_true,true_and] at F;obtain⟨rfl,rfl⟩:=F;have v:(Wz z.cells m).toList.length=m*size:=by rw[Ws,Xs,hz]
  have I:∀ u∈(Wz z.cells m).toList,u.oneCell'=VJ:=fun u M=>by
   obtain⟨i,hi,M⟩:=YS M;have H:0<z.cells.size:=by
    rcases XW z.cells.size with h|h
    ·rw[v,<- hz,h] at hi;omega
    ·exact h
   refine J u ?_;rw[<- M];simp[Wz];have W:i % z.cells.size<z.cells.size:=Nat.mod_lt _ H;simp[W]
  have s:n*size+(Wz z.cells m).toList.length<=f.size:=by rw[v,X,<- Xa];exact WO _ hm
  have y:=run_storeCells_at (P:=P) g (n*size) e (Wz z.cells m).toList 0 f w hg (by simpa using s) I;simp only[Nat.add_zero] at y;obtain⟨E,rfl⟩:∃ E,m=E+1:=⟨m-1,by omega⟩
  refine⟨w.setRow g (f.toList.take (n*size)++(Wz z.cells (E+1)).toList++f.toList.drop (n*size+(Wz z.cells (E+1)).toList.length)).toArray,?_,⟨h.1,.inr ⟨g,cap,_,rfl,Z,setRow_heap w g f _ e _ hg,U,Y,?_,?_⟩⟩,⟨rfl,rfl,rfl,by simp,fun k _ hk=>setRow_other w g k _ hk⟩⟩
  ·intro G;simp[YH,Yu ht,hv,y]
  ·simp only[Xo,VS,WA,W5,Ws];simp only[Ws] at s;omega
  ·have q:(f.toList.take (n*size)).length=n*size:=by rw[p,h.1]
   rw[XB,Wq (by rw[q];omega),V0 (by rw[q];omega),p]
def q9d (T:VV) (f:P.underlying T=Bs (.slice (P.elem T))) (hs:∀ w,(YU (P.elem T)).run P w=.ok size w) (w:D0) (g n c v:Nat) (h:Int) (i:h=v) (k:v<=n) :
  (Yv T (.slice (Bs ⟨g,0,B0⟩) n c) (Bs (.int .i64 h)) B0 B0).run P w=.ok (.slice (DS g v c size) (n-v) (c-v)) w:=by
 subst i;rw[run_slice_l w T _ n c f .i64 (v:Int) (by omega) (by omega),hs];simp only[W9,sliced,XO,DS];congr 2;split <;> simp[WJ]
def Fz (T:VV) (f:P.underlying T=Bs (.slice (P.elem T))) (hs:∀ w,(YU (P.elem T)).run P w=.ok size w) (w:D0) (g n c v:Nat) (h:Int) (i:h=v) (k:v<=c) :
  (Yv T (.slice (Bs ⟨g,0,B0⟩) n c) B0 (Bs (.int .i64 h)) B0).run P w=.ok (.slice (Bs ⟨g,0,B0⟩) v c) w:=by
 subst i;rw[run_slice_h w T _ n c f .i64 (v:Int) (by omega) (by omega),hs];simp only[W9,sliced,XO,Nat.zero_mul,Nat.sub_zero];congr 2;split <;> simp[Ew]
def KQ (T:VV) (i:P.underlying T=Bs (.slice (P.elem T))) (hs:∀ w,(YU (P.elem T)).run P w=.ok size w) (w:D0) (g n c u v:Nat) (l h:Int) (hl:l=u) (k:h=v) (f:u<=v) (p:v<=c) :
  (Yv T (.slice (Bs ⟨g,0,B0⟩) n c) (Bs (.int .i64 l)) (Bs (.int .i64 h)) B0).run P w=.ok (.slice (DS g u c size) (v-u) (c-u)) w:=by
 subst hl k;rw[run_slice_lh w T _ n c i .i64 .i64 (u:Int) (v:Int) (by omega) (by omega) (by omega),hs];simp only[W9,sliced,XO,DS];congr 2;split <;> simp[WJ]
end
def qby {w:D0} {a:Act} (s x:Yy) (t:VV)
  (k:o.op=.call { callee:=.builtin .append,args:=#[s,x],argTypes:=#[t,t] }) (v u r:O0) (hs:a.eval s=v) (i:a.eval x=u)
  (f:(Xu #[t,t] o.type #[v,u]).run P w=.ok r w') (h:K (a.put o.dst r) w'):o.wp P a w K Q:=by
 unfold YN Yx;simp only[k,resolve,invoke,builtin,Sem.run_bind,Sem.run_pure,Zb,List.map_toArray,WH,XN,hs,i,f];exact h
def JX:Tryz.prog.elem 86=116:=by kernel_rfl
def q6s:Tryz.prog.underlying 86=Bs (.slice (Tryz.prog.elem 86)):=by rw[JX];exact Tryz.underlying86
def q6w (w:D0):(YU (Tryz.prog.elem 86)).run Tryz.prog w=.ok 9 w:=by rw[JX];kernel_rfl
def PK:O0:=.agg #[.int .i64 0,.int .i64 0,.int .i64 0,.int .i64 0,.int .i64 0,.int .i64 0,.int .i64 0,.int .i64 0,.slice B0 0 0]
def Im (w:D0):(Yd 116).run Tryz.prog w=.ok PK w:=by kernel_rfl
def TR (l:List AS):∀ u∈l.flatMap Ct,u.oneCell'=VJ:=fun u h=>by
 obtain⟨p,_,f⟩:=List.mem_flatMap.1 h;simp only[Ct,Bv,X4,XX,or_false] at f;rcases f with rfl|rfl|rfl|rfl|rfl|rfl|rfl|rfl|rfl <;> rfl
def DelP (base f n cap:Nat) (xs:List O0) (w:D0) (e:WC) (w':D0):Prop:=
 e=.returned (.slice (Bs ⟨f,0,B0⟩) n cap)/\w'.ownsRow base 116 9 (.slice (Bs ⟨f,0,B0⟩) n cap) n xs/\Fr (fun k=>k=f) w w'
def L6 (base q n cap k:Nat) (xs:List O0) (w:D0) (h:w.ownsRow base 116 9 (.slice (Bs ⟨q,0,B0⟩) n cap) n xs) (Y:k<n) (X:n<=100000) (W:∀ u∈xs,u.oneCell'=VJ) :
  VY Tryz.prog 77 #[.slice (Bs ⟨q,0,B0⟩) n cap,.int .i64 k,.int .i64 ((k:Int)+1)] w (DelP base q (n-1) cap (xs.take (k*9)++xs.drop ((k+1)*9)) w):=by
 have O:=(GZ h).1;obtain⟨i,R,_,y,_⟩:=Y1 q75;have J:((k:Int) == (k:Int)+1)=Jx:=by simpa using (by omega:¬(k:Int)=(k:Int)+1)
 have s1:=fun w=>Fz (size:=9) 86 q6s q6w w q n cap k (k:Int) rfl (by omega)
 have s2:=fun w=>q9d (size:=9) 86 q6s q6w w q n cap (k+1) ((k:Int)+1) (by omega) (by omega)
 obtain⟨I,E,p,v⟩:=KU (w:=w.drew) 86 86 i Tryz.underlying86 R y h W (a:=k) (b:=k+1) (by omega) (by omega);have H:k+(n-(k+1))=n-1:=by omega
 rw[H] at E p;have v:Fr (fun k=>k=q) w I:=⟨v.os,v.tape,v.output,v.size,v.block⟩
 obtain⟨w2,U,f,z⟩:=q69 86 PK Tryz.underlying86 Im (by rfl) (by decide) p (m:=n-(n-1)) (c:=cap-(n-1)) (by omega);have s3:=fun w=>KQ (size:=9) 86 q6s q6w w q (n-1) cap (n-1) n ((n-1:Nat):Int) (n:Int) rfl rfl (by omega) (by omega)
 have s:DelP base q (n-1) cap (xs.take (k*9)++xs.drop ((k+1)*9)) w (.returned (.slice (Bs ⟨q,0,B0⟩) (n-1) cap)) w2:=⟨rfl,f,v.trans z⟩
 have G:=LH s;clear s p f v z h;have M:(k:Int)+1<=n:=by omega
 go_enter Tryz.func77,Tryz.ntmps77;go_wp2_with fail;refine nW ?_;refine FD 0 rfl (by kernel_rfl) (by kernel_rfl) (by kernel_rfl) (fun _ _ _ h=>h) (by kernel_rfl) (fun w=>by go_simp;rfl) ?_;refine FD 1 rfl (by kernel_rfl) (by kernel_rfl) (by kernel_rfl) (fun _ _ _ h=>h) (by kernel_rfl) (fun w=>by go_simp;rfl) ?_;refine FD 2 rfl (by kernel_rfl) (by kernel_rfl) (by kernel_rfl) (fun _ _ _ h=>h) (by kernel_rfl) (fun w=>by have:=s1 w;go_simp;rfl) ?_;refine FD 3 rfl (by kernel_rfl) (by kernel_rfl) (by kernel_rfl) (fun _ _ _ h=>h) (by kernel_rfl) (fun w=>by go_simp;rfl) ?_;refine FD 4 rfl (by kernel_rfl) (by kernel_rfl) (by kernel_rfl) (fun _ _ _ h=>h) (by kernel_rfl) (fun w=>by go_simp;rfl) ?_;refine FD 5 rfl (by kernel_rfl) (by kernel_rfl) (by kernel_rfl) (fun _ _ _ h=>h) (by kernel_rfl) (fun w=>by have:=s2 w;go_simp;rfl) ?_;refine UL 6 (by kernel_rfl) rfl (by kernel_rfl) (fun K F=>?_);refine qby (.tmp 22) (.tmp 25) 86 rfl _ _ _ rfl rfl E ?_;go_simp;refine F _ _ ?_;clear F K;refine UL 7 (by kernel_rfl) rfl (by kernel_rfl) (fun K F=>?_);go_simp;refine F _ _ ?_;clear F K;refine wpAny_done (by kernel_rfl) ?_ _;have:=s3 I;go_wp2_with fail;go_ret;exact G.o
def TS (x:AS):O0:=De x.m x.A x.n x.k
def Po:AS:=⟨⟨0,0,0,0,0,⟨0,0,0,[]⟩⟩,B0,0,0⟩
def OB:(Tryz.prog.info? 116).map (·.size)=Bs 9:=by kernel_rfl
def ret_mr {f:Func} {p u:Tmp} (h:f.results=#[.cell p 116,.tmp u]) (tmps:Array O0) (w:D0) (g:Nat) (x:AS) (i:tmps.getD p Yq=.pointer (Bs ⟨g,0,B0⟩)) (k:Ae w g 116 (Bv x.m x.A x.n x.k)) :
  (results f tmps).run Tryz.prog w=.ok (.tuple #[TS x,tmps.getD u Yq]) w:=by
 rw[results_cell_tmp h,i];simp only[asAddr,Sem.run_pure,W9];rw[run_loadVar_row w g 116 116 (Bv x.m x.A x.n x.k) (0,0) _ k Tryz.underlying116 rfl OB];rfl
def q81:∀ (l:List AS) (k:Nat),(l.flatMap Ct).take (k*9)=(l.take k).flatMap Ct
 | [],k=>by simp
 | x::l,0=>by simp
 | x::l,k+1=>by
  have e:(k+1)*9=9+k*9:=by omega
  rw[VM,WU,VM,e,<- q81 l k];rw[List.take_append,q2n,Nat.add_sub_cancel_left,V0 (by rw[q2n];omega)]
def qbs:∀ (l:List AS) (k:Nat),(l.flatMap Ct).drop (k*9)=(l.drop k).flatMap Ct
 | [],k=>by simp
 | x::l,0=>by simp
 | x::l,k+1=>by
  have e:(k+1)*9=9+k*9:=by omega
  rw[VM,Xb,e,<- qbs l k];rw[List.drop_append,q2n,Nat.add_sub_cancel_left,Yb (by rw[q2n];omega),Xt]
def JQ (l:List AS) (k:Nat):(l.flatMap Ct).take (k*9)++(l.flatMap Ct).drop ((k+1)*9)=(l.eraseIdx k).flatMap Ct:=by
 rw[q81,qbs,<- WG,List.eraseIdx_eq_take_drop_succ]
def RS (w:D0) (g:Nat) (x:AS):D0:=
 ((((((((w.setCell ⟨g,0,B0⟩ (.int .i64 x.m.ai)).setCell ⟨g,1,B0⟩ (.int .i64 x.m.from_)).setCell ⟨g,2,B0⟩ (.int .i64 x.m.a4)).setCell ⟨g,3,B0⟩ (.int .i64 x.m.aa)).setCell ⟨g,4,B0⟩ (.int .i64 x.m.n)).setCell ⟨g,5,B0⟩ (.int .i64 x.m.cmd.ai)).setCell ⟨g,6,B0⟩ (.int .i64 x.m.cmd.tx)).setCell ⟨g,7,B0⟩ (.int .i64 x.m.cmd.ag)).setCell ⟨g,8,B0⟩ (.slice x.A x.n x.k)
def JT (w:D0) (g:Nat) (x:AS):Fr (fun i=>i=g) w (RS w g x):=
 (((((((((Fr.refl (fun i=>i=g) w).setCell (p:=⟨g,0,B0⟩) (.inl rfl) _).setCell (p:=⟨g,1,B0⟩) (.inl rfl) _).setCell (p:=⟨g,2,B0⟩) (.inl rfl) _).setCell (p:=⟨g,3,B0⟩) (.inl rfl) _).setCell (p:=⟨g,4,B0⟩) (.inl rfl) _).setCell (p:=⟨g,5,B0⟩) (.inl rfl) _).setCell (p:=⟨g,6,B0⟩) (.inl rfl) _).setCell (p:=⟨g,7,B0⟩) (.inl rfl) _).setCell (p:=⟨g,8,B0⟩) (.inl rfl) _
def Gb {w:D0} {g:Nat} {x0:AS} (h:Ae w g 116 (Bv x0.m x0.A x0.n x0.k)) (x:AS):Ae (RS w g x) g 116 (Bv x.m x.A x.n x.k):=by
 have:=((((((((h.aH 0 (.int .i64 x.m.ai)).aH 1 (.int .i64 x.m.from_)).aH 2 (.int .i64 x.m.a4)).aH 3 (.int .i64 x.m.aa)).aH 4 (.int .i64 x.m.n)).aH 5 (.int .i64 x.m.cmd.ai)).aH 6 (.int .i64 x.m.cmd.tx)).aH 7 (.int .i64 x.m.cmd.ag)).aH 8 (.slice x.A x.n x.k);unfold RS;simpa [Bv] using this
def Uu (base g off nd:Nat) (T:VV) (cs:Array O0) (V:O0) (D:Option Nat) (L:List AS) (dead:Int->Bool) (lost:Int) (k:Nat) (w:D0) (e:WC) (w':D0):Prop:=
 ∃ V' x,L[k]? = Bs x/\e=.returned (.tuple #[TS x,.nilIface])/\AJ w' base g off T (cs.setIfInBounds off V') V' D nd (L.eraseIdx k) dead lost/\DR w' base x/\Fr (BO g V D) w w'/\V'.ownBlock=V.ownBlock
def TM {w:D0} {base g nd:Nat} {T:VV} {cs:Array O0} {V:O0} {D:Option Nat} {L:List AS} {dead:Int->Bool} {lost:Int} {s cap:Nat} {x:AS}
  (hI:AJ w base g n T cs V D nd L dead lost) (Z:V=.slice (Bs ⟨s,0,B0⟩) L.length cap) (O:L[k]? = Bs x) (U:Fr (fun k=>w.heap.size<=k) w w2)
  (E:w'.ownsRow base 116 9 (.slice (Bs ⟨s,0,B0⟩) (L.length-1) cap) (L.length-1) ((L.eraseIdx k).flatMap Ct)) (u:Fr (fun k=>k=s) w2 w') :
  AJ (w'.setCell ⟨g,n,B0⟩ (.slice (Bs ⟨s,0,B0⟩) (L.length-1) cap)) base g n T (cs.setIfInBounds n (.slice (Bs ⟨s,0,B0⟩) (L.length-1) cap)) (.slice (Bs ⟨s,0,B0⟩) (L.length-1) cap) D nd (L.eraseIdx k) dead lost/\
   DR (w'.setCell ⟨g,n,B0⟩ (.slice (Bs ⟨s,0,B0⟩) (L.length-1) cap)) base x/\Fr (BO g V D) w (w'.setCell ⟨g,n,B0⟩ (.slice (Bs ⟨s,0,B0⟩) (L.length-1) cap))/\Ae w' g T cs:=by
 have Y:k<L.length:=(List.getElem?_eq_some_iff.1 O).1;have v:V.ownBlock=Bs s:=by rw[Z];rfl
 have X:=hI.vlt v;have f:AJ w2 base g n T cs V D nd L dead lost:=hI.fr U (fun h=>by have:=hI.ak.lt;omega) (fun b q h=>by have:=hI.vlt q;omega) (fun b q h=>by have:=hI.down;rw[q] at this;have:=this.lt;omega) (fun b t cs q _ h=>by have:=q.lt;omega);have J:¬g=s:=fun e=>Bh f.row f.ak (fun e=>hI.ne.1 e.symm) (by rw[v,e])
 have z:Ae w' g T cs:=u.ak f.ak J;have p:Fr (fun k=>k=g) w' (w'.setCell ⟨g,n,B0⟩ (.slice (Bs ⟨s,0,B0⟩) (L.length-1) cap)):=Fr.a6 g w' n _;have F:∀ y∈L,DR (w'.setCell ⟨g,n,B0⟩ (.slice (Bs ⟨s,0,B0⟩) (L.length-1) cap)) base y:=fun y I=>by
  have M:=f.own y I;have W:=u.own M.1 (fun b q e=>by subst e;exact ES f.row M.1 (by decide) v q);exact⟨p.own W (fun b q e=>by subst e;exact Bh W z (fun e=>hI.ne.2 e.symm) q),M.2⟩
 have G:n<cs.size:=by
  rcases W7 n cs.size with h|h
  ·exact h
  ·have:=hI.c0;rw[WW h] at this;cases this
 have H:(L.eraseIdx k).length=L.length-1:=by rw[List.length_eraseIdx_of_lt Y]
 refine⟨⟨z.aH _ _,by simp[G],?_,?_,?_,fun y I=>F y (List.mem_of_mem_eraseIdx I),?_,by rw[H];have:=hI.len;omega,hI.ne,?_⟩,F x (S2 O),?_,z⟩
 ·rw[Wi (by omega)];exact hI.c1
 ·rw[Wi (by omega)];exact hI.c2
 ·rw[H];exact p.own E (fun b q e=>by subst e;exact Bh E z (fun e=>hI.ne.1 e.symm) q)
 ·refine(f.down.fr u (fun b q e=>?_)).fr p (fun b q e=>?_)
  ·subst e;exact f.down.aL f.row q v
  ·subst e;exact f.down.aB f.ak q
 ·exact VO f.bg (VO u.size p.size)
 ·refine(U.mono (T:=BO g V D) (fun i R (h:w.heap.size<=i)=>absurd R (by omega))).trans' ((u.mono (T:=fun k=>k=s\/k=g) (fun i _ h=>.inl h)).trans' p (fun i _ h=>.inr h)) (fun i R h=>?_);rcases h with rfl|rfl
  ·exact .inr (.inl v.symm)
  ·exact .inl rfl
def Lk {w:D0} {base size:Nat} (h:w.ownsRow base e size v n xs) (k:0<n):∃ g cap,v=.slice (Bs ⟨g,0,B0⟩) n cap/\base<=g/\g<w.heap.size:=by
 obtain⟨g,cap,i,p,f⟩:=h.form k;exact⟨g,cap,i,p,f⟩
def IN (base g off nd:Nat) (T:VV) (cs:Array O0) (V:O0) (D:Option Nat) (L:List AS) (dead:Int->Bool) (lost:Int) (k:Nat) (w:D0)
  (hI:AJ w base g off T cs V D nd L dead lost) (hk:k<L.length):VY Tryz.prog 48 #[.pointer (Bs ⟨g,off,B0⟩),.int .i64 k] w (Uu base g off nd T cs V D L dead lost k w):=by
 obtain⟨I,cap,R,af,ab⟩:=Lk hI.row (by omega);have M:=Rd.ay (by rw[<- R];exact hI.row:w.ownsRow base 116 9 (.slice (Bs ⟨I,0,B0⟩) L.length cap) L.length (L.flatMap Ct));obtain⟨g',o',x,hA,_,Y,h0,h1,h2,h3,h4,h5,h6,h7,h8⟩:=M.bO rfl hk;simp only[VR,W1,and_true] at hA;obtain⟨rfl,rfl⟩:=hA;rw[Wx] at h0 h1 h2 h3 h4 h5 h6 h7 h8;have c0:=(hI.ak.cell off).trans hI.c0;rw[R] at c0;have Z:=hI.len;have ae:=hI.ak.lt;have HI:=LH hI;clear hI;have U:=LH R;clear R M;have HX:=LH Y;clear Y;have ac:(k:Int)<L.length:=by omega
 have ad:¬(k:Int)<0:=by omega
 have a9:¬(L.length:Int)<=k:=by omega
 go_enter Tryz.func48,Tryz.ntmps48;go_wp2_with fail;have y:Fr (fun k=>w.heap.size<=k) w ((w.alloc (.cells (Bv Po.m B0 0 0) 116)).alloc (.cells (Bv x.m x.A x.n x.k) 116)):=((Fr.refl _ _).alloc _).alloc _;have H:Ae ((w.alloc (.cells (Bv Po.m B0 0 0) 116)).alloc (.cells (Bv x.m x.A x.n x.k) 116)) w.heap.size 116 (Bv Po.m B0 0 0):=(Ae.new w _ _).alloc _;have G:Ae ((w.alloc (.cells (Bv Po.m B0 0 0) 116)).alloc (.cells (Bv x.m x.A x.n x.k) 116)) (w.heap.size+1) 116 (Bv x.m x.A x.n x.k):=by
  have:=Ae.new (w.alloc (.cells (Bv Po.m B0 0 0) 116)) 116 (Bv x.m x.A x.n x.k);simpa using this
 have p:=y.own HI.o.row (fun b F (h:w.heap.size<=b)=>by have:=HI.o.vlt F;omega);rw[U.o] at p;unfold Bv Po at y H G p;generalize ((w.alloc _).alloc _)=w2 at *;refine(L6 base I L.length cap k _ w2 p hk (by omega) (TR L)).mono ?_;rintro e w3 ⟨rfl,s,z⟩;rw[JQ] at s;obtain⟨hN,hO,hF,E⟩:=TM HI.o U.o HX.o y s z;have z0:=E.cell off;have z1:=E.frozen off;rw[HI.o.c0,U.o] at z0;have W:¬g=w.heap.size:=by omega
 have v:Fr (fun k=>k=g) w3 (w3.setCell ⟨g,off,B0⟩ (.slice (Bs ⟨I,0,B0⟩) (L.length-1) cap)):=Fr.a6 g w3 off _;have f:=v.ak (z.ak H (fun h:w.heap.size=I=>by omega)) (fun h:w.heap.size=g=>by omega);have q:=v.ak (z.ak G (fun h:w.heap.size+1=I=>by omega)) (fun h:w.heap.size+1=g=>by omega);have aa:=E.lt;have HN:=LH hN;clear hN;have X:=LH hO;clear hO;have HF:=LH hF;clear hF;clear v E s z p y H G h0 h1 h2 h3 h4 h5 h6 h7 h8 c0;go_upto_region 5 with (fail)
 generalize w3.setCell ⟨g,off,B0⟩ (.slice (Bs ⟨I,0,B0⟩) (L.length-1) cap)=w4 at *;have a0:=f.cell 0;have a1:=f.cell 1;have a2:=f.cell 2;have a3:=f.cell 3;have a4:=f.cell 4;have a5:=f.cell 5;have a6:=f.cell 6;have a7:=f.cell 7;have a8:=f.cell 8;have f0:=f.frozen 0;have f1:=f.frozen 1;have f2:=f.frozen 2;have f3:=f.frozen 3;have f4:=f.frozen 4;have f5:=f.frozen 5;have f6:=f.frozen 6;have f7:=f.frozen 7;have f8:=f.frozen 8;have b0:=q.cell 0;have b1:=q.cell 1;have b2:=q.cell 2;have b3:=q.cell 3;have b4:=q.cell 4;have b5:=q.cell 5;have b6:=q.cell 6;have b7:=q.cell 7;have b8:=q.cell 8;simp only[Hi,N2,Ft] at a0 a1 a2 a3 a4 a5 a6 a7 a8 b0 b1 b2 b3 b4 b5 b6 b7 b8;have J:=LH f;clear f;go_wp2_with fail;have u:=JT w4 w.heap.size x;refine Za (ret_mr rfl _ _ w.heap.size x rfl (Gb (x0:=Po) J.o x)) rfl ⟨_,x,HX.o,rfl,HN.o.fr u (fun h=>W h) (fun b F h=>?_) (fun b F h=>?_) (fun b t cs F ht h=>?_),⟨u.own X.o.1 (fun b F h=>?_),X.o.2⟩,HF.o.trans' u (fun i hi (h:i=w.heap.size)=>absurd hi (by omega)),by rw[U.o];rfl⟩
 ·have e:I=b:=by simpa [Wc] using F
  have O:b=w.heap.size:=h;omega
 ·have O:b=w.heap.size:=h;have:=HI.o.down;rw[F] at this;have:=this.lt;omega
 ·have O:b=w.heap.size:=h;subst O;exact absurd rfl (Ae.ne_ J.o F (by rw[ht];decide))
 ·have O:b=w.heap.size:=h;subst O;exact Bh X.o.1 J.o (by decide) F
def FU:(Tryz.prog.info? 116).map (·.size)=Bs 9:=by kernel_rfl
def msgP (m:Ms) (w:D0) (e:WC) (w':D0):Prop:=e=.returned (De m B0 0 0)/\VP w.heap.size w w'
section
variable {w w':D0} {base g:Nat} {C V:O0} {L:List By} {d:Nd}
def q73 (h:BI w base g C V L d) (kind b k:Int) (R:0<=d.at_+b) (O:d.at_+b<d.nodes.length) :
  VY Tryz.prog 79 #[.pointer (Bs ⟨g,0,B0⟩),.int .i64 kind,.int .i64 b,.int .i64 k] w (msgP (d.msg kind b k) w):=by
 obtain⟨c0,c1,c2,c3,_,_,X⟩:=h.cells;obtain⟨A,c,rfl⟩:=h.dw;obtain⟨j,y⟩:∃ j:Nat,d.at_+b=j:=⟨(d.at_+b).toNat,by omega⟩
 have H:(j:Int)<d.nodes.length:=by omega
 obtain⟨Z,W,u,rfl,I,s,cu⟩:=(Rd.ay h.b7).ck (k:=j) (by omega);rw[V8] at s;have J:=h.br;have q:d.nodes[j]? = Bs d.nodes[j]:=L1 (by omega);rw[q] at s;obtain rfl:=WR s;have p:d.a4 b=d.nodes[j]:=by unfold Nd.a4;rw[y];simp[q]
 have f:∀ z,VP w.heap.size w z->msgP (d.msg kind b k) w (.returned (.agg #[.int .i64 kind,.int .i64 d.id,.int .i64 d.nodes[j],.int .i64 d.aa,.int .i64 k,.int .i64 0,.int .i64 0,.int .i64 0,.slice B0 0 0])) z:=fun z M=>⟨by unfold Nd.msg De Vo;rw[p],M⟩
 have U:=LH f;clear f;have Y:IntKind.i64.wrap (d.at_+b)=(j:Int):=by rw[V4 _ ⟨by omega,by omega⟩,y]
 have E:(0:Int)<=(j:Int):=by omega
 generalize d.nodes[j]=F at *;have G:d.nodes.length<=6:=J;generalize v:d.nodes.length=n at *;generalize d.at_=a at *;generalize d.id=i at *;generalize d.aa=ep at *;clear h q p y R O v;go_enter Tryz.func79,Tryz.ntmps79;go_wp2_with fail;refine XI 25 (by kernel_rfl) (by kernel_rfl) ?_;change wpStill _ _ (Yo _) _ _ _;simp only[WU,XM,Xb,Ys]
 repeat still_step
 refine wpStill_nil ?_;change Yt _ _ _ _ _ (Yo _);go_wp2_with fail;refine Za (results_cell_row rfl _ _ w.heap.size 116 _ (0,0) _ rfl (show _ from Ae.new w _ _) Tryz.underlying116 rfl FU) rfl ?_;exact U.o _ ((VK _ _).alloc (K0 _) _).drew
def fwdP (m:Ms) (n:Nat) (w:D0) (e:WC) (w':D0):Prop:=∃ A k,e=.returned (De m A n k)/\w'.ownsRow w.heap.size 45 3 (.slice A n k) n (m.cmd.ad.flatMap CR)/\VP w.heap.size w w'
def rd4 {w:D0} {l:List By} (h:Rd w B 4 A n (l.flatMap DM)) (hl:l.length=n) (v:j<n):∃ g off x,A=Bs ⟨g,off,B0⟩/\g<B/\l[j]? = Bs x/\
  w.cell? ⟨g,off+j*4,B0⟩=Bs (.int .i64 x.c.ai)/\w.cell? ⟨g,off+j*4+1,B0⟩=Bs (.int .i64 x.c.tx)/\w.cell? ⟨g,off+j*4+2,B0⟩=Bs (.int .i64 x.c.ag)/\w.cell? ⟨g,off+j*4+3,B0⟩=Bs (.slice x.A x.n x.k):=by
 obtain⟨g,off,e,k,f⟩:=h.2 (by omega);have i:l[j]? = Bs l[j]:=L1 (by omega);obtain⟨u,s,q,p⟩:=Vj l j _ i;exact⟨g,off,l[j],e,k,i,f _ _ u,f _ _ s,f _ _ q,f _ _ p⟩
def EF.reads {x:By} (h:EF w base x):FE w w.heap.size x.A x.n x.c.ad:=⟨h.2.1,Rd.ay h.1⟩
def EF.none_ {x:By} (h:EF w base x):x.A=B0->x.k=0:=fun e=>by
 rcases h.1.2 with ⟨f,_⟩|⟨k,cap,i,f,_⟩
 ·injection f
 ·rw[e] at f;injection f with f;cases f
def qa8 (h:BI w base g C V L d) (k:Nat) (x:By) (hx:L[k]? = Bs x) (h0:0<=d.at_) (h1:d.at_+1<d.nodes.length) :
  VY Tryz.prog 80 #[.pointer (Bs ⟨g,0,B0⟩),.int .i64 k] w (fwdP (d.forward k) x.n w):=by
 have aj:=(List.getElem?_eq_some_iff.1 hx).1;have ap:=h.len;have ac:d.forward k=⟨3,d.id,d.a4 1,d.aa,k,x.c⟩:=by
  unfold Nd.forward;rw[<- h.log,AM,V8,hx];rfl
 rw[ac];have I:VP w.heap.size w (w.alloc (.cells (Bv Po.m B0 0 0) 116)):=(VK _ _).alloc (K0 _) _;have J:=h.aC I;have HC:=LH (q73 J 3 1 k (by omega) h1);have u:Ae (w.alloc (.cells (Bv Po.m B0 0 0) 116)) w.heap.size 116 (Bv Po.m B0 0 0):=Ae.new w _ _;unfold Bv Po at HC u I J;have X:=LH u;clear u;have ag:=LH J;clear J;have Z:=LH I;clear I;have HX:=LH hx;clear hx;clear h ac;go_enter Tryz.func80,Tryz.ntmps80;go_wp2_with fail;refine HC.o.mono ?_;rintro e p ⟨rfl,G⟩;have s:=ag.o.aC G;have u:=X.o.below G X.o.lt;have ai:=LH (Z.o.trans (G.mono Z.o.size));clear HC ag X Z G;unfold Nd.msg Vo De;have y:=s.aC ((VK p.heap.size p).alloc (K0 _) (.cells #[.int .i64 3,.int .i64 d.id,.int .i64 (d.a4 1),.int .i64 d.aa,.int .i64 k,.int .i64 0,.int .i64 0,.int .i64 0,.slice B0 0 0] 116));obtain⟨A,c,rfl⟩:=s.cF;obtain⟨gl,ol,x',rfl,av,U,l0,l1,l2,l3⟩:=rd4 (Rd.ay s.row) rfl aj;rw[HX.o] at U;obtain rfl:=WR U;obtain⟨_,_,_,_,c4,_,kl⟩:=s.cells;clear U;have ak:=LH y;clear y;have HN:=LH s;clear s;have HA:=LH u;clear u;go_upto_region 3 with (fail)
 have i:Ae (p.alloc (.cells #[.int .i64 3,.int .i64 d.id,.int .i64 (d.a4 1),.int .i64 d.aa,.int .i64 k,.int .i64 x.c.ai,.int .i64 x.c.tx,.int .i64 x.c.ag,.slice x.A x.n x.k] 116)) p.heap.size 116 #[.int .i64 3,.int .i64 d.id,.int .i64 (d.a4 1),.int .i64 d.aa,.int .i64 k,.int .i64 x.c.ai,.int .i64 x.c.tx,.int .i64 x.c.ag,.slice x.A x.n x.k]:=Ae.new p _ _;have q:VP p.heap.size p (p.alloc (.cells #[.int .i64 3,.int .i64 d.id,.int .i64 (d.a4 1),.int .i64 d.aa,.int .i64 k,.int .i64 x.c.ai,.int .i64 x.c.tx,.int .i64 x.c.ag,.slice x.A x.n x.k] 116)):=(VK _ _).alloc (K0 _) _;have y:=HN.o.aC q;have ae:=HA.o.below q HA.o.lt;have au:p.heap.size<(p.alloc (.cells #[.int .i64 3,.int .i64 d.id,.int .i64 (d.a4 1),.int .i64 d.aa,.int .i64 k,.int .i64 x.c.ai,.int .i64 x.c.tx,.int .i64 x.c.ag,.slice x.A x.n x.k] 116)).heap.size:=by simp
 have ao:w.heap.size<p.heap.size:=HA.o.lt;have ab:w.heap.size≠p.heap.size:=by omega
 have Y:=LH (ai.o.trans (q.mono ai.o.size));clear q;clear HN HA ak l0 l1 l2 l3 c4;generalize (p.alloc _)=w2 at *;generalize p.heap.size=O at *;have F:=y.own x (S2 HX.o);have ah:=LH (qah w.heap.size w2.heap.size x.n x.k x.A x.c.ad w2 F.reads (K0 _) Y.o.size F.2.2 F.none_);have e8:=i.cell 8;simp only[Hi,Ft,N2] at e8;have a9:=LH ae;clear ae;have W:=LH i;clear i;clear F y;go_wp2_with fail;refine ah.o.mono ?_;rintro e w3 ⟨R,M,rfl,v,H⟩;clear ah e8;have i:=W.o.below H W.o.lt;have f:=a9.o.below H a9.o.lt;have al:=LH (Y.o.trans (H.mono Y.o.size));clear H W a9;have a0:=f.cell 0;have a1:=f.cell 1;have a2:=f.cell 2;have a3:=f.cell 3;have a4:=f.cell 4;have a5:=f.cell 5;have a6:=f.cell 6;have a7:=f.cell 7;have a8:=f.cell 8;have f0:=f.frozen 0;have f1:=f.frozen 1;have f2:=f.frozen 2;have f3:=f.frozen 3;have f4:=f.frozen 4;have f5:=f.frozen 5;have f6:=f.frozen 6;have f7:=f.frozen 7;have f8:=f.frozen 8;have b0:=i.cell 0;have b1:=i.cell 1;have b2:=i.cell 2;have b3:=i.cell 3;have b4:=i.cell 4;have b5:=i.cell 5;have b6:=i.cell 6;have b7:=i.cell 7;have b8:=i.cell 8;have z8:=i.frozen 8;simp only[Hi,N2,Ft] at a0 a1 a2 a3 a4 a5 a6 a7 a8 b0 b1 b2 b3 b4 b5 b6 b7 b8;have ad:=(Fr.a6 O w3 8 (.slice R x.n M)).ak f (fun h:w.heap.size=O=>ab h);have am:=LH ad;clear ad;have E:=LH v;clear v;have aq:=i.lt;have ar:=f.lt;have aa:∀ b,(WM R x.n M).ownBlock=Bs b->b≠O/\b≠w.heap.size:=fun b hb=>⟨fun e=>Bh E.o i (by decide) (e▸hb),fun e=>Bh E.o f (by decide) (e▸hb)⟩
 have af:=LH aa;clear aa;clear i f;have an:¬O=w.heap.size:=fun e=>ab e.symm
 go_wp2_with fail;refine Za (results_cell_row rfl _ _ w.heap.size 116 _ (0,0) _ rfl (Gb (x0:=Po) am.o ⟨⟨3,d.id,d.a4 1,d.aa,k,x.c⟩,R,x.n,M⟩) Tryz.underlying116 rfl FU) rfl ?_;have z:=JT (w3.setCell ⟨O,8,B0⟩ (.slice R x.n M)) w.heap.size ⟨⟨3,d.id,d.a4 1,d.aa,k,x.c⟩,R,x.n,M⟩;refine⟨R,M,rfl,z.own ((Fr.a6 O w3 8 (.slice R x.n M)).own E.o (fun b hb=>(af.o b hb).1)) (fun b hb=>(af.o b hb).2),?_⟩;exact al.o.trans ((((Fr.a6 O w3 8 (.slice R x.n M)).below (B:=w.heap.size) (fun b (e:b=O)=>by rw[e];omega) (by omega))).trans (z.below (fun b (e:b=w.heap.size)=>by omega) (by simp[World.setCell];omega)))
end
def BA (B:Nat) (ms:List Ms) (V:O0) (w':D0):Prop:=
 ∃ A k M,V=.slice A ms.length k/\w'.ownsRow B 116 9 V M.length (M.flatMap Ct)/\AF M=ms/\∀ x∈M,DR w' B x/\x.n<=100000
def BA.nil (B:Nat) (w':D0):BA B [] (.slice B0 0 0) w':=⟨B0,0,[],rfl,VZ _ _ _ _,rfl,fun _ h=>(nomatch h)⟩
def q9t {m:Ms} (f:w'.ownsRow B 116 9 v 1 (Bv m A n k).toList) (h:w'.ownsRow B 45 3 (.slice A n k) n (m.cmd.ad.flatMap CR)) (hl:m.cmd.ad.length=n) (p:n<=100000):BA B [m] v w':=by
 obtain⟨q,c,rfl,_,_⟩:=AR f;refine⟨q,c,[⟨m,A,n,k⟩],rfl,by simpa [Ct] using f,rfl,fun x i=>?_⟩;rw[VW] at i;subst i;exact⟨⟨h,hl⟩,p⟩
def BA.aC {w:D0} {ms:List Ms} {V:O0} (h:BA B ms V w) (s:VP w.heap.size w w'):BA B ms V w':=by
 obtain⟨A,k,M,e,p,y,u⟩:=h;have v:Fr (fun b=>w.heap.size<=b) w w':=⟨s.os,s.tape,s.output,s.size,fun i _ E=>s.block i (by omega)⟩
 exact⟨A,k,M,e,v.own p (fun b q z=>by have:=(p.lt b q).2;omega),y,fun x f=>⟨⟨v.own (u x f).1.1 (fun b q z=>by have:=((u x f).1.1.lt b q).2;omega),(u x f).1.2⟩,(u x f).2⟩⟩
def BA.lower {w:D0} {B':Nat} {ms:List Ms} {V:O0} (h:BA B ms V w) (q:B'<=B):BA B' ms V w:=by
 obtain⟨A,k,M,e,i,s,p⟩:=h;exact⟨A,k,M,e,K8 i q,s,fun x f=>⟨⟨K8 (p x f).1.1 q,(p x f).1.2⟩,(p x f).2⟩⟩
section
variable {w w':D0} {base g:Nat} {C V:O0} {L:List By} {d:Nd}
def BI.cb (h:BI w base g C V L d) {b:Nat} (f:C.ownBlock=Bs b\/V.ownBlock=Bs b\/∃ x∈L,(WM x.A x.n x.k).ownBlock=Bs b):b≠g:=by
 rintro rfl;rcases f with f|f|⟨x,i,f⟩
 ·exact Bh h.b7 h.ak (by decide) f
 ·exact Bh h.row h.ak (by decide) f
 ·exact Bh (h.own x i).1 h.ak (by decide) f
def BI.bI (h:BI w base g C V L d) {k:Int} (s:0<=k) (q:k<=500):BI (w.setCell ⟨g,5,B0⟩ (.int .i64 k)) base g C V L { d with an:=k }:=by
 have p:=Fr.a6 g w 5 (.int .i64 k);refine⟨h.ak.aH 5 _,p.own h.b7 (fun b f e=>h.cb (.inl f) e),p.own h.row (fun b f e=>h.cb (.inr (.inl f)) e),fun x i=>⟨p.own (h.own x i).1 (fun b f e=>h.cb (.inr (.inr ⟨x,i,f⟩)) e),(h.own x i).2⟩,h.log,h.len,h.br,h.at0,h.ck,s,q,h.lo⟩
def CO (base g:Nat) (C V:O0) (L:List By) (d:Nd) (w:D0) (e:WC) (w':D0):Prop:=
 ∃ f,e=.returned f/\BA w.heap.size d.tick.2 f w'/\BI w' base g C V L d.tick.1/\Fr (fun b=>b=g) w w'
def CO.of {h:Nd} {ms:List Ms} (i:d.tick=(h,ms)) (k:BA w.heap.size ms v w') (p:BI w' base g C V L h) (q:Fr (fun b=>b=g) w w'):CO base g C V L d w (.returned v) w':=by
 unfold CO;rw[i];exact⟨v,rfl,k,p,q⟩
def q8g (h:BI w base g C V L d):VY Tryz.prog 55 #[.pointer (Bs ⟨g,0,B0⟩)] w (CO base g C V L d w):=by
 by_cases ha:d.at_<0
 ·have f:CO base g C V L d w (.returned (.slice B0 0 0)) w:=CO.of (by unfold Nd.tick;rw[if_pos ha]) (BA.nil _ _) h (Fr.refl _ _);obtain⟨_,_,_,c3,_,_,kl⟩:=h.cells;have U:=LH f;clear f h;go_enter Tryz.func55,Tryz.ntmps55;go_wp2_with fail;go_ret;exact U.o
 ·cases G:d.tail
  ·
   have q:d.tick=(d,[d.msg 1 1 d.log.length]):=by unfold Nd.tick;rw[if_neg ha,G];rfl
   have a2:d.at_+1<d.nodes.length:=by
    have:=h.ck;rcases(show d.at_+1<d.nodes.length\/d.at_=(d.nodes.length:Int)-1 by omega) with h1|h1
    ·exact h1
    ·exfalso;unfold Nd.tail at G;rw[decide_eq_true (show d.at_>=0 by omega),YB] at G;rw[h1] at G;simp at G
   obtain⟨_,_,_,c3,_,_,kl⟩:=h.cells;have R:=LH (q8i h);rw[G] at R;have H:=LH h;clear h;go_enter Tryz.func55,Tryz.ntmps55;go_wp2_with fail;refine R.o.mono ?_;rintro e w1 ⟨rfl,y⟩;have p:=H.o.aC y;obtain⟨A,c,rfl⟩:=p.cF;obtain⟨_,_,_,_,c4,_,X⟩:=p.cells;have Z:=p.len;have E:=p.bA;clear R c3;have HM:=LH (q73 p 1 1 L.length (by omega) a2);have a0:=LH p;clear p;have W:=LH y;clear y;go_wp2_with fail;refine HM.o.mono ?_;rintro e w2 ⟨rfl,O⟩;have s:=a0.o.aC O;have F:=LH (W.o.trans (O.mono W.o.size));clear HM O a0 W c4;have I:=LH s;clear s;unfold De;go_wp2_with (at_builtin;refine stop ?_)
   refine Df ?_;refine PD _ _ rfl (.tmp 36) (.tmp 44) 86 rfl w2.heap.size 116 _ 9 88 Tryz.underlying86 q75 rfl (by decide) _ 0 [] #[.int .i64 1,.int .i64 d.id,.int .i64 (d.a4 1),.int .i64 d.aa,.int .i64 L.length,.int .i64 0,.int .i64 0,.int .i64 0,.slice B0 0 0] rfl (VZ _ _ _ _) 1 rfl _ rfl rfl (by simp[WB]) (by unfold Wo;omega) (by omega) (K0 _) ?_;intro v' w3 u z;have v:Fr (fun _=>False) w2 w3:=z.1.mono (fun i hi e=>by cases e);have f:CO base g (C) (.slice A L.length c) L d w (.returned v') w3:=by
    refine CO.of q (q9t (A:=B0) (n:=0) (k:=0) (m:=d.msg 1 1 d.log.length) ?_ (VZ _ _ _ _) rfl (by omega)) (I.o.aC v.bb) ((Below.fr F.o _).trans (v.mono (fun _ _ h=>h.elim)));rw[E];exact K8 u F.o.size
   have U:=LH f;clear f u z v;go_wp2_with fail;go_ret;exact U.o
  ·
   obtain⟨_,_,_,c3,_,_,kl⟩:=h.cells;have R:=LH (q8i h);rw[G] at R;have H:=LH h;clear h;go_enter Tryz.func55,Tryz.ntmps55;go_wp2_with fail;refine R.o.mono ?_;rintro e w1 ⟨rfl,y⟩;have p:=H.o.aC y;obtain⟨A,c,rfl⟩:=p.cF;obtain⟨_,_,_,a3,c4,c5,X⟩:=p.cells;have f5:=p.ak.frozen 5;have Z:=p.len;have E:=p.bA;have s:=p.bI (k:=L.length) (by omega) (by omega);have F:=LH ((Below.fr y (fun b=>b=g)).trans (Fr.a6 g w1 5 (.int .i64 L.length)));clear R c3 p H y;by_cases J:d.at_ > 0
   ·have q:d.tick=({ d with an:=d.log.length },[d.msg 4 (-1) d.log.length]):=by unfold Nd.tick;rw[if_neg (by omega),G,if_pos rfl,if_pos J]
    have HM:=LH (q73 s 4 (-1) L.length (show 0<=d.at_ + -1 by omega) (show d.at_ + -1<d.nodes.length by have:=s.ck;simp only at this;omega));have d5:=s.cells.2.2.2.2.2.1;have a5:=s.cells.2.2.2.2.2.2;have I:=LH s;clear s;go_wp2_with fail;clear a3 c4 c5 f5 X;generalize (w1.setCell _ _)=w2 at *;refine HM.o.mono ?_;rintro e w3 ⟨rfl,M⟩;have Y:=I.o.aC M;have a1:=LH (F.o.trans (Below.fr M _));clear HM M I;have a4:=LH Y;clear Y;unfold De;go_wp2_with (at_builtin;refine stop ?_)
    refine Df ?_;refine PD _ _ rfl (.tmp 17) (.tmp 24) 86 rfl w3.heap.size 116 _ 9 88 Tryz.underlying86 q75 rfl (by decide) _ 0 [] #[.int .i64 4,.int .i64 d.id,.int .i64 (d.a4 (-1)),.int .i64 d.aa,.int .i64 L.length,.int .i64 0,.int .i64 0,.int .i64 0,.slice B0 0 0] rfl (VZ _ _ _ _) 1 rfl _ rfl rfl (by simp[WB]) (by unfold Wo;omega) (by omega) (K0 _) ?_;intro v' w4 u z;have v:Fr (fun _=>False) w3 w4:=z.1.mono (fun i hi e=>by cases e);have f:CO base g (C) (.slice A L.length c) L d w (.returned v') w4:=by
     refine CO.of q (q9t (A:=B0) (n:=0) (k:=0) (m:=d.msg 4 (-1) d.log.length) ?_ (VZ _ _ _ _) rfl (by omega)) ?_ (a1.o.trans (v.mono (fun _ _ h=>h.elim)))
     ·rw[E];exact K8 u a1.o.size
     ·rw[E];exact a4.o.aC v.bb
    have U:=LH f;clear f u z v;go_wp2_with fail;go_ret;exact U.o
   ·have q:d.tick=({ d with an:=d.log.length },[]):=by unfold Nd.tick;rw[if_neg (by omega),G,if_pos rfl,if_neg J]
    have f:CO base g C (.slice A L.length c) L d w (.returned (.slice B0 0 0)) (w1.setCell ⟨g,5,B0⟩ (.int .i64 L.length)):=CO.of q (BA.nil _ _) (by rw[E];exact s) F.o;have U:=LH f;clear f s;go_wp2_with fail;go_ret;exact U.o
end
def Gj:(Tryz.prog.info? 69).map (fun i=>(i.zero,i.size,i.bytes))=Bs (Bs (.agg #[.int .i64 0,.int .i64 0,.int .i64 0,.slice B0 0 0]),4,48):=by kernel_rfl
def OR:(Tryz.prog.info? 3).map (fun i=>(i.zero,i.size,i.bytes))=Bs (Bs (.int .i64 0),1,8):=by kernel_rfl
def Un (l:List By):∀ u∈l.flatMap DM,u.oneCell'=VJ:=fun u h=>by
 obtain⟨p,_,f⟩:=List.mem_flatMap.1 h;unfold DM at f;simp only[X4,XX,or_false] at f;rcases f with rfl|rfl|rfl|rfl <;> rfl
def RA (l:List Int):∀ u∈l.map (Wp .i64),u.oneCell'=VJ:=fun u f=>by
 obtain⟨p,_,rfl⟩:=List.mem_map.1 f;rfl
def HU (base:Nat) (n:Nat) (l:List By) (w:D0) (e:WC) (w':D0):Prop:=
 ∃ A k,e=.returned (.slice A n k)/\w'.ownsRow base 69 4 (.slice A n k) n (l.flatMap DM)/\VP w.heap.size w w'/\(∀ b,Wc (.slice A n k)=Bs b->w.heap.size<=b)
def Me (base n:Nat) (V:O0) (l:List By) (w:D0) (h:w.ownsRow base 69 4 V n (l.flatMap DM)) (i:base<=w.heap.size) (I:n<=100000) :
  VY Tryz.prog 76 #[V] w (HU base n l w):=by
 rcases h.2 with ⟨rfl,s⟩|⟨g,cap,G,rfl,_⟩
 ·subst s;have p:HU base 0 l w (.returned (.slice B0 0 0)) w:=⟨B0,0,rfl,h,VK _ _,fun b i=>by simp[Wc] at i⟩
  have y:=LH p;clear p h;have k:=XV w 66 _ B0 0 0 0 0 Tryz.underlying66;go_enter Tryz.func76,Tryz.ntmps76;go_wp2_with fail;go_ret;exact y.o
 ·have H:=LH h;clear h;have k:=XV w 66 _ (Bs ⟨g,0,B0⟩) n cap 0 0 Tryz.underlying66;go_enter Tryz.func76,Tryz.ntmps76;go_wp2_with (at_builtin;refine stop ?_)
  refine Df ?_;have hs:VP w.heap.size w (w.alloc (.cells #[] 69)):=(VK _ _).alloc (K0 _) _;have q:=(Rd.ay H.o).below hs;refine q2e _ rfl (.tmp 5) (.tmp 6) 66 rfl base 69 _ 4 48 Tryz.underlying66 Gj rfl (by decide) _ 0 [] rfl (q9r w base _ _ i) w.heap.size _ n cap (l.flatMap DM) rfl q.reads (Un l) (by unfold Wo;omega) (by omega) (by simp;omega) ?_;intro v' w' f u;rw[Wx,Xt] at f;obtain⟨z,c,rfl,_,_⟩:=AR f;have p:HU base n l w (.returned (.slice z n c)) w':=⟨z,c,rfl,f,hs.trans (u.below (fun g E=>by have e:Bs w.heap.size=Bs g:=E;injection e with e;omega) (by simp)),fun b i=>by
   rcases u.2 with e|⟨J,e,v⟩
   ·have F:Wc (.slice z n c)=Bs w.heap.size:=e;rw[F] at i;injection i with i;omega
   ·rw[e] at i;injection i with i;simp at v;omega⟩
  have y:=LH p;clear p f u hs;go_wp2_with fail;go_ret;exact y.o
def HJ (base:Nat) (n:Nat) (l:List Int) (w:D0) (e:WC) (w':D0):Prop:=
 ∃ A k,e=.returned (.slice A n k)/\w'.ownsRow base 3 1 (.slice A n k) n (l.map (Wp .i64))/\VP w.heap.size w w'/\(∀ b,Wc (.slice A n k)=Bs b->w.heap.size<=b)
def Md (base n:Nat) (V:O0) (l:List Int) (w:D0) (h:w.ownsRow base 3 1 V n (l.map (Wp .i64))) (i:base<=w.heap.size) (I:n<=100000) :
  VY Tryz.prog 105 #[V] w (HJ base n l w):=by
 rcases h.2 with ⟨rfl,s⟩|⟨g,cap,G,rfl,_⟩
 ·subst s;have p:HJ base 0 l w (.returned (.slice B0 0 0)) w:=⟨B0,0,rfl,h,VK _ _,fun b i=>by simp[Wc] at i⟩
  have y:=LH p;clear p h;have k:=XV w 26 _ B0 0 0 0 0 Tryz.underlying26;go_enter Tryz.func105,Tryz.ntmps105;go_wp2_with fail;go_ret;exact y.o
 ·have H:=LH h;clear h;have k:=XV w 26 _ (Bs ⟨g,0,B0⟩) n cap 0 0 Tryz.underlying26;go_enter Tryz.func105,Tryz.ntmps105;go_wp2_with (at_builtin;refine stop ?_)
  refine Df ?_;have hs:VP w.heap.size w (w.alloc (.cells #[] 3)):=(VK _ _).alloc (K0 _) _;have q:=(Rd.ay H.o).below hs;refine q2e _ rfl (.tmp 5) (.tmp 6) 26 rfl base 3 _ 1 8 Tryz.underlying26 OR rfl (by decide) _ 0 [] rfl (q9r w base _ _ i) w.heap.size _ n cap (l.map (Wp .i64)) rfl q.reads (RA l) (by unfold Wo;omega) (by omega) (by simp;omega) ?_;intro v' w' f u;rw[Wx,Xt] at f;obtain⟨z,c,rfl,_,_⟩:=AR f;have p:HJ base n l w (.returned (.slice z n c)) w':=⟨z,c,rfl,f,hs.trans (u.below (fun g E=>by have e:Bs w.heap.size=Bs g:=E;injection e with e;omega) (by simp)),fun b i=>by
   rcases u.2 with e|⟨J,e,v⟩
   ·have F:Wc (.slice z n c)=Bs w.heap.size:=e;rw[F] at i;injection i with i;omega
   ·rw[e] at i;injection i with i;simp at v;omega⟩
  have y:=LH p;clear p f u hs;go_wp2_with fail;go_ret;exact y.o
section
variable {w w':D0} {base g:Nat} {C V:O0} {L:List By} {d:Nd}
def LogP (base:Nat) (L:List By) (w:D0) (e:WC) (w':D0):Prop:=∃ A k,e=.returned (.slice A L.length k)/\w'.ownsRow base 69 4 (.slice A L.length k) L.length (L.flatMap DM)/\VP w.heap.size w w'/\(∀ b,Wc (.slice A L.length k)=Bs b->w.heap.size<=b)
def qa0 (h:BI w base g C V L d):VY Tryz.prog 46 #[.pointer (Bs ⟨g,0,B0⟩)] w (LogP base L w):=by
 obtain⟨_,_,_,_,z,_,y⟩:=h.cells;have u:=h.lo;have q:=LH (Me base L.length V L w h.row (by omega) (by have:=h.len;omega));clear h;go_enter Tryz.func46,Tryz.ntmps46;go_wp2_with fail;refine q.o.mono ?_;rintro e s ⟨A,k,rfl,p,i,f⟩;have v:=LH (show LogP base L w (.returned (.slice A L.length k)) s from⟨A,k,rfl,p,i,f⟩);clear q p i f;go_wp2_with fail;go_ret;exact v.o
end
section
variable {w w' w3 w4:D0} {base g:Nat} {C V V2:O0} {L:List By} {d:Nd}
def BI.push (h:BI w base g C V L d) (F:Fr (fun k=>w.heap.size<=k) w w3) {x:By} (M:EF w3 w.heap.size x) (G:Av w3 w4 V.ownBlock V2.ownBlock)
  (z:w4.ownsRow base 69 4 V2 (L.length+1) (L.flatMap DM++DM x)) (R:L.length<500) :
  BI (w4.setCell ⟨g,4,B0⟩ V2) base g C V2 (L++[x]) (d.push x.c)/\Fr (CC g C V L) w (w4.setCell ⟨g,4,B0⟩ V2)/\(∀ b,CC g C V2 (L++[x]) b->CC g C V L b\/w.heap.size<=b):=by
 have E:base<=w.heap.size:=by have:=h.lo;have:=h.ak.lt;omega
 have u:=h.fr F (fun b f O=>by have:=(h.aw f).2;omega);have J:¬Bs g=V.ownBlock:=fun e=>Bh u.row u.ak (by decide) e.symm
 have v:=G.1.ak u.ak J;have q:=Fr.a6 g w4 4 V2;have U:∀ b,(WM x.A x.n x.k).ownBlock=Bs b->w.heap.size<=b/\b<w3.heap.size:=fun b f=>M.1.lt b f
 have s:∀ y:By,EF w3 base y->EF (w4.setCell ⟨g,4,B0⟩ V2) base y:=fun y p=>
  ⟨q.own (G.1.own p.1 (fun b f e=>ES p.1 u.row (by decide) f e.symm)) (fun b f (e:b=g)=>Bh (G.1.own p.1 (fun b f e=>ES p.1 u.row (by decide) f e.symm)) v (by decide) (e▸f)),p.2⟩
 refine⟨⟨?_,?_,?_,?_,?_,?_,h.br,h.at0,h.ck,h.st0,h.b3,h.lo⟩,?_,?_⟩
 ·have:=v.aH 4 V2;unfold Nd.push;simpa using this
 ·have H:=G.1.own u.b7 (fun b f e=>ES u.b7 u.row (by decide) f e.symm);exact q.own H (fun b f (e:b=g)=>Bh H v (by decide) (e▸f))
 ·have H:=q.own z (fun b f (e:b=g)=>Bh z v (by decide) (e▸f));rw[VS,WG];simpa using H
 ·intro y p;rcases List.mem_append.1 p with p|p
  ·exact s y (u.own y p)
  ·rw[VW] at p;subst p;exact s y ⟨K8 M.1 E,M.2⟩
 ·unfold AM Nd.push;rw[Xd];simp only;rw[<- h.log];rfl
 ·simp;omega
 ·refine((F.mono (T:=fun b=>CC g C V L b\/w.heap.size<=b) (fun i I O=>absurd I (by omega))).trans' G.1 (fun i _ e=>.inl (.inr (.inr (.inl e.symm))))).trans' q (fun i _ (e:i=g)=>.inl (.inl e)) |>.mono (fun i I O=>O.elim id (fun u=>absurd I (by omega)))
 ·intro b f;rcases f with f|f|f|⟨y,p,f⟩
  ·exact .inl (.inl f)
  ·exact .inl (.inr (.inl f))
  ·rcases G.2 with e|⟨W,e,hl⟩
   ·rw[e] at f;exact .inl (.inr (.inr (.inl f)))
   ·rw[e] at f;injection f with f;exact .inr (by have:=F.size;omega)
  ·rcases List.mem_append.1 p with p|p
   ·exact .inl (.inr (.inr (.inr ⟨y,p,f⟩)))
   ·rw[VW] at p;subst p;exact .inr (U b f).1
def Su (base g:Nat) (C V:O0) (L:List By) (d:Nd) (c:Cm) (w:D0) (e:WC) (w':D0):Prop:=
 ∃ f V2 x,e=.returned f/\x.c=c/\BA w.heap.size (d.grow c).2 f w'/\BI w' base g C V2 (L++[x]) (d.grow c).1/\Fr (CC g C V L) w w'/\∀ b,CC g C V2 (L++[x]) b->CC g C V L b\/w.heap.size<=b
def GX (w:D0) (cs:Array O0) (T:VV) (size:Nat) (hs:cs.size=size):(w.alloc (.cells cs T)).ownsRow w.heap.size T size (.slice (Bs ⟨w.heap.size,0,B0⟩) 1 1) 1 cs.toList:=
 ⟨by simp[hs],.inr ⟨w.heap.size,1,cs,rfl,K0 _,by simpa [Ae] using Ae.new w T cs,K0 _,by decide,by simp[hs],V0 (by simp[hs])⟩⟩
def Ou (d:Nd) (c:Cm):(d.push c).tail=d.tail:=rfl
def JK (h:BI w base g C V L d) (x:By) (hR:FE w w.heap.size x.A x.n x.c.ad) (hk:x.A=B0->x.k=0) (hn:x.n<=100000) (ah:L.length<500) (ha:0<=d.at_) :
  VY Tryz.prog 81 #[.pointer (Bs ⟨g,0,B0⟩),.agg #[.int .i64 x.c.ai,.int .i64 x.c.tx,.int .i64 x.c.ag,.slice x.A x.n x.k]] w (Su base g C V L d x.c w):=by
 have Y:VP w.heap.size w (w.alloc (.cells #[.int .i64 x.c.ai,.int .i64 x.c.tx,.int .i64 x.c.ag,.slice x.A x.n x.k] 69)):=(VK _ _).alloc (K0 _) _;have av:=LH (qah w.heap.size w.heap.size x.n x.k x.A x.c.ad (w.alloc (.cells #[.int .i64 x.c.ai,.int .i64 x.c.tx,.int .i64 x.c.ag,.slice x.A x.n x.k] 69)) ⟨hR.1,hR.2.below Y⟩ Y.size Y.size hn hk);have ad:=LH (Ae.new w 69 #[.int .i64 x.c.ai,.int .i64 x.c.tx,.int .i64 x.c.ag,.slice x.A x.n x.k]);have ac:=LH Y;clear Y;have ap:=LH hR.1;clear hR;have H:=LH h;clear h;go_enter Tryz.func81,Tryz.ntmps81;go_wp2_with fail;refine av.o.mono ?_;rintro e w2 ⟨A2,k2,rfl,z,X⟩;have Z:=LH (ad.o.below X ad.o.lt);have aC:=LH (ac.o.trans (X.mono ac.o.size));clear av X ad ac;have z3:=Z.o.frozen 3;have y3:=Z.o.cell 3;have yl:=Z.o.lt;simp only[Hi,Ft,N2] at y3;have M:=Fr.a6 w.heap.size w2 3 (.slice A2 x.n k2);have O:=M.own z (fun b hb (e:b=w.heap.size)=>Bh z Z.o (by decide) (e▸hb));have u:=Z.o.aH 3 (.slice A2 x.n k2);simp only[List.setIfInBounds_toArray,XH,List.set_cons_zero] at u;have a8:Fr (fun k=>w.heap.size<=k) w (w2.setCell ⟨w.heap.size,3,B0⟩ (.slice A2 x.n k2)):=((Below.fr aC.o (fun k=>w.heap.size<=k))).trans (M.mono (fun i _ e=>Nat.le_of_eq e.symm));go_upto_region 2 with (fail)
 clear z3 y3 yl M z;generalize (w2.setCell _ _)=w3 at *;have h3:=H.o.fr a8 (fun b hb h2=>by have:=(H.o.aw hb).2;omega);obtain⟨A,cc,rfl⟩:=h3.cF;obtain⟨_,_,_,_,n4,_,kl⟩:=h3.cells;have b0:=u.cell 0;have b1:=u.cell 1;have b2:=u.cell 2;have b3:=u.cell 3;have bl:=u.lt;simp only[Hi,Ft,N2] at b0 b1 b2 b3;have hO:EF w3 w.heap.size ⟨x.c,A2,x.n,k2⟩:=⟨O,ap.o,hn⟩
 have HO:=LH hO;clear hO O;have aE:=LH a8;clear a8;have ar:=LH u;clear u;have aa:=LH h3.row;have af:=h3.lo;have ab:=LH h3;clear h3;refine nW ?_;refine CF (fun w'=>w'.cell? ⟨g,4,B0⟩=Bs (.slice A L.length cc)/\w'.cell? ⟨w.heap.size,0,B0⟩=Bs (.int .i64 x.c.ai)/\w'.cell? ⟨w.heap.size,1,B0⟩=Bs (.int .i64 x.c.tx)/\w'.cell? ⟨w.heap.size,2,B0⟩=Bs (.int .i64 x.c.ag)/\w'.cell? ⟨w.heap.size,3,B0⟩=Bs (.slice A2 x.n k2)) 8 (fun _ _ _ _ _ h=>h) (fun F=>?_);have G:w3.drew.cell? ⟨g,4,B0⟩=Bs (.slice A L.length cc)/\w3.drew.cell? ⟨w.heap.size,0,B0⟩=Bs (.int .i64 x.c.ai)/\w3.drew.cell? ⟨w.heap.size,1,B0⟩=Bs (.int .i64 x.c.tx)/\w3.drew.cell? ⟨w.heap.size,2,B0⟩=Bs (.int .i64 x.c.ag)/\w3.drew.cell? ⟨w.heap.size,3,B0⟩=Bs (.slice A2 x.n k2):=⟨n4,b0,b1,b2,b3⟩
 refine nF 0 F G ?_;refine nF 1 F G ?_;refine nF 2 F G ?_;refine nF 3 F G ?_;refine nB 4 rfl rfl F G (fun w' a4=>by obtain⟨q0,q1,q2,q3,q4⟩:=a4;go_simp;rfl) ?_;refine nB 5 rfl rfl F G (fun w' a4=>by obtain⟨q0,q1,q2,q3,q4⟩:=a4;go_simp;rfl) ?_;have f:∀ o q p,q<w3.heap.size->(w3.alloc o).cell? ⟨q,p,B0⟩=w3.cell? ⟨q,p,B0⟩:=fun o q p hq=>WX w3 o ⟨q,p,B0⟩ hq
 refine nG 6 (fun K J=>?_);go_simp;refine J _ _ (fun _=>⟨(f _ _ _ kl).trans n4,(f _ _ _ bl).trans b0,(f _ _ _ bl).trans b1,(f _ _ _ bl).trans b2,(f _ _ _ bl).trans b3⟩) ?_;clear J K G f;refine nG 7 (fun K J=>?_);refine SQ w3.drew w3.heap.size rfl _ (.tmp 13) (.tmp 15) 66 rfl base 69 _ 4 48 Tryz.underlying66 Gj rfl (by decide) _ _ _ #[.int .i64 x.c.ai,.int .i64 x.c.tx,.int .i64 x.c.ag,.slice A2 x.n k2] rfl aa.o 1 rfl _ rfl rfl (by simp[WB]) (by unfold Wo;omega) (by omega) (by show base<=w3.heap.size;omega) ?_;intro V2 w4 y E;obtain⟨A4,c4,rfl,_,_⟩:=AR y;have I:Av w3 w4 (Wc (.slice A L.length cc)) (Wc (.slice A4 (L.length+1) c4)):=⟨⟨E.1.os,E.1.tape,E.1.output,E.1.size,E.1.block⟩,E.2⟩
 obtain⟨al,am,a3⟩:=BI.push H.o aE.o HO.o I y ah;have ai:¬Bs g=Wc (.slice A L.length cc):=fun e=>Bh aa.o ab.o.ak (by decide) e.symm
 have ae:¬Bs w.heap.size=Wc (.slice A L.length cc):=fun e=>by have:=(H.o.row.lt w.heap.size e.symm).2;omega
 have a0:=I.1.ak ab.o.ak ai;have U:=I.1.ak ar.o ae;have y0:=a0.cell 4;have y1:=a0.frozen 4;have yl:=a0.lt;simp only[Hi,Ft,N2] at y0;have an:=Wm y0 (Wm (U.cell 0) (Wm (U.cell 1) (Wm (U.cell 2) (U.cell 3))));have aw:=LH an;clear an;have aq:=LH al;clear al;have au:=LH am;clear am;have ao:=LH a3;clear a3 y E I ai ae a0 U;go_simp;refine J _ _ (fun _=>aw.o) ?_;clear J K;refine nG 8 (fun K J=>?_);go_simp;refine J _ _ nZ ?_;clear J K;refine nG 9 (fun K J=>?_);go_simp;refine J _ _ nZ ?_;clear J K;refine nG 10 (fun K J=>?_);go_simp;refine J _ _ nZ ?_;clear J K;refine nX ?_;clear F y0 y1 yl aw ar ab aa n4 b0 b1 b2 b3 bl kl af;generalize (w4.setCell _ _)=w5 at *;have a9:=LH (q8i aq.o);rw[Ou] at a9;go_wp2_with fail;refine a9.o.mono ?_;rintro e w6 ⟨rfl,a6⟩;have R:=aq.o.aC a6;have a2:=LH (au.o.trans (Below.fr a6 _));clear a9 au a6;cases ht:d.tail
 ·have aB:d.at_+1<d.nodes.length:=by
   have:=H.o.ck;rcases(show d.at_+1<d.nodes.length\/d.at_=(d.nodes.length:Int)-1 by omega) with h1|h1
   ·exact h1
   ·exfalso;unfold Nd.tail at ht;rw[decide_eq_true (show d.at_>=0 by omega),YB,h1] at ht;simp at ht
  have aj:=qa8 R L.length ⟨x.c,A2,x.n,k2⟩ (by simp) (show 0<=d.at_ from ha) aB;have ag:d.log.length=L.length:=H.o.bA;obtain⟨_,_,_,_,n4,_,kl⟩:=R.cells;have hW:=LH aj;clear aj;have aD:=LH R;clear R;go_wp2_with fail;refine hW.o.mono ?_;rintro e w7 ⟨A7,k7,rfl,v,a5⟩;have W:d.grow x.c=(d.push x.c,[(d.push x.c).forward L.length]):=by unfold Nd.grow;rw[ht,ag];rfl
  have ak:(d.push x.c).forward L.length=⟨3,d.id,d.a4 1,d.aa,L.length,x.c⟩:=by
   unfold Nd.forward Nd.push;rw[<- ag];simp;rfl
  rw[ak] at v ⊢;unfold De;have a1:VP w7.heap.size w7 (w7.alloc (.cells (Bv ⟨3,d.id,d.a4 1,d.aa,L.length,x.c⟩ A7 x.n k7) 116)):=(VK _ _).alloc (K0 _) _;have a7:=a2.o.trans (Below.fr a5 (CC g C (.slice A L.length cc) L));have s:Su base g C (.slice A L.length cc) L d x.c w (.returned (.slice (Bs ⟨w7.heap.size,0,B0⟩) 1 1)) (w7.alloc (.cells (Bv ⟨3,d.id,d.a4 1,d.aa,L.length,x.c⟩ A7 x.n k7) 116)):=by
   refine⟨_,_,⟨x.c,A2,x.n,k2⟩,rfl,rfl,?_,?_,a7.trans (Below.fr a1 _),ao.o⟩
   ·rw[W,ak];refine q9t (A:=A7) (n:=x.n) (k:=k7) (K8 (GX w7 _ _ 9 rfl) a7.size) ?_ ap.o hn;have ax:=(Below.fr a1 (fun _=>False)).own v (fun _ _ h=>h);exact K8 ax a2.o.size
   ·rw[W];exact(aD.o.aC a5).aC a1
  unfold Bv at s;have HF:=LH s;clear s n4 v a5 a1 a7;go_wp2_with fail;go_ret;exact HF.o
 ·have HK:=LH (q8g R);go_wp2_with fail;refine HK.o.mono ?_;rintro e w7 ⟨V1,rfl,ay,az,aA⟩;have W:d.grow x.c=(d.push x.c).tick:=by unfold Nd.grow;rw[ht,if_pos rfl]
  have s:Su base g C (.slice A L.length cc) L d x.c w (.returned V1) w7:=⟨V1,_,⟨x.c,A2,x.n,k2⟩,rfl,rfl,by rw[W];exact ay.lower a2.o.size,by rw[W];exact az,a2.o.trans (aA.mono (fun _ _ e=>.inl e)),ao.o⟩
  have HF:=LH s;clear s;go_wp2_with fail;go_ret;exact HF.o
end
section
variable {P:Xc} {ops:Array X7} {Q:Exit->Act->D0->Prop} {md:XJ} {N:Nat} {C:D0->Prop}
def ntwo (i j:Nat) {q:X7} {fuel:Nat} {a:Act} {w:D0} (E:Wu md ops f=[i,j]) (H:ops[i]? = Bs s) (G:ops[j]? = Bs q)
  (v:Ww s (XK ops a.tmps)=VJ) (u:Ww q (XK ops a.tmps)=VJ)
  (J:∀ h:Act->D0->Prop,(∀ a w,(i<N->C w)->BW P md ops Q N C fuel (f.setIfInBounds i VJ) a w->h a w)->YN P s a w h Q)
  (I:∀ h:Act->D0->Prop,(∀ a w,(j<N->C w)->BW P md ops Q N C fuel (f.setIfInBounds j VJ) a w->h a w)->YN P q a w h Q):BW P md ops Q N C (fuel+1) f a w:=
 ⟨(fun F=>by rw[E] at F;cases F),fun k p=>by
  rw[E] at p;rcases List.mem_cons.1 p with rfl|p
  ·exact wpOp_step H (fun h z=>by rw[if_pos v];exact J h (fun a w hs y=>z a w ⟨hs,y⟩))
  ·obtain rfl:k=j:=by simpa using p
   exact wpOp_step G (fun h z=>by rw[if_pos u];exact I h (fun a w hs y=>z a w ⟨hs,y⟩))⟩
end
def Hg (k:Int):O0:=if k=0 then .nilIface else .iface 79 (.int .i64 k)
section
variable {w w':D0} {base g:Nat} {C V:O0} {L:List By} {d:Nd}
def EO (base g:Nat) (C V:O0) (L:List By) (d:Nd) (c:Cm) (w:D0) (e:WC) (w':D0):Prop:=
 ∃ f V2 h b,e=.returned (.tuple #[.int .i64 (d.add c b).2.1,f,Hg (d.add c b).2.2])/\BA w.heap.size (d.add c b).1.2 f w'/\BI w' base g C V2 h (d.add c b).1.1/\Fr (CC g C V L) w w'/\∀ q,CC g C V2 h q->CC g C V L q\/w.heap.size<=q
def EO.of {c:Cm} {b:Bool} {nd:Nd} {ms:List Ms} {k p:Int} {h:O0} {i:List By} (f:d.add c b=((nd,ms),k,p)) (u:BA w.heap.size ms h w') (v:BI w' base g C v' i nd) (y:Fr (CC g C V L) w w') (s:∀ q,CC g C v' i q->CC g C V L q\/w.heap.size<=q) :
  EO base g C V L d c w (.returned (.tuple #[.int .i64 k,h,Hg p])) w':=⟨h,v',i,b,by rw[f],by rw[f];exact u,by rw[f];exact v,y,s⟩
def Ut (h:BI w base g C V L d) (x:By) (hR:FE w w.heap.size x.A x.n x.c.ad) (hk:x.A=B0->x.k=0) (hn:x.n<=100000) :
  VY Tryz.prog 120 #[.pointer (Bs ⟨g,0,B0⟩),.agg #[.int .i64 x.c.ai,.int .i64 x.c.tx,.int .i64 x.c.ag,.slice x.A x.n x.k]] w (EO base g C V L d x.c w):=by
 have H:VP w.heap.size w (w.alloc (.cells #[.int .i64 x.c.ai,.int .i64 x.c.tx,.int .i64 x.c.ag,.slice x.A x.n x.k] 69)):=(VK _ _).alloc (K0 _) _;have Y:=h.aC H;have W:=h.bA;have a7:=h.len;have Z:=LH (qct Y);obtain⟨A,c,rfl⟩:=Y.cF;obtain⟨_,_,_,_,n4,_,kl⟩:=Y.cells;have X:Ae (w.alloc (.cells #[.int .i64 x.c.ai,.int .i64 x.c.tx,.int .i64 x.c.ag,.slice x.A x.n x.k] 69)) w.heap.size 69 #[.int .i64 x.c.ai,.int .i64 x.c.tx,.int .i64 x.c.ag,.slice x.A x.n x.k]:=Ae.new w _ _;have y:=LH X;clear X;have a5:=LH (show FE (w.alloc (.cells #[.int .i64 x.c.ai,.int .i64 x.c.tx,.int .i64 x.c.ag,.slice x.A x.n x.k] 69)).drew (w.alloc (.cells #[.int .i64 x.c.ai,.int .i64 x.c.tx,.int .i64 x.c.ag,.slice x.A x.n x.k] 69)).drew.heap.size x.A x.n x.c.ad from(⟨hR.1,(hR.2.below H).more H.size⟩:FE _ _ _ _ _));clear hR;have J:=LH H;clear H;have R:=LH Y;clear Y;have a0:=LH (fun q (I:CC g C (.slice A L.length c) L q)=>h.aw I);clear h;cases O:d.head
 ·rw[O] at Z;have f:EO base g C (.slice A L.length c) L d x.c w (.returned (.tuple #[.int .i64 0,.slice B0 0 0,Hg 6])) (w.alloc (.cells #[.int .i64 x.c.ai,.int .i64 x.c.tx,.int .i64 x.c.ag,.slice x.A x.n x.k] 69)):=
   EO.of (b:=Jx) (by unfold Nd.add;rw[O];rfl) (BA.nil _ _) R.o (Below.fr J.o _) (fun q h=>.inl h)
  have U:=LH f;clear f;go_enter Tryz.func120,Tryz.ntmps120;go_wp2_with fail;refine Z.o.mono ?_;rintro e F ⟨rfl,rfl⟩;go_wp2_with fail;go_ret3;exact U.o
 ·rw[O] at Z;have a8:d.at_=0:=by unfold Nd.head at O;simpa using O
  by_cases h5:L.length=500
  ·have f:EO base g C (.slice A L.length c) L d x.c w (.returned (.tuple #[.int .i64 0,.slice B0 0 0,Hg 4])) (w.alloc (.cells #[.int .i64 x.c.ai,.int .i64 x.c.tx,.int .i64 x.c.ag,.slice x.A x.n x.k] 69)):=
    EO.of (b:=Jx) (by unfold Nd.add;rw[O,W,h5];rfl) (BA.nil _ _) R.o (Below.fr J.o _) (fun q h=>.inl h)
   have U:=LH f;clear f;have a4:(L.length:Int)=500:=by omega
   generalize L.length=n at *;subst h5;go_enter Tryz.func120,Tryz.ntmps120;go_wp2_with fail;refine Z.o.mono ?_;rintro e F ⟨rfl,rfl⟩;go_wp2_with fail;go_ret3;exact U.o
  have a4:¬(L.length:Int)=500:=by omega
  have M:∀ b,d.add x.c b=(d.grow x.c,if b then(L.length:Int)+1 else L.length,0):=fun b=>by unfold Nd.add;rw[O,W];simp[h5]
  have a1:=LH M;clear M;have HG:=LH (JK (w:=(w.alloc (.cells #[.int .i64 x.c.ai,.int .i64 x.c.tx,.int .i64 x.c.ag,.slice x.A x.n x.k] 69)).drew) (R.o.aC (VK _ _).drew) x a5.o hk hn (by omega) (by omega));go_enter Tryz.func120,Tryz.ntmps120;go_wp2_with fail;refine Z.o.mono ?_;rintro e F ⟨rfl,rfl⟩;go_wp2_with fail;have a6:(w.alloc (.cells #[.int .i64 x.c.ai,.int .i64 x.c.tx,.int .i64 x.c.ag,.slice x.A x.n x.k] 69)).heap.size=w.heap.size+1:=by simp
  generalize (w.alloc _)=F at *;have b0:=y.o.cell 0;have b1:=y.o.cell 1;have b2:=y.o.cell 2;have b3:=y.o.cell 3;have bl:=y.o.lt;simp only[Hi,Ft,N2] at b0 b1 b2 b3;refine nW ?_;refine CF (fun w'=>w'.cell? ⟨w.heap.size,0,B0⟩=Bs (.int .i64 x.c.ai)/\w'.cell? ⟨w.heap.size,1,B0⟩=Bs (.int .i64 x.c.tx)/\w'.cell? ⟨w.heap.size,2,B0⟩=Bs (.int .i64 x.c.ag)/\w'.cell? ⟨w.heap.size,3,B0⟩=Bs (.slice x.A x.n x.k)) 9 (fun _ _ _ _ _ h=>h) (fun s=>?_);have z:F.drew.cell? ⟨w.heap.size,0,B0⟩=Bs (.int .i64 x.c.ai)/\F.drew.cell? ⟨w.heap.size,1,B0⟩=Bs (.int .i64 x.c.tx)/\F.drew.cell? ⟨w.heap.size,2,B0⟩=Bs (.int .i64 x.c.ag)/\F.drew.cell? ⟨w.heap.size,3,B0⟩=Bs (.slice x.A x.n x.k):=⟨b0,b1,b2,b3⟩
  refine nF 0 s z ?_;refine nF 1 s z ?_;refine nF 2 s z ?_;refine nF 5 s z ?_;refine nB 6 rfl rfl s z (fun w' a3=>by obtain⟨q0,q1,q2,q3⟩:=a3;go_simp;rfl) ?_;refine ntwo 3 7 (by kernel_rfl) rfl rfl (by kernel_rfl) (by kernel_rfl) (fun K i=>?_) (fun K i=>?_)
  ·go_simp;refine i _ _ (fun _=>z) ?_;clear i K;refine nF 4 s z ?_;refine nG 7 (fun K i=>?_);go_simp;refine HG.o.mono ?_;rintro e w7 ⟨V1,V2,x2,rfl,a2,G,u,v,p⟩;have k:=v.ak (show Ae F.drew w.heap.size _ _ from y.o) (fun I=>by have:=(a0.o _ I).2;omega);have f:EO base g C (.slice A L.length c) L d x.c w (.returned (.tuple #[.int .i64 (L.length:Int),V1,Hg 0])) w7:=
    EO.of (b:=Jx) (by rw[a1.o];rfl) (G.lower (by show w.heap.size<=F.heap.size;omega)) u ((Below.fr J.o _).drew.trans v) (fun q I=>(p q I).elim .inl (fun h=>.inr (by have h':F.heap.size<=q:=h;omega)))
   have U:=LH f;clear f G u v p;have E:=Wm (k.cell 0) (Wm (k.cell 1) (Wm (k.cell 2) (k.cell 3)));go_simp;refine i _ _ (fun _=>E) ?_;clear i K;refine nG 8 (fun K i=>?_);go_simp;refine i _ _ (fun _=>E) ?_;clear i K;refine nG 9 (fun K i=>?_);go_simp;refine i _ _ nZ ?_;clear i K;refine nG 10 (fun K i=>?_);go_simp;refine i _ _ nZ ?_;clear i K;refine nX ?_;clear s;go_wp2_with fail;go_ret3;exact U.o
  ·go_simp;refine HG.o.mono ?_;rintro e w7 ⟨V1,V2,x2,rfl,a2,G,u,v,p⟩;have k:=v.ak (show Ae F.drew w.heap.size _ _ from y.o) (fun I=>by have:=(a0.o _ I).2;omega);obtain⟨A7,c7,rfl⟩:=u.cF;obtain⟨_,_,_,_,m4,_,ml⟩:=u.cells;rw[VS] at m4;have f:EO base g C (.slice A L.length c) L d x.c w (.returned (.tuple #[.int .i64 ((L.length:Int)+1),V1,Hg 0])) w7:=
    EO.of (b:=VJ) (by rw[a1.o];rfl) (G.lower (by show w.heap.size<=F.heap.size;omega)) u ((Below.fr J.o _).drew.trans v) (fun q I=>(p q I).elim .inl (fun h=>.inr (by have h':F.heap.size<=q:=h;omega)))
   have U:=LH f;clear f G u v p;have E:=Wm (k.cell 0) (Wm (k.cell 1) (Wm (k.cell 2) (k.cell 3)));go_simp;refine i _ _ (fun _=>E) ?_;clear i K;simp only[List.length_cons,List.length_nil,Wx] at m4;refine nG 3 (fun K i=>?_);go_simp;refine i _ _ (fun _=>E) ?_;clear i K;refine nG 4 (fun K i=>?_);go_simp;refine i _ _ (fun _=>E) ?_;clear i K;refine nG 8 (fun K i=>?_);go_simp;refine i _ _ (fun _=>E) ?_;clear i K;refine nG 9 (fun K i=>?_);go_simp;refine i _ _ nZ ?_;clear i K;refine nG 10 (fun K i=>?_);go_simp;refine i _ _ nZ ?_;clear i K;refine nX ?_;clear s;go_wp2_with fail;go_ret3;exact U.o
end
def Dr (x:Int) (l:List Int):Int:=match l.findIdx? (fun y=>x == y) with|some i=>(i:Int)|none=>-1
def IxRel (x:Int) (L:List Int) (n:Nat) (w:D0) (v:O0) (wr:D0):Prop:=∃ j:Nat,v=.int .i64 j/\j<=n/\(∀ y∈L.take j,(x == y)=Jx)/\w=wr
def rd1 {w:D0} {l:List Int} (h:Rd w B 1 A n (l.map (Wp .i64))) (k:j<n):∃ g off x,A=Bs ⟨g,off,B0⟩/\g<B/\l[j]? = Bs x/\w.cell? ⟨g,off+j,B0⟩=Bs (.int .i64 x):=by
 obtain⟨g,off,u,s,p,f,q⟩:=h.ck k;rw[V8] at f;rcases i:l[j]? with _|x
 ·rw[i] at f;cases f
 ·rw[i] at f;obtain rfl:=WR f;exact⟨g,off,x,s,p,rfl,q⟩
def LO (x:Int) (A:Option XL) (n k:Nat) (L:List Int) (w:D0) (M:Rd w w.heap.size 1 A n (L.map (Wp .i64))) (hl:L.length=n) (Y:n<=100000) :
  VY Tryz.prog 106 #[.slice A n k,.int .i64 x] w fun e w'=>e=.returned (.int .i64 (Dr x L))/\w=w':=by
 have W:=LH M;clear M;go_enter Tryz.func106,Tryz.ntmps106;go_wp2_with fail;go_loopw [8] (IxRel x L n w) (fun v _=>n-(intOf v).toNat)
 case atStart=>exact⟨0,rfl,VN _,(fun y O=>by simp at O),rfl⟩
 case round=>
  obtain⟨j,rfl,Z,u,rfl⟩:=hrel;by_cases R:(j:Int)<n
  ·obtain⟨g',X,y,rfl,U,J,h0⟩:=rd1 W.o (j:=j) (by omega);have F:j<L.length:=by omega
   have s:(x == y)=VJ->Dr x L=j:=fun G=>by
    have:L.findIdx? (fun y=>x == y)=Bs j:=by
     rw[VU];refine⟨F,?_,fun i hi=>?_⟩
     ·rw[<- WR ((L1 F).symm.trans J)] at G;exact G
     ·simp only[X2];exact u _ (by rw[Xw];exact⟨i,by omega,rfl⟩)
    unfold Dr;rw[this]
   have f:(x == y)=Jx->∀ z∈L.take (j+1),(x == z)=Jx:=fun G z q=>by
    rw[VX,J] at q;rcases List.mem_append.1 q with q|q
    ·exact u z q
    ·rw[Option.toList_some,VW] at q;rw[q];exact G
   have H:=LH s;clear s;have I:=LH f;clear f;cases E:(x == y)
   ·have hs:=I.o E;have p:=LH hs;clear hs I H;go_wp2_with fail;go_roundw
    case rel=>exact⟨j+1,rfl,by omega,p.o,rfl⟩
    case measure=>simp[intOf];omega
   ·have hs:=H.o E;have p:=LH hs;clear hs I H;go_wp2_with fail;go_ret;exact⟨by rw[p.o];rfl,rfl⟩
  ·have h:Dr x L = -1:=by
    have:L.findIdx? (fun y=>x == y)=B0:=by
     rw[Wn];intro z q;exact u z (by rw[V0 (by omega)];exact q)
    unfold Dr;rw[this]
   have p:=LH h;clear h;go_wp2_with fail;go_ret;exact⟨by rw[p.o];rfl,rfl⟩
def Ui {f:FuncId} {i:Func} {c:Code} (k:P.funcs[f]? = Bs i) (h:(i.name == "runtime.NumGoroutine")=Jx) (p:i.body=Bs c):∀ (args:Array O0) (w:D0),(callFunc f args).run P w=.ok (.enter f args) w:=by
 intro args w;have q:i.name ≠ "runtime.NumGoroutine" := by simpa using h
 simp[callFunc,k,q,p,mark]
def CL (l:List Int):Int->Option O0:=fun i=>if i∈l then Bs (.bool VJ) else B0
def Oa (l:List Int) (x:Int):AU (CL l) x (Bs (.bool VJ))=CL (l++[x]):=by
 funext t;unfold AU CL;by_cases e:t=x
 ·subst e;simp
 ·simp[e]
def TwP (f n:Nat) (l:List Int) (x:Int) (w:D0) (e:WC) (w':D0):Prop:=e=.returned (.bool Jx)/\Ab BC w' f (n+1) (CL (l++[x]))/\Fr (fun k=>k=f) w w'
def Tc (x:Int) (c k n:Nat) (l:List Int) (w:D0) (v:w.cell? ⟨c,0,B0⟩=Bs (.map (Bs k))) (q:Ab BC w k n (CL l)) (u:EW x) (G:n<1000000) (p:x ∉ l) :
  VY Tryz.prog 125 #[.int .i64 x,.pointer (Bs ⟨c,0,B0⟩)] w (TwP k n l x w):=by
 have s:(Yd 4).run Tryz.prog w=.ok (.bool Jx) w:=by kernel_rfl
 have h:=(q.look Tryz.underlying60 s (x:=x) u).2;rw[show CL l x=B0 from if_neg p,show BC.val x=Wp .i64 x from rfl] at h;simp only[Option.getD_none] at h;have z:=Wa w _ v;have E:=LH q;clear q;clear s;go_enter Tryz.func125,Tryz.ntmps125;go_wp2_with (at_mapUpdate;refine stop ?_)
 refine Df ?_;refine SR (C:=BC) rfl 60 4 Tryz.underlying60 (.tmp 8) (.tmp 9) _ rfl rfl E.o (by unfold Wo;omega) x (.bool VJ) rfl rfl u ?_;intro y f i;rw[Oa] at f;have F:=LH (show TwP k n l x w (.returned (.bool Jx)) y from⟨rfl,f,i⟩);clear f i h v;go_wp2_with fail;go_ret;exact F.o
def Se (L:List Int) (n c f:Nat) (w:D0) (v:O0) (wr:D0):Prop:=∃ j:Nat,v=.int .i64 j/\j<=n/\Ab BC wr f j (CL (L.take j))/\Fr (fun k=>k=f) w wr
def S9 (A:Option XL) (n k c q:Nat) (L:List Int) (w:D0) (hr:Rd w w.heap.size 1 A n (L.map (Wp .i64))) (hl:L.length=n) (hn:n<=1000) (hc:w.cell? ⟨c,0,B0⟩=Bs (.map (Bs q))) (z:Ab BC w q 0 (CL [])) (G:L.Nodup) (E:∀ x∈L,EW x) (hA:∀ g o,A=Bs ⟨g,o,B0⟩->0<n->g≠q) (W:c≠q) :
  VY Tryz.prog 143 #[.slice A n k,.func (.func 125) #[] #[.pointer (Bs ⟨c,0,B0⟩)]] w fun e w'=>e=.returned (.int .i64 (-1))/\Fr (fun k=>k=q) w w':=by
 have HR:=LH hr;clear hr;have R:=LH (show Se L n c q w (.int .i64 (0:Nat)) w from⟨0,rfl,VN _,by simpa using z,Fr.refl _ _⟩);have eg:=Ui Tryz.func125 (by kernel_rfl) rfl;have Z:=LH E;clear E;have a0:=LH G;clear G;have HA:=LH hA;clear hA;have HC:=LH hc;clear hc;clear z;go_enter Tryz.func143,Tryz.ntmps143;go_wp2_with fail;go_loopw [8] (Se L n c q w) (fun v _=>n-(intOf v).toNat)
 case atStart=>exact R.o
 case round=>
  clear R;obtain⟨j,rfl,hj,z,s⟩:=hrel;by_cases a1:(j:Int)<n
  ·obtain⟨Y,o',y,rfl,I,U,h0⟩:=rd1 HR.o (j:=j) (by omega);have a2:Y<wr.heap.size:=VL I s.size;have X:=(s.cell (p:=⟨Y,o'+j,B0⟩) I (HA.o Y o' rfl (by omega))).trans h0;have M:=Wa w _ HC.o;have O:=(s.cell (p:=⟨c,0,B0⟩) M W).trans HC.o;have F:y ∉ L.take j:=fun hy=>by
    have h1:(L.take (j+1)).Nodup:=a0.o.sublist (List.take_sublist _ _);rw[VX,U] at h1;exact(List.nodup_append.1 h1).2.2 y hy y (by simp) rfl
   have h:=Tc y c q j (L.take j) wr O z (Z.o y (S2 U)) (by omega) F;have i:=LH h;clear h h0 O M;have HX:=LH U;clear U F;have u:=LH s;clear s z;go_wp2_with fail;refine i.o.mono ?_;rintro e w2 ⟨rfl,H,J⟩;have f:Se L n c q w (.int .i64 ((j+1:Nat):Int)) w2:=⟨j+1,rfl,by omega,by rw[VX,HX.o];exact H,u.o.trans J⟩
   have HF:=LH f;clear f H J X i;go_wp2_with fail;go_roundw
   ·exact HF.o
   ·simp[intOf];omega
  ·have u:=LH s;clear s z;go_wp2_with fail;go_ret;exact⟨rfl,u.o⟩
def Ta (A:Option XL) (n k c f:Nat) (L:List Int) (w:D0) (s:Rd w w.heap.size 1 A n (L.map (Wp .i64))) (hl:L.length=n) (z:n<=1000) (v:w.cell? ⟨c,0,B0⟩=Bs (.map (Bs f))) (u:Ab BC w f 0 (CL [])) (i:L.Nodup) (h:∀ x∈L,EW x) (y:∀ g o,A=Bs ⟨g,o,B0⟩->0<n->g≠f) (p:c≠f) :
  VY Tryz.prog 124 #[.slice A n k,.func (.func 125) #[] #[.pointer (Bs ⟨c,0,B0⟩)]] w fun e w'=>e=.returned (.bool Jx)/\Fr (fun k=>k=f) w w':=by
 have E:=LH (S9 A n k c f L w s hl z v u i h y p);clear s v u i h y;go_enter Tryz.func124,Tryz.ntmps124;go_wp2_with fail;refine E.o.mono ?_;rintro e w2 ⟨rfl,q⟩;go_wp2_with fail;go_ret;exact⟨rfl,q⟩
def NT (A:Option XL) (n k:Nat) (L:List Int) (w:D0) (E:Rd w w.heap.size 1 A n (L.map (Wp .i64))) (hl:L.length=n) (H:n<=1000) (q:L.Nodup) (p:∀ x∈L,EW x) :
  VY Tryz.prog 104 #[.slice A n k] w fun e w'=>e=.returned (.bool Jx)/\VP w.heap.size w w':=by
 have I:=@run_makeMap Tryz.prog;have G:∀ g o,A=Bs ⟨g,o,B0⟩->0<n->g≠w.heap.size:=fun g o e J=>by obtain⟨R,O,z,h,_⟩:=E.2 J;rw[e] at z;injection z with z;injection z with e1 e2;omega
 have f:VP w.heap.size w ((w.alloc (.map #[] 0)).alloc (.cells #[.map (Bs w.heap.size)] 60)):=((VK _ _).alloc (K0 _) _).alloc (by simp) _;have s:Ab BC ((w.alloc (.map #[] 0)).alloc (.cells #[.map (Bs w.heap.size)] 60)) w.heap.size 0 (CL []):=by
  have:=(Ab.made BC w).alloc (.cells #[.map (Bs w.heap.size)] 60);rw[show CL []=fun _=>B0 from by funext i;simp[CL]];exact this
 have u:Ae ((w.alloc (.map #[] 0)).alloc (.cells #[.map (Bs w.heap.size)] 60)) (w.heap.size+1) 60 #[.map (Bs w.heap.size)]:=by
  have:=Ae.new (w.alloc (.map #[] 0)) 60 #[.map (Bs w.heap.size)];rw[show(w.alloc (.map #[] 0)).heap.size=w.heap.size+1 by simp] at this;exact this
 have M:=LH (Ta A n k (w.heap.size+1) w.heap.size L _ ((E.below f).more f.size) hl H (u.cell 0) s q p G (by omega));have y:=LH f;clear f s u G q p E;go_enter Tryz.func104,Tryz.ntmps104;go_wp2_with fail;refine M.o.mono ?_;rintro e w3 ⟨rfl,v⟩;have F:=LH (y.o.trans (v.below (fun b (e:b=w.heap.size)=>by omega) y.o.size));clear v;go_wp2_with fail;go_ret;exact⟨rfl,F.o⟩
def Nd.fresh (id:Int):Nd:=⟨id,0,[],-1,[],0⟩
def TK (base:Nat) (id:Int) (w:D0) (i:base<=w.heap.size):VY Tryz.prog 44 #[.int .i64 id] w fun e w'=>e=.returned (.pointer (Bs ⟨w.heap.size,0,B0⟩))/\BI w' base w.heap.size (.slice B0 0 0) (.slice B0 0 0) [] (Nd.fresh id)/\VP w.heap.size w w'/\w'.heap.size=w.heap.size+1:=by
 have f:BI (w.alloc (.cells #[.int .i64 id,.int .i64 0,.slice B0 0 0,.int .i64 (-1),.slice B0 0 0,.int .i64 0] 150)) base w.heap.size (.slice B0 0 0) (.slice B0 0 0) [] (Nd.fresh id):=
  ⟨Ae.new w _ _,VZ _ _ _ _,VZ _ _ _ _,fun _ h=>(nomatch h),rfl,VN _,VN _,WD _,(show(-1:Int)<((0:Nat):Int) by decide),WD _,(show(0:Int)<=500 by decide),i⟩
 have k:=LH f;clear f;have p:=LH (show VP w.heap.size w (w.alloc (.cells #[.int .i64 id,.int .i64 0,.slice B0 0 0,.int .i64 (-1),.slice B0 0 0,.int .i64 0] 150)) from(VK _ _).alloc (K0 _) _);go_enter Tryz.func44,Tryz.ntmps44;go_wp2_with fail;go_ret;exact⟨rfl,k.o,p.o,by simp⟩
structure EZ (w:D0) (base g:Nat) (C V:O0) (L:List By) (d:Nd):Prop where
 ak:Ae w g 150 #[.int .i64 d.id,.int .i64 d.aa,C,.int .i64 d.at_,V,.int .i64 d.an]
 b7:w.ownsRow base 3 1 C d.nodes.length (d.nodes.map (Wp .i64))
 row:w.ownsRow base 69 4 V L.length (L.flatMap DM)
 own:∀ x∈L,EF w base x
 log:AM L=d.log
 len:L.length<=500
 br:d.nodes.length<=6
 st0:0<=d.an
 b3:d.an<=500
 lo:base<=g
section
variable {w w':D0} {base g:Nat} {C C' V:O0} {L:List By} {d:Nd}
def BI.toJ (h:BI w base g C V L d):EZ w base g C V L d:=⟨h.ak,h.b7,h.row,h.own,h.log,h.len,h.br,h.st0,h.b3,h.lo⟩
def EZ.toI (h:EZ w base g C V L d) (i:-1<=d.at_) (f:d.at_<d.nodes.length):BI w base g C V L d:=⟨h.ak,h.b7,h.row,h.own,h.log,h.len,h.br,i,f,h.st0,h.b3,h.lo⟩
def EZ.fr (h:EZ w base g C V L d) (k:Fr S w w') (i:∀ b,CC g C V L b->¬S b):EZ w' base g C V L d:=
 ⟨k.ak h.ak (i g (.inl rfl)),k.own h.b7 (fun b f=>i b (.inr (.inl f))),k.own h.row (fun b f=>i b (.inr (.inr (.inl f)))),
  fun x p=>⟨k.own (h.own x p).1 (fun b f=>i b (.inr (.inr (.inr ⟨x,p,f⟩)))),(h.own x p).2⟩,h.log,h.len,h.br,h.st0,h.b3,h.lo⟩
def EZ.aw (h:EZ w base g C V L d) {b:Nat} (f:CC g C V L b):base<=b/\b<w.heap.size:=by
 rcases f with rfl|f|f|⟨x,i,f⟩
 ·exact⟨h.lo,h.ak.lt⟩
 ·exact h.b7.lt b f
 ·exact h.row.lt b f
 ·exact(h.own x i).1.lt b f
def EZ.aC (h:EZ w base g C V L d) (f:VP w.heap.size w w'):EZ w' base g C V L d:=
 h.fr (S:=fun b=>w.heap.size<=b) ⟨f.os,f.tape,f.output,f.size,fun i _ p=>f.block i (by omega)⟩ (fun b k q=>by have:=(h.aw k).2;omega)
def EZ.cb (h:EZ w base g C V L d) {b:Nat} (f:C.ownBlock=Bs b\/V.ownBlock=Bs b\/∃ x∈L,(WM x.A x.n x.k).ownBlock=Bs b):b≠g:=by
 rintro rfl;rcases f with f|f|⟨x,i,f⟩
 ·exact Bh h.b7 h.ak (by decide) f
 ·exact Bh h.row h.ak (by decide) f
 ·exact Bh (h.own x i).1 h.ak (by decide) f
def EZ.conf_ (h:EZ w base g C V L d) (e:Int) (i:List Int) (s:w.ownsRow base 3 1 C' i.length (i.map (Wp .i64))) (u:i.length<=6) :
  EZ ((w.setCell ⟨g,1,B0⟩ (.int .i64 e)).setCell ⟨g,2,B0⟩ C') base g C' V L { d with aa:=e,nodes:=i }:=by
 have q:Fr (fun k=>k=g) w ((w.setCell ⟨g,1,B0⟩ (.int .i64 e)).setCell ⟨g,2,B0⟩ C'):=(Fr.a6 g w 1 _).trans (Fr.a6 g _ 2 _);refine⟨by simpa using (h.ak.aH 1 (.int .i64 e)).aH 2 C',q.own s (fun b f e=>Bh s h.ak (by decide) (e▸f)),q.own h.row (fun b f e=>h.cb (.inr (.inl f)) e),fun x p=>⟨q.own (h.own x p).1 (fun b f e=>h.cb (.inr (.inr ⟨x,p,f⟩)) e),(h.own x p).2⟩,h.log,h.len,u,h.st0,h.b3,h.lo⟩
def EZ.at' (h:EZ w base g C V L d) (a:Int):EZ (w.setCell ⟨g,3,B0⟩ (.int .i64 a)) base g C V L { d with at_:=a }:=by
 have k:=Fr.a6 g w 3 (.int .i64 a);refine⟨by simpa using h.ak.aH 3 (.int .i64 a),k.own h.b7 (fun b f e=>h.cb (.inl f) e),k.own h.row (fun b f e=>h.cb (.inr (.inl f)) e),fun x i=>⟨k.own (h.own x i).1 (fun b f e=>h.cb (.inr (.inr ⟨x,i,f⟩)) e),(h.own x i).2⟩,h.log,h.len,h.br,h.st0,h.b3,h.lo⟩
def EZ.clear_ (h:EZ w base g C V L d):EZ ((w.setCell ⟨g,4,B0⟩ (.slice B0 0 0)).setCell ⟨g,5,B0⟩ (.int .i64 0)) base g C (.slice B0 0 0) [] { d with log:=[],an:=0 }:=by
 have i:Fr (fun k=>k=g) w ((w.setCell ⟨g,4,B0⟩ (.slice B0 0 0)).setCell ⟨g,5,B0⟩ (.int .i64 0)):=(Fr.a6 g w 4 _).trans (Fr.a6 g _ 5 _);refine⟨by simpa using (h.ak.aH 4 (.slice B0 0 0)).aH 5 (.int .i64 0),i.own h.b7 (fun b p e=>h.cb (.inl p) e),VZ _ _ _ _,fun x f=>(nomatch f),rfl,VN _,h.br,WD _,(show(0:Int)<=500 by decide),h.lo⟩
end
def Nd.join (d:Nd) (e:Int) (f:List Int):Nd:=if d.at_<0 then⟨d.id,e,f,Dr d.id f,[],0⟩ else⟨d.id,e,f,Dr d.id f,d.log,d.an⟩
def T7 {x:Int} {l:List Int} (h:x∈l):0<=Dr x l/\Dr x l<l.length:=by
 unfold Dr;rcases f:l.findIdx? (fun y=>x == y) with _|i
 ·rw[Wn] at f;have:=f x h;simp at this
 ·rw[VU] at f;obtain⟨hl,_⟩:=f;simp only;omega
section
variable {w w':D0} {base g:Nat} {C V:O0} {L:List By} {d:Nd}
def BecP (base g:Nat) (C V:O0) (L:List By) (d:Nd) (e:Int) (f:List Int) (w:D0) (p:WC) (w':D0):Prop:=
 ∃ h k V2 i,p=.returned (.tuple #[h,.nilIface])/\BA w.heap.size (d.join e f).tick.2 h w'/\BI w' base g k V2 i (d.join e f).tick.1/\Fr (CC g C V L) w w'/\∀ q,CC g k V2 i q->CC g C V L q\/w.heap.size<=q
def Mi (h:BI w base g C V L d) (e:Int) (p:List Int) (A:Option XL) (k:Nat) (hc:w.ownsRow base 3 1 (.slice A p.length k) p.length (p.map (Wp .i64))) (he:d.aa<e) (aR:p.length<=6) (ay:p.Nodup) (aw:∀ x∈p,EW x) (ag:d.id∈p) :
  VY Tryz.prog 75 #[.pointer (Bs ⟨g,0,B0⟩),.agg #[.int .i64 e,.slice A p.length k]] w (BecP base g C V L d e p w):=by
 have b2:0<p.length:=by rcases p with _|⟨a,l⟩;cases ag;simp
 have ac:VP w.heap.size w (w.alloc (.cells #[.int .i64 e,.slice A p.length k] 148)):=(VK _ _).alloc (K0 _) _;have h1:=h.aC ac;have aA:=(Below.fr ac (fun _=>False)).own hc (fun _ _ h=>h);have a0:Ae (w.alloc (.cells #[.int .i64 e,.slice A p.length k] 148)) w.heap.size 148 #[.int .i64 e,.slice A p.length k]:=Ae.new w _ _;obtain⟨c0,c1,c2,c3,_,_,kl⟩:=h1.cells;have y0:=a0.cell 0;have J:=a0.cell 1;have yl:=a0.lt;simp only[Hi,Ft,N2] at y0 J;have aS:decide (e<=d.aa)=Jx:=decide_eq_false (by omega);have aW:=LH (fun q (I:CC g C V L q)=>h.aw I);clear h;have ap:=LH a0;clear a0;have aO:=LH aA;clear aA hc;have av:=LH ac;clear ac;have aG:=LH h1;clear h1;have aU:=LH ay;clear ay;have aT:=LH aw;clear aw;have aV:=LH ag;clear ag;have aQ:(w.alloc (.cells #[.int .i64 e,.slice A p.length k] 148)).heap.size=w.heap.size+1:=by simp
 generalize ax:p.length=n at *;have H:=LH ax;clear ax;have b0:¬(n:Int)=0:=by omega
 have b1:¬(n:Int) > 6:=by omega
 go_enter Tryz.func75,Tryz.ntmps75;go_upto_region 1 with (fail)
 generalize (w.alloc _)=w1 at *;go_quiet (fail);have a3:VP w1.heap.size w1 (w1.drewN nq):=Ck (VK _ _) _;have az:=aG.o.aC a3;have a9:=ap.o.below a3 ap.o.lt;have aj:=(Below.fr a3 (fun _=>False)).own aO.o (fun _ _ h=>h);have au:=LH (av.o.trans (a3.mono av.o.size));clear c0 c1 c2 c3 y0 J yl kl ap aO aG av aS a3;generalize w1.drewN nq=w2 at *;clear aQ;have aC:=LH (NT A n k p w2 (Rd.ay aj) H.o (by omega) aU.o aT.o);have J:=a9.cell 1;have yl:=a9.lt;simp only[Hi,Ft,N2] at J;have aF:=LH az;clear az;have ao:=LH a9;clear a9;have aN:=LH aj;clear aj;go_wp2_with fail;refine aC.o.mono ?_;rintro en w3 ⟨rfl,a4⟩;have a7:=aF.o.aC a4;have Z:=ao.o.below a4 ao.o.lt;have ai:=(Below.fr a4 (fun _=>False)).own aN.o (fun _ _ h=>h);have ar:=LH (au.o.trans (a4.mono au.o.size));clear J yl aC aF ao aN au a4;obtain⟨_,_,_,c3,_,_,kl⟩:=a7.cells;have y0:=Z.cell 0;have J:=Z.cell 1;have yl:=Z.lt;simp only[Hi,Ft,N2] at y0 J;have aK:=LH (Md base n (.slice A n k) p w3.drew ((Below.fr (VK w3.heap.size w3).drew (fun _=>False)).own ai (fun _ _ h=>h)) (show base<=w3.heap.size by have:=a7.lo;omega) (by omega));have aE:=LH a7;clear a7;have an:=LH Z;clear Z;have aM:=LH ai;clear ai;go_wp2_with fail;refine nW ?_;refine CF (fun w'=>w'.cell? ⟨w.heap.size,0,B0⟩=Bs (.int .i64 e)/\w'.cell? ⟨w.heap.size,1,B0⟩=Bs (.slice A n k)) 7 (fun _ _ _ _ _ h=>h) (fun s=>?_);have f:w3.drew.cell? ⟨w.heap.size,0,B0⟩=Bs (.int .i64 e)/\w3.drew.cell? ⟨w.heap.size,1,B0⟩=Bs (.slice A n k):=⟨y0,J⟩
 refine nF 0 s f ?_;refine nF 1 s f ?_;refine nB 2 rfl rfl s f (fun w' G=>by obtain⟨q0,q1⟩:=G;go_simp;rfl) ?_;refine nF 3 s f ?_;refine nB 4 rfl rfl s f (fun w' G=>by obtain⟨q0,q1⟩:=G;go_simp;rfl) ?_;refine nG 5 (fun F u=>?_);go_simp;refine aK.o.mono ?_;rintro en w4 ⟨A4,k4,rfl,O,aB,X⟩;have E:VP w3.heap.size w3 w4:=(VK _ _).drew.trans aB;have y:=aE.o.toJ.aC E;have a8:=an.o.below E an.o.lt;have ah:=(Below.fr E (fun _=>False)).own aM.o (fun _ _ h=>h);have aX:=LH (ar.o.trans (E.mono ar.o.size));have M:=LH (y.conf_ e p (by rw[H.o];exact O) (by rw[H.o];exact aR));have z1:=y.ak.cell 1;have z2:=y.ak.cell 2;have v1:=y.ak.frozen 1;have v2:=y.ak.frozen 2;have zl:=y.ak.lt;simp only[Hi,Ft,N2] at z1 z2;have ab:Fr (fun k=>k=g) w4 ((w4.setCell ⟨g,1,B0⟩ (.int .i64 e)).setCell ⟨g,2,B0⟩ (.slice A4 n k4)):=(Fr.a6 g w4 1 _).trans (Fr.a6 g _ 2 _);have aP:w.heap.size≠g:=by have:=(aW.o g (.inl rfl)).2;omega
 have am:=LH (ab.ak a8 aP);have aL:=LH (ab.own ah (fun b hb (e:b=g)=>Bh ah y.ak (by decide) (e▸hb)));have aJ:=LH ((Below.fr aX.o (CC g C V L)).trans (ab.mono (fun i _ e=>.inl e)));have W:∀ b,(WM A4 n k4).ownBlock=Bs b->w.heap.size<=b:=fun b hb=>by have h1:w3.heap.size<=b:=X b hb;have:=ar.o.size;omega
 have aD:=LH W;have ak:=Wm (a8.cell 0) (a8.cell 1);clear y ab X W aB E O ah a8 aK f;go_simp;refine u _ _ (fun _=>ak) ?_;clear u F;refine nG 6 (fun F u=>?_);go_simp;refine u _ _ (fun _=>ak) ?_;clear u F;refine nG 7 (fun F u=>?_);go_simp;refine u _ _ nZ ?_;clear u F;refine nG 8 (fun F u=>?_);go_simp;refine u _ _ nZ ?_;clear u F;refine nG 9 (fun F u=>?_);go_simp;refine u _ _ nZ ?_;clear u F;refine nX ?_;clear s z1 z2 v1 v2 zl c3 kl y0 J yl aE an aM ak;go_wp2_with fail;generalize ((w4.setCell _ _).setCell _ _)=w5 at *;have g0:=M.o.ak.cell 0;have J:=am.o.cell 1;have yl:=am.o.lt;have kl:=M.o.ak.lt;simp only[Hi,Ft,N2] at g0 J;have aH:=LH (LO d.id A n k p w5.drew (show Rd w5 w5.heap.size 1 A n (p.map (Wp .i64)) from Rd.ay aL.o) H.o (by omega));have aa:=T7 aV.o;rw[H.o] at aa;refine nW ?_;refine CF (fun w'=>w'.cell? ⟨g,0,B0⟩=Bs (.int .i64 d.id)/\w'.cell? ⟨w.heap.size,1,B0⟩=Bs (.slice A n k)) 8 (fun _ _ _ _ _ h=>h) (fun s=>?_);have f:w5.drew.cell? ⟨g,0,B0⟩=Bs (.int .i64 d.id)/\w5.drew.cell? ⟨w.heap.size,1,B0⟩=Bs (.slice A n k):=⟨g0,J⟩
 refine nF 0 s f ?_;refine nF 1 s f ?_;refine nB 2 rfl rfl s f (fun w' G=>by obtain⟨q0,q1⟩:=G;go_simp;rfl) ?_;refine nF 3 s f ?_;refine nF 4 s f ?_;refine nF 5 s f ?_;refine nB 6 rfl rfl s f (fun w' G=>by obtain⟨q0,q1⟩:=G;go_simp;rfl) ?_;refine nG 7 (fun F u=>?_);go_simp;refine aH.o.mono ?_;rintro en w6 ⟨rfl,rfl⟩;go_simp;refine u _ _ (fun _=>f) ?_;clear u F;have z3:=M.o.ak.cell 3;have v3:=M.o.ak.frozen 3;simp only[Hi,Ft,N2] at z3;refine nG 8 (fun F u=>?_);go_simp;refine u _ _ nZ ?_;clear u F;refine nG 9 (fun F u=>?_);go_simp;refine u _ _ nZ ?_;clear u F;refine nG 10 (fun F u=>?_);go_simp;refine u _ _ nZ ?_;clear u F;refine nX ?_;clear s f aH g0 J yl am aL;have v:=LH ((M.o.at' (Dr d.id p)).aC (VK _ _).drew);have aq:=LH ((aJ.o.trans ((Fr.a6 g w5 3 (.int .i64 (Dr d.id p))).mono (fun i _ e=>.inl e))).drew);clear M aJ z3 v3 kl;generalize ae:Dr d.id p=ix at *;have af:=LH ae;clear ae;have R:∀ q (V2:O0) (L2:List By),(V2=V/\L2=L\/V2=.slice B0 0 0/\L2=[])->CC g (.slice A4 n k4) V2 L2 q->CC g C V L q\/w.heap.size<=q:=by
  rintro q V2 L2 hv (I|I|I|⟨x,hx,I⟩)
  ·exact .inl (.inl I)
  ·exact .inr (aD.o q I)
  ·rcases hv with ⟨rfl,rfl⟩|⟨rfl,rfl⟩
   ·exact .inl (.inr (.inr (.inl I)))
   ·cases I
  ·rcases hv with ⟨rfl,rfl⟩|⟨rfl,rfl⟩
   ·exact .inl (.inr (.inr (.inr ⟨x,hx,I⟩)))
   ·cases hx
 have a5:=LH R;clear R;generalize (World.setCell w5 _ _).drew=w6 at *;have z3:=v.o.ak.cell 3;have z4:=v.o.ak.cell 4;have z5:=v.o.ak.cell 5;have v4:=v.o.ak.frozen 4;have v5:=v.o.ak.frozen 5;have kl:=v.o.ak.lt;simp only[Hi,Ft,N2] at z3 z4 z5;have aZ:ix>=0:=aa.1;have aY:¬ix<0:=by omega
 by_cases ad:d.at_<0
 ·have a1:d.join e p=⟨d.id,e,p,ix,[],0⟩:=by unfold Nd.join;rw[if_pos ad,af.o]
  have a6:=LH (v.o.clear_.toI (show -1<=ix by omega) (show ix<p.length by rw[H.o];exact aa.2));have aI:=LH (aq.o.trans (((Fr.a6 g w6 4 (.slice B0 0 0)).trans (Fr.a6 g _ 5 (.int .i64 0))).mono (fun i _ e=>.inl e)));go_upto_region 10 with (fail)
  clear z3 z4 z5 v4 v5 kl v;generalize ((w6.setCell _ _).setCell _ _)=w7 at *;have z3:=a6.o.ak.cell 3;have kl:=a6.o.ak.lt;simp only[Hi,Ft,N2] at z3;have al:=LH (q8g a6.o);go_wp2_with fail;refine al.o.mono ?_;rintro en w8 ⟨V1,rfl,U,Y,a2⟩;have z:BecP base g C V L d e p w (.returned (.tuple #[V1,.nilIface])) w8:=⟨V1,_,_,_,rfl,by rw[a1];exact U.lower aI.o.size,by rw[a1];exact Y,aI.o.trans (a2.mono (fun i _ e=>.inl e)),fun q I=>a5.o q _ _ (.inr ⟨rfl,rfl⟩) I⟩
  have HF:=LH z;clear z U Y a2;go_wp2_with fail;go_ret2;exact HF.o
 ·have a1:d.join e p=⟨d.id,e,p,ix,d.log,d.an⟩:=by unfold Nd.join;rw[if_neg ad,af.o]
  have a6:=LH (v.o.toI (show -1<=ix by omega) (show ix<p.length by rw[H.o];exact aa.2));have al:=LH (q8g a6.o);go_wp2_with fail;refine al.o.mono ?_;rintro en w8 ⟨V1,rfl,U,Y,a2⟩;have z:BecP base g C V L d e p w (.returned (.tuple #[V1,.nilIface])) w8:=⟨V1,_,_,_,rfl,by rw[a1];exact U.lower aq.o.size,by rw[a1];exact Y,aq.o.trans (a2.mono (fun i _ e=>.inl e)),fun q I=>a5.o q _ _ (.inl ⟨rfl,rfl⟩) I⟩
  have HF:=LH z;clear z U Y a2;go_wp2_with fail;go_ret2;exact HF.o
def BQ (base g:Nat) (C V:O0) (L:List By) (d:Nd) (m:Ms) (w:D0) (e:WC) (w':D0):Prop:=
 ∃ f V2 h,e=.returned f/\BA w.heap.size (d.step m).2 f w'/\BI w' base g C V2 h (d.step m).1/\Fr (CC g C V L) w w'/\∀ q,CC g C V2 h q->CC g C V L q\/w.heap.size<=q
def BQ.of {m:Ms} {nd:Nd} {ms:List Ms} {h:List By} (i:d.step m=(nd,ms)) (p:BA w.heap.size ms v w') (s:BI w' base g C v' h nd) (u:Fr (CC g C V L) w w') (k:∀ q,CC g C v' h q->CC g C V L q\/w.heap.size<=q) :
  BQ base g C V L d m w (.returned v) w':=⟨v,v',h,rfl,by rw[i];exact p,by rw[i];exact s,u,k⟩
def BA.snoc {B A n k:_} {ms:List Ms} {M:List AS} {V:O0} {w:D0} {m:Ms} (u:AF M=ms) (i:∀ x∈M,DR w B x/\x.n<=100000) (p:w.ownsRow B 116 9 V M.length (M.flatMap Ct)) (s:w.ownsRow B 45 3 (.slice A n k) n (m.cmd.ad.flatMap CR)) (hl:m.cmd.ad.length=n) (E:n<=100000)
  (q:w2.ownsRow B 116 9 v' (M.length+1) (M.flatMap Ct++(Bv m A n k).toList)) (z:Av w w2 V.ownBlock v'.ownBlock):BA B (ms++[m]) v' w2:=by
 obtain⟨G,c,rfl,_,_⟩:=AR q;have v:(ms++[m]).length=M.length+1:=by rw[<- u];simp[AF]
 have f:∀ x:AS,DR w B x->DR w2 B x:=fun x i=>⟨z.1.own i.1 (fun b F e=>ES i.1 p (by decide) F e.symm),i.2⟩
 refine⟨G,c,M++[⟨m,A,n,k⟩],by rw[v],?_,by rw[<- u];simp[AF],fun x y=>?_⟩
 ·rw[VS,WG];simpa [Ct] using q
 ·rcases List.mem_append.1 y with h|h
  ·exact⟨f x (i x h).1,(i x h).2⟩
  ·rw[VW] at h;subst h;exact⟨f _ ⟨s,hl⟩,E⟩
def FwRel (d:Nd) (a:Nat) (w3:D0) (B:Nat) (h f:O0) (wr:D0):Prop:=∃ j:Nat,f=.int .i64 ((a+j:Nat):Int)/\(j=0\/a+j<=d.log.length)/\BA B ((Wh a j).map d.forward) h wr/\VP w3.heap.size w3 wr
def Ue (d:Nd) (a j:Nat):(Wh a (j+1)).map d.forward=(Wh a j).map d.forward++[d.forward (a+j)]:=by rw[List.range'_concat,Xd];simp
def MX (h:BI w base g C V L d) (i:0<=d.at_) (f:d.tail=Jx):d.at_+1<d.nodes.length:=by
 have:=h.ck;rcases(show d.at_+1<d.nodes.length\/d.at_=(d.nodes.length:Int)-1 by omega) with h1|h1
 ·exact h1
 ·exfalso;unfold Nd.tail at f;rw[decide_eq_true (show d.at_>=0 by omega),YB,h1] at f;simp at f
def Nd.ahead (d:Nd) (f:Int):Bool:=decide (d.at_ > 0) && f == d.a4 (-1)
def Nd.next (d:Nd) (f:Int):Bool:=!d.tail && f == d.a4 1
def qc8 (d:Nd) (m:Ms):d.step m=if d.at_<0\/m.aa≠d.aa\/m.a4≠d.id then(d,[]) else
 if m.ai=1/\d.ahead m.from_=VJ then(d,[d.msg 2 (-1) d.log.length]) else
 if m.ai=2/\d.next m.from_=VJ/\0<=m.n then(d,(Wh m.n.toNat (d.log.length-m.n.toNat)).map d.forward) else
 if m.ai=3/\d.ahead m.from_=VJ/\m.n=d.log.length/\m.n<500 then d.grow m.cmd else
 if m.ai=4/\d.next m.from_=VJ/\0<=m.n/\m.n<=d.log.length then
  ({ d with an:=max d.an m.n },if d.at_ > 0 then [d.msg 4 (-1) (max d.an m.n)] else []) else(d,[]):=rfl
def nbr (h:BI w base g C V L d) (b:Int) (z:0<=d.at_+b) (y:d.at_+b<d.nodes.length):∃ f i c j,C=.slice (Bs ⟨f,i,B0⟩) d.nodes.length c/\(d.at_+b=(j:Nat))/\(j:Int)<d.nodes.length/\f<w.heap.size/\w.cell? ⟨f,i+j,B0⟩=Bs (.int .i64 (d.a4 b))/\IntKind.i64.wrap (d.at_+b)=(j:Int):=by
 obtain⟨A,c,rfl⟩:=h.dw;have v:=h.br;obtain⟨j,p⟩:∃ j:Nat,d.at_+b=j:=⟨(d.at_+b).toNat,by omega⟩
 obtain⟨f,i,x,rfl,q,u,s⟩:=rd1 (Rd.ay h.b7) (j:=j) (by omega);have k:d.a4 b=x:=by unfold Nd.a4;rw[p];simp[u]
 exact⟨f,i,c,j,rfl,p,by omega,q,by rw[k];exact s,by rw[V4 _ ⟨by omega,by omega⟩,p]⟩
def qc9 {d:Nd} {m:Ms} {h f:Bool} {q p k i:Nd×List Ms} (y:¬(m.ai=1/\h=VJ)) (v:¬(m.ai=2/\f=VJ/\0<=m.n)) (u:¬(m.ai=3/\h=VJ/\m.n=d.log.length/\m.n<500)) (s:¬(m.ai=4/\f=VJ/\0<=m.n/\m.n<=d.log.length)) :
  (if m.ai=1/\h=VJ then q else if m.ai=2/\f=VJ/\0<=m.n then p else if m.ai=3/\h=VJ/\m.n=d.log.length/\m.n<500 then k else if m.ai=4/\f=VJ/\0<=m.n/\m.n<=d.log.length then i else(d,[]))=(d,[]):=by
 rw[if_neg y,if_neg v,if_neg u,if_neg s]
def Qw (h:BI w base g C V L d) (m:Ms) (A:Option XL) (n k:Nat) (hR:FE w w.heap.size A n m.cmd.ad) (hk:A=B0->k=0) (hn:n<=100000) :
  VY Tryz.prog 51 #[.pointer (Bs ⟨g,0,B0⟩),.agg #[.int .i64 m.ai,.int .i64 m.from_,.int .i64 m.a4,.int .i64 m.aa,.int .i64 m.n,.int .i64 m.cmd.ai,.int .i64 m.cmd.tx,.int .i64 m.cmd.ag,.slice A n k]] w (BQ base g C V L d m w):=by
 have au:VP w.heap.size w (w.alloc (.cells (Bv m A n k) 116)):=(VK _ _).alloc (K0 _) _;have y:=h.aC au;have aH:Ae (w.alloc (.cells (Bv m A n k) 116)) w.heap.size 116 (Bv m A n k):=Ae.new w _ _;have ag:∀ F,VP w.heap.size w F/\Ae F w.heap.size 116 (Bv m A n k)->BI F base g C V L d/\F.cell? ⟨w.heap.size,0,B0⟩=Bs (.int .i64 m.ai)/\F.cell? ⟨w.heap.size,1,B0⟩=Bs (.int .i64 m.from_)/\F.cell? ⟨w.heap.size,2,B0⟩=Bs (.int .i64 m.a4)/\F.cell? ⟨w.heap.size,3,B0⟩=Bs (.int .i64 m.aa)/\F.cell? ⟨w.heap.size,4,B0⟩=Bs (.int .i64 m.n)/\
   F.cell? ⟨w.heap.size,5,B0⟩=Bs (.int .i64 m.cmd.ai)/\F.cell? ⟨w.heap.size,6,B0⟩=Bs (.int .i64 m.cmd.tx)/\F.cell? ⟨w.heap.size,7,B0⟩=Bs (.int .i64 m.cmd.ag)/\F.cell? ⟨w.heap.size,8,B0⟩=Bs (.slice A n k)/\w.heap.size<F.heap.size:=fun F ⟨hW,hB⟩=>⟨h.aC hW,hB.cell 0,hB.cell 1,hB.cell 2,hB.cell 3,hB.cell 4,hB.cell 5,hB.cell 6,hB.cell 7,hB.cell 8,hB.lt⟩
 have W:=LH ag;clear ag;have b0:=LH (fun F (hW:VP w.heap.size w F)=>(⟨hR.1,(hR.2.below hW).more hW.size⟩:FE F F.heap.size A n m.cmd.ad));clear hR;have aL:=LH h;have a2:=LH (show VP w.heap.size w (w.alloc (.cells (Bv m A n k) 116))/\Ae (w.alloc (.cells (Bv m A n k) 116)) w.heap.size 116 (Bv m A n k) from⟨au,aH⟩);clear au aH y;have a9:=h.bA;have bc:=h.len;have ba:=h.ck;have bb:=h.lo;have bd:=h.ak.lt;clear h;unfold Bv at a2 W;obtain⟨Z,e0,e1,e2,e3,e4,_,_,_,_,el⟩:=W.o _ a2.o;obtain⟨c0,c1,_,c3,_,_,kl⟩:=Z.cells;clear Z;by_cases G:d.at_<0\/m.aa≠d.aa\/m.a4≠d.id
 ·have u:d.step m=(d,[]):=by rw[qc8,if_pos G]
  have HF:=LH (fun F (hW:VP w.heap.size w F)=>(BQ.of u (BA.nil _ _) (aL.o.aC hW) (Below.fr hW _) (fun _ h=>.inl h):BQ base g C V L d m w (.returned (.slice B0 0 0)) F));clear u;have av:=LH a2.o.1;by_cases b1:d.at_<0
  ·have d1:decide (d.at_<0)=VJ:=decide_eq_true b1;go_enter Tryz.func51,Tryz.ntmps51;go_upto_region 1 with (fail)
   go_quiet (fail);go_wp2_with fail;go_ret;exact HF.o _ (Ck av.o _)
  ·have d1:decide (d.at_<0)=Jx:=decide_eq_false b1;by_cases b2:m.aa=d.aa
   ·have d2:(m.aa != d.aa)=Jx:=by simpa using b2
    have b3:m.a4≠d.id:=by rcases G with h|h|h;exact absurd h b1;exact absurd b2 h;exact h
    have d3:(m.a4 != d.id)=VJ:=by simpa using b3
    clear b2;go_enter Tryz.func51,Tryz.ntmps51;go_upto_region 1 with (fail)
    go_quiet (fail);go_wp2_with fail;go_ret;exact HF.o _ (Ck av.o _)
   ·have d2:(m.aa != d.aa)=VJ:=by simpa using b2
    go_enter Tryz.func51,Tryz.ntmps51;go_upto_region 1 with (fail)
    go_quiet (fail);go_wp2_with fail;go_ret;exact HF.o _ (Ck av.o _)
 ·obtain⟨b1,b2,b3⟩:¬d.at_<0/\m.aa=d.aa/\m.a4=d.id:=⟨fun h=>G (.inl h),V5 fun h=>G (.inr (.inl h)),V5 fun h=>G (.inr (.inr h))⟩
  have u:=qc8 d m;rw[if_neg G] at u;have E:=LH u;clear u G;have d1:decide (d.at_<0)=Jx:=decide_eq_false b1;have d2:(m.aa != d.aa)=Jx:=by simpa using b2
  have d3:(m.a4 != d.id)=Jx:=by simpa using b3
  have aa:0<=d.at_:=by omega
  clear b2 b3;go_enter Tryz.func51,Tryz.ntmps51;go_upto_region 1 with (fail)
  go_quiet (fail);go_upto_region 3 with (fail)
  have aD:VP w.heap.size w ((w.alloc (.cells #[.int .i64 m.ai,.int .i64 m.from_,.int .i64 m.a4,.int .i64 m.aa,.int .i64 m.n,.int .i64 m.cmd.ai,.int .i64 m.cmd.tx,.int .i64 m.cmd.ag,.slice A n k] 116)).drewN nq)/\Ae ((w.alloc (.cells #[.int .i64 m.ai,.int .i64 m.from_,.int .i64 m.a4,.int .i64 m.aa,.int .i64 m.n,.int .i64 m.cmd.ai,.int .i64 m.cmd.tx,.int .i64 m.cmd.ag,.slice A n k] 116)).drewN nq) w.heap.size 116 #[.int .i64 m.ai,.int .i64 m.from_,.int .i64 m.a4,.int .i64 m.aa,.int .i64 m.n,.int .i64 m.cmd.ai,.int .i64 m.cmd.tx,.int .i64 m.cmd.ag,.slice A n k]:=⟨Ck a2.o.1 _,a2.o.2⟩
  clear e0 e1 e2 e3 e4 el c0 c1 c3 kl a2 d1 d2 d3;generalize ((w.alloc _).drewN nq)=w2 at *;have a4:=LH aD;clear aD;go_cut [5] (fun v5 wx=>v5=.bool (d.ahead m.from_)/\(VP w.heap.size w wx/\Ae wx w.heap.size 116 #[.int .i64 m.ai,.int .i64 m.from_,.int .i64 m.a4,.int .i64 m.aa,.int .i64 m.n,.int .i64 m.cmd.ai,.int .i64 m.cmd.tx,.int .i64 m.cmd.ag,.slice A n k]))
  case first=>
   obtain⟨Z,_,e1,_,_,_,_,_,_,_,el⟩:=W.o _ a4.o;by_cases hp:d.at_ > 0
   ·obtain⟨gc,oc,c,j,rfl,hj,aV,aW,aX,aj⟩:=nbr Z (-1) (by omega) (by omega);obtain⟨_,_,c2,c3,_,_,kl⟩:=Z.cells;have d1:decide (0<d.at_)=VJ:=decide_eq_true hp;have ay:=LH (show d.ahead m.from_=(m.from_ == d.a4 (-1)) by unfold Nd.ahead;rw[decide_eq_true hp,YB]);have b8:IntKind.i64.wrap (d.at_-1)=(j:Int):=aj;clear Z aj hj;go_quiet (fail);go_wp2_with fail;go_meet;exact⟨by rw[ay.o],Ck a4.o.1 _,a4.o.2⟩
   ·have d1:decide (0<d.at_)=Jx:=decide_eq_false hp;obtain⟨_,_,_,c3,_,_,kl⟩:=Z.cells;have ay:=LH (show d.ahead m.from_=Jx by unfold Nd.ahead;rw[decide_eq_false hp,Bool.false_and]);clear Z;go_quiet (fail);go_wp2_with fail;go_meet;exact⟨by rw[ay.o],Ck a4.o.1 _,a4.o.2⟩
  case rest=>
   obtain⟨rfl,aC⟩:=hcut;clear a4;rename D0=>w3
   have a3:=LH aC;clear aC;go_upto_region 4 with (fail)
   go_cut [6] (fun v6 wx=>v6=.bool (d.next m.from_)/\(VP w.heap.size w wx/\Ae wx w.heap.size 116 #[.int .i64 m.ai,.int .i64 m.from_,.int .i64 m.a4,.int .i64 m.aa,.int .i64 m.n,.int .i64 m.cmd.ai,.int .i64 m.cmd.tx,.int .i64 m.cmd.ag,.slice A n k]))
   case first=>
    obtain⟨Z,_,e1,_,_,_,_,_,_,_,el⟩:=W.o _ a3.o;have ab:=LH (fun nq=>Qi (Z.aC (Ck (VK w3.heap.size w3) nq)));cases ht:d.tail
    ·have be:=MX Z aa ht;rw[ht] at ab;obtain⟨gc,oc,c,j,rfl,hj,aV,aW,aX,aj⟩:=nbr Z 1 (by omega) (by omega);obtain⟨_,_,c2,c3,_,_,kl⟩:=Z.cells;have ax:=LH (show d.next m.from_=(m.from_ == d.a4 1) by unfold Nd.next;rw[ht];rfl);clear Z ht hj;go_quiet ((go_at_call 58;exact Calls.quiet_of (ab.o _)));go_wp2_with fail;go_meet;exact⟨by rw[ax.o],Ck a3.o.1 _,a3.o.2⟩
    ·rw[ht] at ab;have ax:=LH (show d.next m.from_=Jx by unfold Nd.next;rw[ht];rfl);clear Z ht;go_quiet ((go_at_call 58;exact Calls.quiet_of (ab.o _)));go_wp2_with fail;go_meet;exact⟨by rw[ax.o],Ck a3.o.1 _,a3.o.2⟩
   case rest=>
    obtain⟨rfl,f⟩:=hcut;clear a3;rename D0=>w4
    obtain⟨a7,e0,e1,e2,e3,e4,e5,e6,e7,e8,el⟩:=W.o _ f;have ac:=LH f;have aY:d.ahead m.from_=VJ->d.at_ > 0:=fun h=>by unfold Nd.ahead at h;simp only[Wj,decide_eq_true_eq] at h;exact h.1
    have aS:d.next m.from_=VJ->d.at_+1<d.nodes.length:=fun h=>MX a7 aa (by unfold Nd.next at h;simp only[Wj,XE] at h;exact h.1)
    generalize d.ahead m.from_=ah at *;generalize d.next m.from_=nx at *;have z:=LH (fun F (hW:VP w.heap.size w F) (u:d.step m=(d,[]))=>(BQ.of u (BA.nil _ _) (aL.o.aC hW) (Below.fr hW _) (fun _ h=>.inl h):BQ base g C V L d m w (.returned (.slice B0 0 0)) F));obtain⟨_,_,c2,c3,c4,c5,kl⟩:=a7.cells;obtain⟨AL,cL,rfl⟩:=a7.cF;have O:=LH a7;clear a7;have f:=ac.o;clear w2;by_cases k1:m.ai=1
    ·rw[k1] at e0;cases ah
     ·have HH:=LH f;clear f;have f:=HH.o;go_wp2_with fail;go_quiet (fail);go_wp2_with fail;go_quiet (fail);go_wp2_with fail;go_ret;exact z.o _ (Ck (Ck (f.1) _) _) (by rw[E.o];exact qc9 (by rintro ⟨h,p⟩;first|omega|(exact absurd p (by simp))|(obtain⟨y,_⟩:=p;exact absurd y (by simp))|(obtain⟨_,h2,h3⟩:=p;omega)) (by rintro ⟨h,p⟩;first|omega|(exact absurd p (by simp))|(obtain⟨y,_⟩:=p;exact absurd y (by simp))|(obtain⟨_,h2,h3⟩:=p;omega)) (by rintro ⟨h,p⟩;first|omega|(exact absurd p (by simp))|(obtain⟨y,_⟩:=p;exact absurd y (by simp))|(obtain⟨_,h2,h3⟩:=p;omega)) (by rintro ⟨h,p⟩;first|omega|(exact absurd p (by simp))|(obtain⟨y,_⟩:=p;exact absurd y (by simp))|(obtain⟨_,h2,h3⟩:=p;omega)))
     ·have b9:=aY rfl;have HM:=LH (q73 O.o 2 (-1) L.length (by omega) (by omega));go_wp2_with fail;refine HM.o.mono ?_;rintro e w5 ⟨rfl,H⟩;have u:d.step m=(d,[d.msg 2 (-1) d.log.length]):=by rw[E.o];simp[k1]
      unfold De;have ar:VP w5.heap.size w5 (w5.alloc (.cells (Bv (d.msg 2 (-1) d.log.length) B0 0 0) 116)):=(VK _ _).alloc (K0 _) _;have U:=f.1.trans (H.mono f.1.size);have s:BQ base g C (.slice AL L.length cL) L d m w (.returned (.slice (Bs ⟨w5.heap.size,0,B0⟩) 1 1)) (w5.alloc (.cells (Bv (d.msg 2 (-1) d.log.length) B0 0 0) 116)):=
       BQ.of u (q9t (A:=B0) (n:=0) (k:=0) (K8 (GX w5 _ _ 9 rfl) U.size) (VZ _ _ _ _) rfl (by omega)) ((O.o.aC H).aC ar) (Below.fr (U.trans (ar.mono U.size)) _) (fun _ h=>.inl h)
      unfold Bv at s;rw[a9] at s;have HF:=LH s;clear s ar U H u;go_wp2_with fail;go_ret;exact HF.o
    ·have f1:(m.ai == 1)=Jx:=by simpa using k1
     by_cases k2:m.ai=2
     ·rw[k2] at e0;cases nx
      ·have f:=f;go_wp2_with fail;go_quiet (fail);go_wp2_with fail;go_quiet (fail);go_wp2_with fail;go_ret;exact z.o _ (Ck (Ck (f.1) _) _) (by rw[E.o];exact qc9 (by rintro ⟨h,p⟩;first|omega|(exact absurd p (by simp))|(obtain⟨y,_⟩:=p;exact absurd y (by simp))|(obtain⟨_,h2,h3⟩:=p;omega)) (by rintro ⟨h,p⟩;first|omega|(exact absurd p (by simp))|(obtain⟨y,_⟩:=p;exact absurd y (by simp))|(obtain⟨_,h2,h3⟩:=p;omega)) (by rintro ⟨h,p⟩;first|omega|(exact absurd p (by simp))|(obtain⟨y,_⟩:=p;exact absurd y (by simp))|(obtain⟨_,h2,h3⟩:=p;omega)) (by rintro ⟨h,p⟩;first|omega|(exact absurd p (by simp))|(obtain⟨y,_⟩:=p;exact absurd y (by simp))|(obtain⟨_,h2,h3⟩:=p;omega)))
      ·by_cases r1:0<=m.n
       ·obtain⟨a,ha⟩:∃ a:Nat,m.n=a:=⟨m.n.toNat,by omega⟩
        have d1:decide (0<=m.n)=VJ:=decide_eq_true r1;have u:d.step m=(d,(Wh a (d.log.length-a)).map d.forward):=by
         rw[E.o,if_neg (fun h=>by have:=h.1;omega),if_pos (by refine⟨k2,?_,r1⟩;simp),show m.n.toNat=a by omega]
        have a1:=LH u;clear u;rw[ha] at e4 d1;clear c2 c5 e1 e2 e3 e5 e6 e7 e8;go_wp2_with fail;go_loopw [7,8] (FwRel d a w4 w4.heap.size) (fun _ v _=>d.log.length-(intOf v).toNat)
        case atStart=>exact⟨0,rfl,.inl rfl,BA.nil _ _,VK _ _⟩
        case round=>
         obtain⟨j,rfl,hj,a0,hb⟩:=hrel;have Y:=O.o.aC hb;obtain⟨_,_,_,_,c4,_,kl⟩:=Y.cells;obtain⟨q,hq⟩:∃ q:Nat,a+j=q:=⟨_,rfl⟩
         rw[hq] at hj ⊢;by_cases aT:q<L.length
         ·have dl:decide ((q:Int)<(L.length:Int))=VJ:=decide_eq_true (by omega);have HX:=LH (show L[q]? = Bs L[q] from L1 aT);have aM:=LH (qa8 Y q _ HX.o aa (aS trivial));have aK:=LH (Y.own _ (S2 HX.o));have b6:=LH (show(d.forward q).cmd=L[q].c by unfold Nd.forward;rw[<- Y.log,AM,V8,HX.o];rfl);have ai:=LH a0;clear a0;have ae:=LH hb;clear hb Y;have aN:=LH (Ue d a j);rw[hq] at aN;generalize L[q]=x at *;generalize d.forward q=fm at *;go_wp2_with fail;refine aM.o.mono ?_;rintro e w5 ⟨A1,aQ,rfl,I,H⟩;have U:=ae.o.trans (H.mono ae.o.size);have aR:w4.heap.size<=w5.heap.size:=U.size;obtain⟨A7,c7,M,rfl,a5,al,az⟩:=ai.o.aC H;have ao:((Wh a j).map d.forward).length=M.length:=by rw[<- al];simp[AF]
          have bf:M.length<=500:=by rw[<- ao];simp;omega
          have I:=K8 I ae.o.size;rw[ao] at a5 ⊢;have a8:=LH a5;clear a5;have aZ:=LH az;clear az;have b5:=LH al;clear al ao;have aJ:=LH I;clear I;have aP:=LH U;clear U H aM ai ae;unfold De;go_wp2_with (at_builtin;refine stop ?_)
          refine Df ?_;refine PD w5 _ rfl (.tmp 113) (.tmp 117) 86 rfl w4.heap.size 116 _ 9 88 Tryz.underlying86 q75 rfl (by decide) _ _ _ (Bv fm A1 x.n aQ) rfl a8.o 1 rfl _ rfl rfl (by unfold Bv;simp[WB]) (by unfold Wo;omega) (by omega) aR ?_;intro v' w9 aE am;have aB:=BA.snoc b5.o aZ.o a8.o aJ.o (by rw[b6.o];exact aK.o.2.1) aK.o.2.2 aE am;have a6:FwRel d a w4 w4.heap.size v' (.int .i64 ((q+1:Nat):Int)) w9:=by
           refine⟨j+1,by rw[show a+(j+1)=q+1 by omega],.inr (by omega),by rw[aN.o];exact aB,aP.o.trans (am.below (fun b hb=>?_) aP.o.size)⟩;exact(a8.o.lt b hb).1
          have HR:=LH a6;clear a6 aB aE am;clear dl;go_wp2_with fail;go_roundw
          ·exact HR.o
          ·simp[intOf];omega
         ·have dl:decide ((q:Int)<(L.length:Int))=Jx:=decide_eq_false (by omega);have s:BQ base g C (.slice AL L.length cL) L d m w (.returned u7) wr:=by
           refine BQ.of a1.o ?_ Y ?_ (fun _ h=>.inl h)
           ·rw[show d.log.length-a=j by omega];exact a0.lower ac.o.1.size
           ·exact Below.fr (ac.o.1.trans (hb.mono ac.o.1.size)) _
          have HF:=LH s;clear s hb a0 Y;go_wp2_with fail;go_ret;exact HF.o
       ·have d1:decide (0<=m.n)=Jx:=decide_eq_false (by omega);go_wp2_with fail;go_quiet (fail);go_wp2_with fail;go_quiet (fail);go_wp2_with fail;go_ret;exact z.o _ (Ck (Ck (f.1) _) _) (by rw[E.o,if_neg (fun h=>by have:=h.1;omega),if_neg (fun h=>by have:=h.2.2;omega),if_neg (fun h=>by have:=h.1;omega),if_neg (fun h=>by have:=h.1;omega)])
     ·by_cases k3:m.ai=3
      ·rw[k3] at e0;cases ah
       ·have f:=f;go_wp2_with fail;go_quiet (fail);go_wp2_with fail;go_quiet (fail);go_wp2_with fail;go_ret;exact z.o _ (Ck (Ck (f.1) _) _) (by rw[E.o];exact qc9 (by rintro ⟨h,p⟩;first|omega|(exact absurd p (by simp))|(obtain⟨y,_⟩:=p;exact absurd y (by simp))|(obtain⟨_,h2,h3⟩:=p;omega)) (by rintro ⟨h,p⟩;first|omega|(exact absurd p (by simp))|(obtain⟨y,_⟩:=p;exact absurd y (by simp))|(obtain⟨_,h2,h3⟩:=p;omega)) (by rintro ⟨h,p⟩;first|omega|(exact absurd p (by simp))|(obtain⟨y,_⟩:=p;exact absurd y (by simp))|(obtain⟨_,h2,h3⟩:=p;omega)) (by rintro ⟨h,p⟩;first|omega|(exact absurd p (by simp))|(obtain⟨y,_⟩:=p;exact absurd y (by simp))|(obtain⟨_,h2,h3⟩:=p;omega)))
       ·by_cases q1:m.n=d.log.length
        ·by_cases q2:m.n<500
         ·have d2:decide (m.n<500)=VJ:=decide_eq_true q2;have d3:(m.n == (L.length:Int))=VJ:=by rw[q1,a9];simp
          go_wp2_with fail;go_quiet (fail);have aU:L.length<500:=by omega
          have HG:=LH (JK (O.o.aC (Ck (VK w4.heap.size w4) nq)) ⟨m.cmd,A,n,k⟩ (b0.o _ (Ck f.1 nq)) hk hn aU aa);go_wp2_with fail;refine HG.o.mono ?_;rintro e w5 ⟨V1,V2,x2,rfl,_,ho,X,aI,af⟩;have u:d.step m=((d.grow m.cmd).1,(d.grow m.cmd).2):=by
           rw[E.o,if_neg (fun h=>by have:=h.1;omega),if_neg (fun h=>by have:=h.1;omega),if_pos (by refine⟨k3,?_,q1,q2⟩;simp)]
          have s:BQ base g C (.slice AL L.length cL) L d m w (.returned V1) w5:=BQ.of u (ho.lower f.1.size) X ((Below.fr (Ck f.1 nq) _).trans aI) (fun q hq=>(af q hq).imp id (fun h=>VO f.1.size h));have HF:=LH s;clear s ho X aI af u;go_wp2_with fail;go_ret;exact HF.o
         ·have d2:decide (m.n<500)=Jx:=decide_eq_false q2;have d3:(m.n == (L.length:Int))=VJ:=by rw[q1,a9];simp
          go_wp2_with fail;go_quiet (fail);go_wp2_with fail;go_quiet (fail);go_wp2_with fail;go_ret;exact z.o _ (Ck (Ck (f.1) _) _) (by rw[E.o,if_neg (fun h=>by have:=h.1;omega),if_neg (fun h=>by have:=h.1;omega),if_neg (fun h=>by have:=h.2.2.2;omega),if_neg (fun h=>by have:=h.1;omega)])
        ·have d3:(m.n == (L.length:Int))=Jx:=by rw[<- a9];simpa using q1
         go_wp2_with fail;go_quiet (fail);go_wp2_with fail;go_quiet (fail);go_wp2_with fail;go_ret;exact z.o _ (Ck (Ck (f.1) _) _) (by rw[E.o,if_neg (fun h=>by have:=h.1;omega),if_neg (fun h=>by have:=h.1;omega),if_neg (fun h=>by have:=h.2.2.1;omega),if_neg (fun h=>by have:=h.1;omega)])
      ·by_cases k4:m.ai=4
       ·rw[k4] at e0;cases nx
        ·have f:=f;go_wp2_with fail;go_quiet (fail);go_wp2_with fail;go_quiet (fail);go_wp2_with fail;go_ret;exact z.o _ (Ck (Ck (f.1) _) _) (by rw[E.o,if_neg (fun h=>by have:=h.1;omega),if_neg (fun h=>by have:=h.1;omega),if_neg (fun h=>by have:=h.1;omega),if_neg (fun h=>by have:=h.2.1;simp at this)])
        ·by_cases r1:0<=m.n
         ·by_cases r2:m.n<=d.log.length
          ·
           have d1:decide (0<=m.n)=VJ:=decide_eq_true r1;have d2:decide (m.n<=(L.length:Int))=VJ:=decide_eq_true (by omega);go_wp2_with fail;go_quiet (fail);go_wp2_with fail;go_quiet (fail);have f5:=O.o.ak.frozen 5;have aF:=O.o.bI (k:=max d.an m.n) (by have:=O.o.st0;omega) (by have:=O.o.b3;omega);have b4:=LH aF;clear aF;go_upto_region 17 with (fail)
           refine nW ?_;refine CF (fun w'=>w'.cell? ⟨g,5,B0⟩=Bs (.int .i64 d.an)/\w'.cell? ⟨w.heap.size,4,B0⟩=Bs (.int .i64 m.n)) 8 (fun _ _ _ _ _ h=>h) (fun J=>?_);have R:=Wm c5 e4;refine nF 0 J R ?_;refine nF 1 J R ?_;refine nF 2 J R ?_;refine nF 3 J R ?_;refine nB 4 rfl rfl J R (fun w' ak=>by obtain⟨q0,q1⟩:=ak;go_simp;rfl) ?_;refine nF 5 J R ?_;refine nB 6 rfl rfl J R (fun w' ak=>by obtain⟨q0,q1⟩:=ak;go_simp;rfl) ?_;refine nF 7 J R ?_;refine nG 8 (fun KK hK=>?_);go_simp;refine hK _ _ nZ ?_;clear hK KK;refine nG 9 (fun KK hK=>?_);go_simp;refine hK _ _ nZ ?_;clear hK KK;refine nG 10 (fun KK hK=>?_);go_simp;refine hK _ _ nZ ?_;clear hK KK;refine nX ?_;clear J R;have aG:(if d.an<m.n then m.n else d.an)=max d.an m.n:=by split <;> omega
           try rw[aG]
           have u:d.step m=({ d with an:=max d.an m.n },if d.at_ > 0 then [d.msg 4 (-1) (max d.an m.n)] else []):=by
            rw[E.o,if_neg (fun h=>by have:=h.1;omega),if_neg (fun h=>by have:=h.1;omega),if_neg (fun h=>by have:=h.1;omega),if_pos (by refine⟨k4,?_,r1,r2⟩;simp)]
           have a1:=LH u;clear u aG;generalize aA:w4.drewN _=w5;have H:VP w4.heap.size w4 w5:=aA▸Ck (VK _ _) _;have X:=O.o.aC H;have ad:=LH (X.bI (k:=max d.an m.n) (by have:=X.st0;omega) (by have:=X.b3;omega));have b7:=LH (f.1.trans (H.mono f.1.size));have aO:=LH ((Below.fr b7.o (CC g C (.slice AL L.length cL) L)).trans ((Fr.a6 g w5 5 (.int .i64 (max d.an m.n))).mono (fun i _ e=>.inl e)));clear aA X H f c2 c3 c4 c5 kl f5 b4 e0 e1 e2 e3 e4 e5 e6 e7 e8 el;generalize max d.an m.n=ks at *;generalize (w5.setCell _ _)=w7 at *;obtain⟨_,_,_,c3,_,c5,kl⟩:=ad.o.cells;by_cases hp:d.at_ > 0
           ·have HM:=LH (q73 ad.o 4 (-1) ks (show 0<=d.at_ + -1 by omega) (show d.at_ + -1<d.nodes.length by omega));go_wp2_with fail;refine HM.o.mono ?_;rintro e w8 ⟨rfl,aq⟩;unfold De;have ap:VP w8.heap.size w8 (w8.alloc (.cells (Bv (d.msg 4 (-1) ks) B0 0 0) 116)):=(VK _ _).alloc (K0 _) _;have aw:=aO.o.trans (Below.fr aq (CC g C (.slice AL L.length cL) L));have s:BQ base g C (.slice AL L.length cL) L d m w (.returned (.slice (Bs ⟨w8.heap.size,0,B0⟩) 1 1)) (w8.alloc (.cells (Bv (d.msg 4 (-1) ks) B0 0 0) 116)):=
             BQ.of (by rw[a1.o,if_pos hp]) (q9t (A:=B0) (n:=0) (k:=0) (K8 (GX w8 _ _ 9 rfl) aw.size) (VZ _ _ _ _) rfl (by omega)) ((ad.o.aC aq).aC ap) (aw.trans (Below.fr ap _)) (fun _ h=>.inl h)
            unfold Bv at s;have HF:=LH s;clear s ap aw aq;go_wp2_with fail;go_ret;exact HF.o
           ·have s:BQ base g C (.slice AL L.length cL) L d m w (.returned (.slice B0 0 0)) w7:=BQ.of (by rw[a1.o,if_neg hp]) (BA.nil _ _) ad.o aO.o (fun _ h=>.inl h);have HF:=LH s;clear s;go_wp2_with fail;go_ret;exact HF.o
          ·have d1:decide (0<=m.n)=VJ:=decide_eq_true r1;have d2:decide (m.n<=(L.length:Int))=Jx:=decide_eq_false (by omega);go_wp2_with fail;go_quiet (fail);go_wp2_with fail;go_quiet (fail);go_wp2_with fail;go_ret;exact z.o _ (Ck (Ck (f.1) _) _) (by rw[E.o,if_neg (fun h=>by have:=h.1;omega),if_neg (fun h=>by have:=h.1;omega),if_neg (fun h=>by have:=h.1;omega),if_neg (fun h=>by have:=h.2.2.2;omega)])
         ·have d1:decide (0<=m.n)=Jx:=decide_eq_false r1;go_wp2_with fail;go_quiet (fail);go_wp2_with fail;go_quiet (fail);go_wp2_with fail;go_ret;exact z.o _ (Ck (Ck (f.1) _) _) (by rw[E.o,if_neg (fun h=>by have:=h.1;omega),if_neg (fun h=>by have:=h.1;omega),if_neg (fun h=>by have:=h.1;omega),if_neg (fun h=>by have:=h.2.2.1;omega)])
       ·have f2:(m.ai == 2)=Jx:=by simpa using k2
        have f3:(m.ai == 3)=Jx:=by simpa using k3
        have f4:(m.ai == 4)=Jx:=by simpa using k4
        go_wp2_with fail;go_quiet (fail);go_wp2_with fail;go_quiet (fail);go_wp2_with fail;go_ret;exact z.o _ (Ck (Ck (f.1) _) _) (by rw[E.o];exact qc9 (by rintro ⟨h,p⟩;first|omega|(exact absurd p (by simp))|(obtain⟨y,_⟩:=p;exact absurd y (by simp))|(obtain⟨_,h2,h3⟩:=p;omega)) (by rintro ⟨h,p⟩;first|omega|(exact absurd p (by simp))|(obtain⟨y,_⟩:=p;exact absurd y (by simp))|(obtain⟨_,h2,h3⟩:=p;omega)) (by rintro ⟨h,p⟩;first|omega|(exact absurd p (by simp))|(obtain⟨y,_⟩:=p;exact absurd y (by simp))|(obtain⟨_,h2,h3⟩:=p;omega)) (by rintro ⟨h,p⟩;first|omega|(exact absurd p (by simp))|(obtain⟨y,_⟩:=p;exact absurd y (by simp))|(obtain⟨_,h2,h3⟩:=p;omega)))
end
section
variable (base g off nd:Nat) (T:VV) (cs:Array O0) (V:O0) (D:Option Nat) (L:List AS) (dead:Int->Bool) (lost:Int) (w:D0)
def Jn (hI:AJ w base g off T cs V D nd L dead lost):VY Tryz.prog 39 #[.pointer (Bs ⟨g,off,B0⟩)] w fun e w'=>e=.returned (.int .i64 L.length)/\w=w':=by
 obtain⟨q,p,f,h,i⟩:=AR hI.row;have k:=(hI.ak.cell off).trans hI.c0;rw[f] at k;clear hI f;go_enter Tryz.func39,Tryz.ntmps39;go_wp2_with fail;go_ret;exact⟨rfl,rfl⟩
def Nz (base g off nd:Nat) (T:VV) (cs:Array O0) (V:O0) (D:Option Nat) (L:List AS) (dead:Int->Bool) (lost:Int) (k:Nat) (w:D0) (e:WC) (w':D0):Prop:=
 ∃ V' lost',e=.returned .nilIface/\AJ w' base g off T ((cs.setIfInBounds off V').setIfInBounds (off+2) (.int .i64 lost')) V' D nd (L.eraseIdx k) dead lost'/\Fr (BO g V D) w w'/\V'.ownBlock=V.ownBlock
def Je {w:D0} {base g nd:Nat} {T:VV} {cs:Array O0} {V:O0} {D:Option Nat} {L:List AS} {dead:Int->Bool} {lost:Int} (hI:AJ w base g B T cs V D nd L dead lost) (n:Int) :
  AJ (w.setCell ⟨g,B+2,B0⟩ (.int .i64 n)) base g B T (cs.setIfInBounds (B+2) (.int .i64 n)) V D nd L dead n:=by
 have f:=Fr.a6 g w (B+2) (.int .i64 n);have p:B+2<cs.size:=by
  have:=hI.c2;rcases W7 (B+2) cs.size with h|h
  ·exact h
  ·rw[WW (by simpa using h)] at this;cases this
 refine⟨hI.ak.aH _ _,?_,?_,by simp[p],f.own hI.row (fun b i e=>by subst e;exact Bh hI.row hI.ak (fun e=>hI.ne.1 e.symm) i),fun x k=>⟨f.own (hI.own x k).1 (fun b i e=>by subst e;exact Bh (hI.own x k).1 hI.ak (fun e=>hI.ne.2 e.symm) i),(hI.own x k).2⟩,hI.down.fr f (fun b i e=>by subst e;exact hI.down.aB hI.ak i),hI.len,hI.ne,VO hI.bg f.size⟩
 ·rw[Wi (by omega)];exact hI.c0
 ·rw[Wi (by omega)];exact hI.c1
def Ro (k:Nat) (hI:AJ w base g off T cs V D nd L dead lost) (G:k<L.length) :
  VY Tryz.prog 53 #[.pointer (Bs ⟨g,off,B0⟩),.int .i64 k] w (Nz base g off nd T cs V D L dead lost k w):=by
 have HI:=LH hI;clear hI;go_enter Tryz.func53,Tryz.ntmps53;go_wp2_with fail;refine(IN base g off nd T cs V D L dead lost k w HI.o G).mono ?_;rintro e s ⟨V',x,F,rfl,v,H,y,u⟩;have i:∀ o,AJ (s.alloc o) base g off T (cs.setIfInBounds off V') V' D nd (L.eraseIdx k) dead lost:=fun o=>v.fr ((Fr.refl (fun _=>False) _).alloc _) (fun h=>h) (fun _ _ h=>h) (fun _ _ h=>h) (fun _ _ _ _ _ h=>h)
 have E:=fun o=>((i o).ak.cell (off+2)).trans (i o).c2
 have z:=fun o=>(i o).ak.frozen (off+2)
 have f:∀ o,Nz base g off nd T cs V D L dead lost k w (.returned .nilIface) ((s.alloc o).setCell ⟨g,off+2,B0⟩ (.int .i64 (Xn (lost+1)))):=fun o=>
  ⟨V',_,rfl,Je (i o) (Xn (lost+1)),(y.alloc o).setCell (p:=⟨g,off+2,B0⟩) (.inl (.inl rfl)) _,u⟩
 have q:=LH f;clear f i v H y u F HI;unfold TS De;have J:=E (.cells #[.int .i64 x.m.ai,.int .i64 x.m.from_,.int .i64 x.m.a4,.int .i64 x.m.aa,.int .i64 x.m.n,.int .i64 x.m.cmd.ai,.int .i64 x.m.cmd.tx,.int .i64 x.m.cmd.ag,.slice x.A x.n x.k] 116);have I:=z (.cells #[.int .i64 x.m.ai,.int .i64 x.m.from_,.int .i64 x.m.a4,.int .i64 x.m.aa,.int .i64 x.m.n,.int .i64 x.m.cmd.ai,.int .i64 x.m.cmd.tx,.int .i64 x.m.cmd.ag,.slice x.A x.n x.k] 116);clear E z;go_wp2_with fail;go_ret;exact q.o _
end
def RU (k:Int):O0:=.iface 79 (.int .i64 k)
def J8 (base g off nd:Nat) (T:VV) (cs:Array O0) (V:O0) (D:Option Nat) (L:List AS) (dead:Int->Bool) (lost:Int) (x:AS) (w:D0) (e:WC) (w':D0):Prop:=
 ∃ V' L' lost',e=.returned .nilIface/\(∀ y∈L',y∈L\/Ke w.heap.size y)/\AJ w' base g off T ((cs.setIfInBounds off V').setIfInBounds (off+2) (.int .i64 lost')) V' D nd L' dead lost'/\AN ⟨AF L,dead⟩ x.m=⟨AF L',dead⟩/\Fr (BO g V D) w w'/\(V'.ownBlock=V.ownBlock\/∃ b,V'.ownBlock=Bs b/\w.heap.size<=b)
section
variable (base g off nd:Nat) (T:VV) (cs:Array O0) (V:O0) (D:Option Nat) (L:List AS) (dead:Int->Bool) (lost:Int) (w:D0)
def KD (k:Nat) (hI:AJ w base g off T cs V D nd L dead lost) (u:k<L.length) (i:L.length=200) :
  VY Tryz.prog 54 #[.pointer (Bs ⟨g,off,B0⟩),.int .i64 k] w fun e w'=>e=.returned (RU 4)/\w=w':=by
 obtain⟨z,y,f,h,v⟩:=AR hI.row;have p:=(hI.ak.cell off).trans hI.c0;rw[f] at p;clear hI f;rw[i] at p u;unfold RU;have s:¬(k:Int)<0:=by omega
 have q:(k:Int)<200:=by omega
 clear i h;go_enter Tryz.func54,Tryz.ntmps54;go_wp2_with fail;go_ret;exact⟨rfl,rfl⟩
def NS (k:Nat) (x:AS) (hI:AJ w base g off T cs V D nd L dead lost) (W:L[k]? = Bs x) (hL:L.length<200) (u:EW x.m.from_/\EW x.m.a4/\x.n<=100000) :
  VY Tryz.prog 54 #[.pointer (Bs ⟨g,off,B0⟩),.int .i64 k] w (J8 base g off nd T cs V D L dead lost x w):=by
 have hk:k<L.length:=(List.getElem?_eq_some_iff.1 W).1;obtain⟨gv,cap,Y,a4,a1⟩:=Lk hI.row (by omega);have M:=Rd.ay (by rw[<- Y];exact hI.row:w.ownsRow base 116 9 (.slice (Bs ⟨gv,0,B0⟩) L.length cap) L.length (L.flatMap Ct));obtain⟨g',o',x',hA,_,H,h0,h1,h2,h3,h4,h5,h6,h7,h8⟩:=M.bO rfl hk;simp only[VR,W1,and_true] at hA;obtain⟨rfl,rfl⟩:=hA;rw[W] at H;obtain rfl:=WR H;rw[Wx] at h0 h1 h2 h3 h4 h5 h6 h7 h8;have c0:=(hI.ak.cell off).trans hI.c0;rw[Y] at c0;have a0:((L.length:Int) == 200)=Jx:=by simpa using (by omega:¬(L.length:Int)=200)
 have q:Fr (fun _=>False) w (w.alloc (.cells (Bv x.m x.A x.n x.k) 116)):=(Fr.refl _ _).alloc _;have s:=hI.fr q (fun h=>h) (fun _ _ h=>h) (fun _ _ h=>h) (fun _ _ _ _ _ h=>h);have J:=Rd.lit w (Bv x.m x.A x.n x.k) 116 1 9 rfl;have v:=hI.own x (S2 W);have f:=q.own v.1 (fun _ _ h=>h);have I:My (w.alloc (.cells (Bv x.m x.A x.n x.k) 116)) (BO g V D) (Bs ⟨w.heap.size,0,B0⟩) 1 [x]:=by
  refine⟨rfl,by have:=J.more (B':=(w.alloc (.cells (Bv x.m x.A x.n x.k) 116)).heap.size) (by simp);simpa [Ct] using this,fun b o e _=>?_,fun y F=>?_⟩
  ·simp only[VR,W1,and_true] at e;obtain⟨rfl,rfl⟩:=e;rintro (h|h|h)
   ·have:=hI.ak.lt;omega
   ·have:=hI.vlt h.symm;omega
   ·have:=hI.down;rw[<- h] at this;have:=this.lt;omega
  ·rw[List.mem_singleton.1 F];refine⟨⟨v.2,Rd.ay f⟩,fun b o e _=>?_⟩;have E:Wc (.slice x.A x.n x.k)=Bs b:=by rw[e];rfl
   rintro (h|h|h)
   ·subst h;exact Bh f s.ak (fun e=>hI.ne.2 e.symm) E
   ·exact ES f s.row (by decide) E h.symm
   ·exact s.down.aL f h.symm E
 have G:x.A=B0->x.k=0:=fun e=>by
  rcases v.1.2 with ⟨h,_⟩|⟨_,_,_,h,_⟩
  ·injection h
  ·rw[e] at h;cases h
 have p:=IX base g off nd 1 1 T cs V D L dead lost (Bs ⟨w.heap.size,0,B0⟩) [x] _ s I (by omega) (fun y F=>by rw[List.mem_singleton.1 F];exact⟨u.1,u.2.1,u.2.2,G⟩);unfold Bv at p q;have HS:=LH p;clear p;have Z:=LH q;clear q;have a2:(k:Int)<L.length:=by omega
 have a3:¬(k:Int)<0:=by omega
 clear hI s I J v f G M Y u W;go_enter Tryz.func54,Tryz.ntmps54;go_wp2_with fail;refine HS.o.mono ?_;rintro e w2 ⟨V',L',lost',d,rfl,O,hN,hs,hF,R⟩;have z:J8 base g off nd T cs V D L dead lost x w (.returned .nilIface) w2:=⟨V',L',lost',rfl,(fun y F=>(O y F).imp id (fun h b X=>VO Z.o.size (h b X))),hN,hs,(Z.o.mono (T:=BO g V D) (fun i _ h=>h.elim)).trans' hF (fun i _ h=>h),by
  rcases R with h|⟨b,h,X⟩
  ·exact .inl h
  ·exact .inr ⟨b,h,VO Z.o.size X⟩⟩
 have U:=LH z;clear z hN hs hF R O;go_wp2_with fail;go_ret;exact U.o
end
def Dj (b:Nat):O0:=.func (.func 110) #[] #[.pointer (Bs ⟨b,0,B0⟩)]
def JN (b:Nat) (id:Int) (x:AS) (w:D0) (v:w.cell? ⟨b,0,B0⟩=Bs (.int .i64 id)) :
  VY Tryz.prog 110 #[TS x,.pointer (Bs ⟨b,0,B0⟩)] w fun e w'=>e=.returned (.bool (gone id x.m))/\VP w.heap.size w w':=by
 have u:=Wa w _ v;have k:∀ o,VP w.heap.size w (w.alloc o):=fun o=>(VK _ _).alloc (K0 _) _
 have p:=LH k;clear k;unfold TS De;have q:gone id x.m=(decide (x.m.from_=id) || decide (x.m.a4=id)):=rfl;by_cases i:x.m.from_=id
 ·have y:(x.m.from_ == id)=VJ:=by simpa using i
  have f:gone id x.m=VJ:=by rw[q,decide_eq_true i];rfl
  have s:=LH f;clear f q i;go_enter Tryz.func110,Tryz.ntmps110;go_wp2_with fail;go_ret;rw[s.o];exact⟨rfl,p.o _⟩
 ·have y:(x.m.from_ == id)=Jx:=by simpa using i
  have f:gone id x.m=(x.m.a4 == id):=by rw[q,decide_eq_false i];by_cases h:x.m.a4=id <;> simp[h]
  have s:=LH f;clear f q i;go_enter Tryz.func110,Tryz.ntmps110;go_wp2_with fail;go_ret;rw[s.o];exact⟨rfl,p.o _⟩
def Ec (p:Ms->Bool) (L:List AS):Int:=match L.findIdx? (fun x=>p x.m) with|some i=>(i:Int)|none=>-1
def ixRel (p:Ms->Bool) (L:List AS) (n:Nat) (w:D0) (v:O0) (wr:D0):Prop:=∃ j:Nat,v=.int .i64 j/\j<=n/\(∀ x∈L.take j,p x.m=Jx)/\VP w.heap.size w wr
def OU (b g off k n:Nat) (id:Int) (L:List AS) (w:D0) (R:w.cell? ⟨b,0,B0⟩=Bs (.int .i64 id)) (Y:Rd w w.heap.size 9 (Bs ⟨g,off,B0⟩) n (L.flatMap Ct)) (hl:L.length=n) (hn:n<=100000) :
  VY Tryz.prog 128 #[.slice (Bs ⟨g,off,B0⟩) n k,Dj b] w fun e w'=>e=.returned (.int .i64 (Ec (gone id) L))/\VP w.heap.size w w':=by
 unfold Dj;have HR:=LH Y;clear Y;go_enter Tryz.func128,Tryz.ntmps128;go_wp2_with fail;go_loopw [8] (ixRel (gone id) L n w) (fun v _=>n-(intOf v).toNat)
 case atStart=>exact⟨0,rfl,VN _,(fun x F=>by simp at F),VK _ _⟩
 case round=>
  obtain⟨j,rfl,hj,f,h⟩:=hrel;by_cases a0:(j:Int)<n
  ·obtain⟨g',o',x,Z,U,F,h0,h1,h2,h3,h4,h5,h6,h7,h8⟩:=(HR.o.below h).bO hl (j:=j) (by omega);simp only[VR,W1,and_true] at Z;obtain⟨rfl,rfl⟩:=Z;have a1:g<wr.heap.size:=VL U h.size;have u:=JN b id x wr ((h.cell (p:=⟨b,0,B0⟩) (Wa w _ R)).trans R);have J:j<L.length:=by omega
   have E:gone id x.m=VJ->Ec (gone id) L=j:=fun z=>by
    have:L.findIdx? (fun x=>gone id x.m)=Bs j:=by
     rw[VU];refine⟨J,?_,fun i hi=>?_⟩
     ·rw[<- WR ((L1 J).symm.trans F)] at z;exact z
     ·simp only[X2];exact f _ (by rw[Xw];exact⟨i,by omega,rfl⟩)
    unfold Ec;rw[this]
   have q:gone id x.m=Jx->∀ y∈L.take (j+1),gone id y.m=Jx:=fun z y H=>by
    rw[VX,F] at H;rcases List.mem_append.1 H with H|H
    ·exact f y H
    ·simp at H;rw[H];exact z
   have M:=LH E;clear E;have I:=LH q;clear q;have a2:=LH f;clear f;have HC:=LH u;clear u;have HX:=LH F;clear F;clear R;unfold TS De at HC;go_wp2_with fail;refine HC.o.mono ?_;rintro e w2 ⟨rfl,W⟩;have G:=h.trans (W.mono h.size);have O:=LH G;clear G;rcases z:gone id x.m with _|_
   ·have X:=LH z;clear z;go_wp2_with fail;go_roundw
    case rel=>exact⟨j+1,rfl,by omega,I.o X.o,O.o⟩
    case measure=>simp[intOf];omega
   ·have X:=LH z;clear z;go_wp2_with fail;go_ret;exact⟨by rw[M.o X.o];rfl,O.o⟩
  ·obtain rfl:j=n:=by omega
   have s:Ec (gone id) L = -1:=by
    have:L.findIdx? (fun x=>gone id x.m)=B0:=by
     rw[Wn];intro x F;exact f x (by rw[V0 (by omega)];exact F)
    unfold Ec;rw[this]
   have HN:=LH s;clear s f R;go_wp2_with fail;go_ret;rw[HN.o];exact⟨rfl,h⟩
def Ni (w:D0) (g o:Nat) (x:AS):D0:=
 ((((((((w.setCell ⟨g,o,B0⟩ (.int .i64 x.m.ai)).setCell ⟨g,o+1,B0⟩ (.int .i64 x.m.from_)).setCell ⟨g,o+2,B0⟩ (.int .i64 x.m.a4)).setCell ⟨g,o+3,B0⟩ (.int .i64 x.m.aa)).setCell ⟨g,o+4,B0⟩ (.int .i64 x.m.n)).setCell ⟨g,o+5,B0⟩ (.int .i64 x.m.cmd.ai)).setCell ⟨g,o+6,B0⟩ (.int .i64 x.m.cmd.tx)).setCell ⟨g,o+7,B0⟩ (.int .i64 x.m.cmd.ag)).setCell ⟨g,o+8,B0⟩ (.slice x.A x.n x.k)
def RR (w:D0) (g o:Nat) (x:AS):Fr (fun i=>i=g) w (Ni w g o x):=
 (((((((((Fr.refl (fun i=>i=g) w).setCell (p:=⟨g,o,B0⟩) (.inl rfl) _).setCell (p:=⟨g,o+1,B0⟩) (.inl rfl) _).setCell (p:=⟨g,o+2,B0⟩) (.inl rfl) _).setCell (p:=⟨g,o+3,B0⟩) (.inl rfl) _).setCell (p:=⟨g,o+4,B0⟩) (.inl rfl) _).setCell (p:=⟨g,o+5,B0⟩) (.inl rfl) _).setCell (p:=⟨g,o+6,B0⟩) (.inl rfl) _).setCell (p:=⟨g,o+7,B0⟩) (.inl rfl) _).setCell (p:=⟨g,o+8,B0⟩) (.inl rfl) _
def set9:∀ (M:List AS) (i:Nat) (x:AS),i<M.length->
  (((((((((M.flatMap Ct).set (i*9) (.int .i64 x.m.ai)).set (i*9+1) (.int .i64 x.m.from_)).set (i*9+2) (.int .i64 x.m.a4)).set (i*9+3) (.int .i64 x.m.aa)).set (i*9+4) (.int .i64 x.m.n)).set (i*9+5) (.int .i64 x.m.cmd.ai)).set (i*9+6) (.int .i64 x.m.cmd.tx)).set (i*9+7) (.int .i64 x.m.cmd.ag)).set (i*9+8) (.slice x.A x.n x.k)=(M.set i x).flatMap Ct
 | [],i,x,h=>by simp at h
 | y::M,0,x,_=>by simp[Ct,Bv]
 | y::M,i+1,x,h=>by
  have f:=set9 M i x (by simpa using h);have e:∀ k,(i+1)*9+k=i*9+k+9:=fun k=>by omega
  have p:(i+1)*9=i*9+9:=by omega
  rw[p,XH,VM,VM,<- f];simp[Ct,Bv,Nat.add_right_comm]
def Q7 {w:D0} {base g cap:Nat} {M:List AS} (h:w.ownsRow base 116 9 (.slice (Bs ⟨g,0,B0⟩) n cap) n (M.flatMap Ct)) (x:AS) (f:i<M.length) :
  (Ni w g (i*9) x).ownsRow base 116 9 (.slice (Bs ⟨g,0,B0⟩) n cap) n ((M.set i x).flatMap Ct):=by
 rw[<- set9 M i x f];exact(((((((((h.stored _ _).1.stored _ _).1.stored _ _).1.stored _ _).1.stored _ _).1.stored _ _).1.stored _ _).1.stored _ _).1.stored _ _).1
def Bn (id:Int) (L:List AS):List AS:=L.filter (fun x=>!gone id x.m)
def q9s {w:D0} {base size:Nat} (h:w.ownsRow base e size v n xs) (i:VP w.heap.size w w'):w'.ownsRow base e size v n xs:=
 (DG i).own h (fun g f (k:w.heap.size<=g)=>by have:=(h.lt g f).2;omega)
def NI (base f n cap:Nat) (id:Int) (L:List AS) (w:D0) (u v:O0) (wr:D0):Prop:=
 ∃ (i j:Nat) (M:List AS),u=.int .i64 i/\v=.int .i64 j/\i<j/\j<=n/\M.length=n/\M.take i=Bn id (L.take j)/\M.drop j=L.drop j/\wr.ownsRow base 116 9 (.slice (Bs ⟨f,0,B0⟩) n cap) n (M.flatMap Ct)/\Fr (fun k=>k=f) w wr
def EK (base f cap:Nat) (n:Nat) (l:List AS) (w:D0) (e:WC) (w':D0):Prop:=
 e=.returned (.slice (Bs ⟨f,0,B0⟩) l.length cap)/\w'.ownsRow base 116 9 (.slice (Bs ⟨f,0,B0⟩) l.length cap) l.length (l.flatMap Ct)/\Fr (fun k=>k=f) w w'/\l.length<=n
def qa3 {id:Int} {L:List AS} {x:AS} (h:L[j]? = Bs x):Bn id (L.take (j+1))=if gone id x.m then Bn id (L.take j) else Bn id (L.take j)++[x]:=by
 unfold Bn;rw[VX,h,List.filter_append];rcases f:gone id x.m with _|_ <;> simp[f]
def LM {id:Int} {L:List AS} (h:Ec (gone id) L=i):i<L.length/\L.take i=Bn id (L.take (i+1)):=by
 unfold Ec at h;rcases f:L.findIdx? (fun x=>gone id x.m) with _|j
 ·rw[f] at h;simp only at h;omega
 ·rw[f] at h;have e:j=i:=by have v:(j:Int)=i:=h;omega
  subst e;rw[VU] at f;obtain⟨hl,s,q⟩:=f;refine⟨hl,?_⟩;rw[qa3 (L1 hl),if_pos s];unfold Bn;rw[List.filter_eq_self.2];intro x p;obtain⟨k,u,rfl⟩:=List.mem_take_iff_getElem.1 p;simpa using q k (by omega)
def Ry {id:Int} {L:List AS} (h:Ec (gone id) L = -1):Bn id L=L:=by
 unfold Ec at h;rcases f:L.findIdx? (fun x=>gone id x.m) with _|j
 ·unfold Bn;rw[List.filter_eq_self.2];intro x i;rw[Wn] at f;simpa using f x i
 ·rw[f] at h;simp only at h;omega
def LZ (id:Int) (L:List AS):Ec (gone id) L = -1\/∃ i:Nat,Ec (gone id) L=i:=by
 unfold Ec;split
 ·exact .inr ⟨_,rfl⟩
 ·exact .inl rfl
def J1 (base E n cap b:Nat) (id:Int) (L:List AS) (w:D0) (q:w.ownsRow base 116 9 (.slice (Bs ⟨E,0,B0⟩) n cap) n (L.flatMap Ct)) (hl:L.length=n) (hn:n<=100000)
  (hb:w.cell? ⟨b,0,B0⟩=Bs (.int .i64 id)) (am:b≠E):VY Tryz.prog 109 #[.slice (Bs ⟨E,0,B0⟩) n cap,Dj b] w (EK base E cap n (Bn id L) w):=by
 have ac:=OU b E 0 cap n id L w hb (Rd.ay q) hl hn;have ae:=Wa w _ hb;have a1:=LH ac;clear ac;have a4:=LH q;clear q;have HB:=LH hb;clear hb;unfold Dj at *;rcases LZ id L with hf|⟨i0,hf⟩
 ·rw[hf] at a1;go_enter Tryz.func109,Tryz.ntmps109;go_wp2_with fail;refine a1.o.mono ?_;rintro e w1 ⟨rfl,s⟩;have F:EK base E cap n (Bn id L) w (.returned (.slice (Bs ⟨E,0,B0⟩) n cap)) w1:=by
   rw[Ry hf];unfold EK;rw[hl];exact⟨rfl,q9s a4.o s,⟨s.os,s.tape,s.output,s.size,fun k hk _=>s.block k hk⟩,K0 _⟩
  have Y:=LH F;clear F;go_wp2_with fail;go_ret;exact Y.o
 ·rw[hf] at a1;obtain⟨an,ab⟩:=LM hf;have a9:((i0:Int) == -1)=Jx:=by rw[beq_eq_false_iff_ne];omega
  go_enter Tryz.func109,Tryz.ntmps109;go_wp2_with fail;refine a1.o.mono ?_;rintro e w1 ⟨rfl,s⟩;have H:NI base E n cap id L w (.int .i64 i0) (.int .i64 ((i0:Int)+1)) w1:=⟨i0,i0+1,L,rfl,rfl,by omega,by omega,hl,ab,rfl,q9s a4.o s,⟨s.os,s.tape,s.output,s.size,fun k hk _=>s.block k hk⟩⟩
  have ao:=LH H;clear H;clear hf ab;go_wp2_with fail;clear a9 an s;go_loopw [5,6] (NI base E n cap id L w) (fun _ v _=>n-(intOf v).toNat)
  case atStart=>exact ao.o
  case round=>
   obtain⟨i,j,M,rfl,rfl,au,hj,hM,O,a0,q,J⟩:=hrel;by_cases ar:(j:Int)<n
   ·have hx:M[j]? = L[j]?:=by
     have:=congrArg (fun l=>l[0]?) a0;simpa using this
    obtain⟨g',o',x,hA,aw,a7,h0,h1,h2,h3,h4,h5,h6,h7,h8⟩:=(Rd.ay q).bO hM (j:=j) (by omega);simp only[VR,W1,and_true] at hA;obtain⟨rfl,rfl⟩:=hA;rw[Wx] at h0 h1 h2 h3 h4 h5 h6 h7 h8;have a8:L[j]? = Bs x:=hx▸a7;have Z:Fr (fun _=>False) wr (wr.alloc (.cells (Bv x.m x.A x.n x.k) 116)):=(Fr.refl _ _).alloc _;have ad:=(Z.cell (p:=⟨b,0,B0⟩) (VL ae J.size) (fun h=>h)).trans ((J.cell (p:=⟨b,0,B0⟩) ae am).trans HB.o);have X:=JN b id x _ ad;have af:Ae (wr.alloc (.cells (Bv x.m x.A x.n x.k) 116)) wr.heap.size 116 (Bv x.m x.A x.n x.k):=Ae.new wr _ _;have R:=Z.own q (fun _ _ h=>h);unfold TS De Bv at *;have HC:=LH X;clear X;have al:=LH af;clear af;have ap:=LH R;clear R;have aj:=LH (J.trans' Z (fun _ _ h=>h.elim));clear J Z;have ah:=LH O;clear O;have ai:=LH a0;clear a0;have ag:=LH a8;clear a8 hx a7 ad;have HM:=LH hM;clear hM;go_wp2_with fail;refine HC.o.mono ?_;rintro e w2 ⟨rfl,a6⟩;have W:Fr (fun k=>k=E) w w2:=aj.o.trans' (DG a6) (fun i hi (h:_<=i)=>by have:=aj.o.size;simp at h this;omega);have f:=q9s ap.o a6;have z:Ae w2 wr.heap.size 116 #[.int .i64 x.m.ai,.int .i64 x.m.from_,.int .i64 x.m.a4,.int .i64 x.m.aa,.int .i64 x.m.n,.int .i64 x.m.cmd.ai,.int .i64 x.m.cmd.tx,.int .i64 x.m.cmd.ag,.slice x.A x.n x.k]:=al.o.below a6 al.o.lt;have ak:=LH W;clear W;rcases hp:gone id x.m with _|_
    ·have G:=qa3 (id:=id) ag.o;rw[hp,if_neg (by simp)] at G;have a5:i<M.length:=by rw[HM.o];omega
     have q0:=z.cell 0;have q1:=z.cell 1;have q2:=z.cell 2;have q3:=z.cell 3;have q4:=z.cell 4;have q5:=z.cell 5;have q6:=z.cell 6;have q7:=z.cell 7;have q8:=z.cell 8;simp only[Hi,N2,Ft] at q0 q1 q2 q3 q4 q5 q6 q7 q8;obtain⟨g',o',y,hA,_,_,p0,p1,p2,p3,p4,p5,p6,p7,p8⟩:=(Rd.ay f).bO HM.o (j:=i) (by omega);simp only[VR,W1,and_true] at hA;obtain⟨rfl,rfl⟩:=hA;rw[Wx] at p0 p1 p2 p3 p4 p5 p6 p7 p8;have f0:=f.frozenAt (i*9);have f1:=f.frozenAt (i*9+1);have f2:=f.frozenAt (i*9+2);have f3:=f.frozenAt (i*9+3);have f4:=f.frozenAt (i*9+4);have f5:=f.frozenAt (i*9+5);have f6:=f.frozenAt (i*9+6);have f7:=f.frozenAt (i*9+7);have f8:=f.frozenAt (i*9+8);have av:E<w2.heap.size:=(f.lt E rfl).2;have a2:=Q7 f x a5;have u:NI base E n cap id L w (.int .i64 ((i:Int)+1)) (.int .i64 ((j:Int)+1)) (Ni w2 E (i*9) x):=by
      refine⟨i+1,j+1,M.set i x,rfl,rfl,by omega,by omega,by rw[List.length_set];exact HM.o,?_,?_,a2,ak.o.trans (RR w2 E (i*9) x)⟩
      ·rw[G,<- ah.o,VX,List.take_set,List.getElem?_set_self a5,List.set_eq_of_length_le (by rw[WA];omega)];simp
      ·rw[List.drop_set_of_lt (by omega),<- Xk,ai.o,Xk]
     have I:=LH u;clear u a2 G a5;have HP:=LH hp;clear hp;have ay:=LH f;clear f;clear z h0 h1 h2 h3 h4 h5 h6 h7 h8;unfold Ni at I;go_wp2_with fail;go_roundw
     ·exact I.o
     ·simp[intOf];omega
    ·have G:=qa3 (id:=id) ag.o;rw[hp,if_pos rfl] at G;have u:NI base E n cap id L w (.int .i64 i) (.int .i64 ((j:Int)+1)) w2:=
      ⟨i,j+1,M,rfl,rfl,by omega,by omega,HM.o,by rw[ah.o,G],by rw[<- Xk,ai.o,Xk],f,ak.o⟩
     have I:=LH u;clear u G f;have HP:=LH hp;clear hp z h0 h1 h2 h3 h4 h5 h6 h7 h8;go_wp2_with fail;go_roundw
     ·exact I.o
     ·simp[intOf];omega
   ·obtain rfl:j=n:=by omega
    have aq:=(GZ q).1;have a3:L.take j=L:=V0 (by omega);rw[a3] at O;have aa:(Bn id L).length=i:=by rw[<- O,WA];omega
    have U:=qbj q (i:=i) (by omega);rw[q81,O] at U;obtain⟨w2,ax,f,W⟩:=q69 86 PK Tryz.underlying86 Im (by rfl) (by decide) U (m:=j-i) (c:=cap-i) (by omega);have s1:=q9d (size:=9) 86 q6s q6w wr E j cap i (i:Int) rfl (by omega);have s2:=Fz (size:=9) 86 q6s q6w w2 E j cap i (i:Int) rfl (by omega);have F:EK base E cap j (Bn id L) w (.returned (.slice (Bs ⟨E,0,B0⟩) i cap)) w2:=by
     unfold EK;rw[aa];exact⟨rfl,f,J.trans W,by omega⟩
    have Y:=LH F;clear F f W U q O a0 hM J aa a3;go_wp2_with fail;go_ret;exact Y.o
def JU (w:D0) (t k e:VV) (m:Option Nat) (h:P.underlying t=Bs (.map k e)):(binOp .eql t (.map m) (.map B0)).run P w=.ok (.bool m.isNone) w:=by
 simp only[binOp];simp[run_equal_map_nil w t k e m h]
def OT (b:Nat) (w:D0):VY Tryz.prog 128 #[.slice B0 0 0,Dj b] w fun e w'=>e=.returned (.int .i64 (-1))/\w=w':=by
 unfold Dj;go_enter Tryz.func128,Tryz.ntmps128;go_wp2_with fail;go_loopw [8] (fun v wr=>v=.int .i64 0/\wr=w) (fun _ _=>0)
 case atStart=>exact⟨rfl,rfl⟩
 case round=>
  obtain⟨rfl,rfl⟩:=hrel;go_wp2_with fail;go_ret;exact⟨rfl,rfl⟩
def JZ (b:Nat) (w:D0):VY Tryz.prog 109 #[.slice B0 0 0,Dj b] w fun e w'=>e=.returned (.slice B0 0 0)/\w=w':=by
 have f:=OT b w;unfold Dj at *;have h:=LH f;clear f;go_enter Tryz.func109,Tryz.ntmps109;go_wp2_with fail;refine h.o.mono ?_;rintro e i ⟨rfl,rfl⟩;go_wp2_with fail;go_ret;exact⟨rfl,rfl⟩
def DfNet (base:Nat) (V:O0) (l:List AS) (w:D0) (e:WC) (w':D0):Prop:=
 ∃ V',e=.returned V'/\(∃ A n c,V'=.slice A n c)/\w'.ownsRow base 116 9 V' l.length (l.flatMap Ct)/\Fr (fun k=>Bs k=V.ownBlock) w w'/\V'.ownBlock=V.ownBlock
def J0 (base b n:Nat) (V:O0) (id:Int) (L:List AS) (w:D0) (f:w.ownsRow base 116 9 V n (L.flatMap Ct)) (hl:L.length=n) (s:n<=100000) (u:w.cell? ⟨b,0,B0⟩=Bs (.int .i64 id)) (k:V.ownBlock≠Bs b) :
  VY Tryz.prog 109 #[V,Dj b] w (DfNet base V (Bn id L) w):=by
 rcases f.2 with ⟨rfl,z⟩|⟨q,cap,E,rfl,_⟩
 ·subst z;have p:L=[]:=Wd hl;subst p;refine(JZ b w).mono ?_;rintro e w' ⟨rfl,rfl⟩;exact⟨_,rfl,⟨_,_,_,rfl⟩,f,Fr.refl _ _,rfl⟩
 ·refine(J1 base q n cap b id L w f hl s u (fun e=>k (by rw[e];rfl))).mono ?_;rintro e w' ⟨rfl,y,v,_⟩;exact⟨_,rfl,⟨_,_,_,rfl⟩,y,v.mono (fun i _ (h:i=q)=>by rw[h];rfl),rfl⟩
def DNew (D f:Option Nat) (n:Nat):Prop:=f=D\/∃ b,f=Bs b/\n<=b
def Kh (base g off:Nat) (T:VV) (cs:Array O0) (V:O0) (D:Option Nat) (nd:Nat) (L:List AS) (dead:Int->Bool) (lost id:Int) (w:D0) (e:WC) (w':D0):Prop:=
 ∃ V' f d lost',e=.returned (.int .i64 d)/\d=(L.length:Int)-(Bn id L).length/\AJ w' base g off T (((cs.setIfInBounds (off+1) (.map f)).setIfInBounds off V').setIfInBounds (off+2) (.int .i64 lost')) V' f (nd+1) (Bn id L) (fun i=>decide (i=id) || dead i) lost'/\
  Fr (BO g V D) w w'/\V'.ownBlock=V.ownBlock/\DNew D f w.heap.size
def R0 {nd b:Nat} {dead:Int->Bool} {id:Int} (h:Ab BC w' b (nd+1) (AU (fun i=>if dead i then Bs (.bool VJ) else B0) id (Bs (.bool VJ)))):Bq w' (nd+1) (Bs b) (fun i=>decide (i=id) || dead i):=by
 have e:(AU (fun i=>if dead i then Bs (.bool VJ) else B0) id (Bs (.bool VJ)):Int->Option O0)=fun i=>if (decide (i=id) || dead i) then Bs (.bool VJ) else B0:=by
  funext i;by_cases f:i=id
  ·subst f;rw[q9m];simp
  ·rw[GR f];simp[f]
 unfold Bq;rw[e] at h;exact h
def Lo {w:D0} {base g nd b:Nat} {T:VV} {cs:Array O0} {V:O0} {L:List AS} {dead:Int->Bool} {lost id:Int}
  (h:AJ w base g n T cs V (Bs b) nd L dead lost) (s:Ab BC w' b (nd+1) (AU (fun i=>if dead i then Bs (.bool VJ) else B0) id (Bs (.bool VJ)))) (f:Fr (fun k=>k=b) w w') :
  AJ w' base g n T cs V (Bs b) (nd+1) L (fun i=>decide (i=id) || dead i) lost:=
 ⟨f.ak h.ak (fun e=>h.down.aB h.ak (by rw[e])),h.c0,h.c1,h.c2,f.own h.row (fun k q (e:k=b)=>by subst e;exact h.down.aL h.row rfl q),fun x p=>⟨f.own (h.own x p).1 (fun k q (e:k=b)=>by subst e;exact h.down.aL (h.own x p).1 rfl q),(h.own x p).2⟩,R0 s,h.len,h.ne,VO h.bg f.size⟩
def Rh {w:D0} {base g nd:Nat} {T:VV} {cs:Array O0} {V:O0} {L:List AS} {dead:Int->Bool} {lost:Int} (h:AJ w base g n T cs V B0 nd L dead lost) :
  AJ ((w.alloc (.map #[] 0)).setCell ⟨g,n+1,B0⟩ (.map (Bs w.heap.size))) base g n T (cs.setIfInBounds (n+1) (.map (Bs w.heap.size))) V (Bs w.heap.size) nd L dead lost:=by
 have q:n+1<cs.size:=by
  have:=h.c1;rcases W7 (n+1) cs.size with h|h
  ·exact h
  ·rw[WW (by simpa using h)] at this;cases this
 have k:=h.fr ((Fr.refl (fun _=>False) w).alloc (.map #[] 0)) (fun h=>h) (fun _ _ h=>h) (fun _ _ h=>h) (fun _ _ _ _ _ h=>h);have f:=Fr.a6 g (w.alloc (.map #[] 0)) (n+1) (.map (Bs w.heap.size));have u:Ab BC (w.alloc (.map #[] 0)) w.heap.size nd (fun i=>if dead i then Bs (.bool VJ) else B0):=by
  have e:(fun i=>if dead i then Bs (.bool VJ) else B0:Int->Option O0)=fun _=>B0:=by funext i;rw[h.down i];rfl
  rw[e];exact(Ab.made BC w).mono (VN _)
 refine⟨k.ak.aH _ _,?_,by simp[q],?_,f.own k.row (fun b s e=>by subst e;exact Bh k.row k.ak (fun e=>h.ne.1 e.symm) s),fun x p=>⟨f.own (k.own x p).1 (fun b s e=>by subst e;exact Bh (k.own x p).1 k.ak (fun e=>h.ne.2 e.symm) s),(k.own x p).2⟩,?_,h.len,h.ne,VO k.bg f.size⟩
 ·rw[Wi (by omega)];exact h.c0
 ·rw[Wi (by omega)];exact h.c2
 ·exact Ab.fr u f (fun e=>Ab.aB u k.ak e)
def Ln {w w5:D0} {base g nd:Nat} {T:VV} {cs:Array O0} {V V':O0} {D:Option Nat} {L l:List AS} {dead:Int->Bool} {lost:Int}
  (h:AJ w base g n T cs V D nd L dead lost) (p:w5.ownsRow base 116 9 V' l.length (l.flatMap Ct)) (v:Fr (fun k=>Bs k=V.ownBlock) w w5) (I:V'.ownBlock=V.ownBlock) (hl:∀ x∈l,x∈L) (u:l.length<=200:=by omega) :
  AJ (w5.setCell ⟨g,n,B0⟩ V') base g n T (cs.setIfInBounds n V') V' D nd l dead lost:=by
 have z:¬Bs g=V.ownBlock:=fun e=>Bh h.row h.ak (fun e=>h.ne.1 e.symm) e.symm
 have q:Ae w5 g T cs:=v.ak h.ak z;have f:Fr (fun k=>k=g) w5 (w5.setCell ⟨g,n,B0⟩ V'):=Fr.a6 g w5 n V';have s:n<cs.size:=by
  rcases W7 n cs.size with F|F
  ·exact F
  ·have:=h.c0;rw[WW F] at this;cases this
 refine⟨q.aH _ _,by simp[s],?_,?_,f.own p (fun b i e=>by subst e;exact Bh p q (fun e=>h.ne.1 e.symm) i),fun y H=>?_,?_,u,h.ne,VO h.bg (VO v.size f.size)⟩
 ·rw[Wi (by omega)];exact h.c1
 ·rw[Wi (by omega)];exact h.c2
 ·have E:=h.own y (hl y H);have G:=v.own E.1 (fun b i e=>ES E.1 h.row (by decide) i e.symm);exact⟨f.own G (fun b i e=>by subst e;exact Bh G q (fun e=>h.ne.2 e.symm) i),E.2⟩
 ·refine(h.down.fr v (fun b i e=>?_)).fr f (fun b i e=>?_)
  ·exact h.down.aL h.row i e.symm
  ·subst e;exact h.down.aB h.ak i
def RZ (base g off nd:Nat) (T:VV) (cs:Array O0) (V:O0) (D:Option Nat) (L:List AS) (dead:Int->Bool) (lost id:Int) (w:D0)
  (hI:AJ w base g off T cs V D nd L dead lost) (av:EW id) (aA:nd<1000000) :
  VY Tryz.prog 83 #[.pointer (Bs ⟨g,off,B0⟩),.int .i64 id] w (Kh base g off T cs V D nd L dead lost id w):=by
 have a8:Fr (fun _=>False) w (w.alloc (.cells #[.int .i64 id] 3)):=(Fr.refl _ _).alloc _;have R:=hI.fr a8 (fun h=>h) (fun _ _ h=>h) (fun _ _ h=>h) (fun _ _ _ _ _ h=>h);have am:Ae (w.alloc (.cells #[.int .i64 id] 3)) w.heap.size 3 #[.int .i64 id]:=Ae.new w _ _;have aD:=hI.ak.lt;have c1:=(R.ak.cell (off+1)).trans R.c1;have f1:=R.ak.frozen (off+1);have HI:=LH hI;clear hI;have G:=LH R;clear R;have ad:=LH am;clear am;have aw:=LH a8;clear a8;have ar:=fun W=>JU W 60 _ _ D Tryz.underlying60
 rcases D with _|b
 case' none=>
  have au:=@run_makeMap Tryz.prog;have E:=Rh G.o;have ag:=((G.o.fr ((Fr.refl (fun _=>False) _).alloc (.map #[] 0)) (fun h=>h) (fun _ _ h=>h) (fun _ _ h=>h) (fun _ _ _ _ _ h=>h)).ak.cell (off+1)).trans G.o.c1;have af:=(G.o.fr ((Fr.refl (fun _=>False) _).alloc (.map #[] 0)) (fun h=>h) (fun _ _ h=>h) (fun _ _ h=>h) (fun _ _ _ _ _ h=>h)).ak.frozen (off+1);have M:=(Fr.a6 g ((w.alloc (.cells #[.int .i64 id] 3)).alloc (.map #[] 0)) (off+1) (.map (Bs (w.heap.size+1)))).ak (ad.o.alloc (.map #[] 0)) (fun h=>by omega);have H:Fr (BO g V B0) w (((w.alloc (.cells #[.int .i64 id] 3)).alloc (.map #[] 0)).setCell ⟨g,off+1,B0⟩ (.map (Bs (w.heap.size+1)))):=(((Fr.refl _ _).alloc _).alloc _).setCell (p:=⟨g,off+1,B0⟩) (.inl (.inl rfl)) _;simp only[World.size_alloc] at E;have J:((w.alloc (.cells #[.int .i64 id] 3)).alloc (.map #[] 0)).setCell ⟨g,off+1,B0⟩ (.map (Bs (w.heap.size+1)))=((w.setCell ⟨g,off+1,B0⟩ (.map (Bs (w.heap.size+1)))).alloc (.cells #[.int .i64 id] 3)).alloc (.map #[] 0):=by
   rw[Yn _ _ _ _ (by simp;omega),Yn _ _ _ _ (by omega)]
  rw[J] at E M H;clear J;have F:=LH E;clear E;have X:=LH M;clear M;have ab:=LH H;clear H;have ac:=LH (show DNew B0 (Bs (w.heap.size+1)) w.heap.size from .inr ⟨_,rfl,by omega⟩);have aa:=LH (show ∀ i,i<w.heap.size->BO g V (Bs (w.heap.size+1)) i->BO g V B0 i from fun i hi h=>by
   rcases h with h|h|h
   ·exact .inl h
   ·exact .inr (.inl h)
   ·injection h with h;omega)
  go_enter Tryz.func83,Tryz.ntmps83;go_upto_region 3 with (fail)
  clear ag af au;generalize hb:w.heap.size+1=b at *;generalize ((w.setCell ⟨g,off+1,B0⟩ (.map (Bs b))).alloc (.cells #[.int .i64 id] 3)).alloc (.map #[] 0)=w3 at *
 case' some=>
  have E:AJ (w.alloc (.cells #[.int .i64 id] 3)) base g off T (cs.setIfInBounds (off+1) (.map (Bs b))) V (Bs b) nd L dead lost:=by rw[q5x G.o.c1];exact G.o
  have H:Fr (BO g V (Bs b)) w (w.alloc (.cells #[.int .i64 id] 3)):=(Fr.refl _ _).alloc _;have F:=LH E;clear E;have X:=LH ad.o;have ab:=LH H;clear H;have ac:=LH (show DNew (Bs b) (Bs b) w.heap.size from .inl rfl);have aa:=LH (show ∀ i,i<w.heap.size->BO g V (Bs b) i->BO g V (Bs b) i from fun i _ h=>h);go_enter Tryz.func83,Tryz.ntmps83;go_upto_region 3 with (fail)
  generalize w.alloc (.cells #[.int .i64 id] 3)=w3 at *
 all_goals
  clear ar c1 f1 G ad aw;have n1:=(F.o.ak.cell (off+1)).trans F.o.c1;have i0:=X.o.cell 0;simp only[Hi,Ft] at i0;refine nW ?_;refine SJ (fun w'=>w'.cell? ⟨g,off+1,B0⟩=Bs (.map (Bs b))/\w'.cell? ⟨w.heap.size,0,B0⟩=Bs (.int .i64 id)) 5 ?_;have I:=Wm n1 i0;refine nE 0 I ?_;refine nE 1 I ?_;refine nE 2 I ?_;refine nC 3 rfl (fun _ _ _ h=>h) I (fun w' a9=>by obtain⟨h0,h1⟩:=a9;go_simp;rfl) ?_;refine nC 4 rfl (fun _ _ _ h=>h) I (fun w' a9=>by obtain⟨h0,h1⟩:=a9;go_simp;rfl) ?_;refine nG 5 (fun K hK=>?_);refine Gx (C:=BC) 60 4 Tryz.underlying60 (.tmp 18) (.tmp 19) _ rfl rfl (show Ab BC w3.drew b nd _ from F.o.down) (by unfold Wo;omega) id (.bool VJ) rfl rfl av ?_;intro w4 ah q;have q:Fr (fun k=>k=b) w3 w4:=⟨q.os,q.tape,q.output,q.size,q.block⟩
  have ak:=Lo F.o ah q;have a2:=q.ak X.o (fun e=>F.o.down.aB X.o (by rw[e]));have a4:Fr (BO g V (Bs b)) w3 w4:=q.mono (fun i _ (h:i=b)=>.inr (.inr (by rw[h])));have f:=LH ak;clear ak;have U:=LH a2;clear a2;have a7:=LH a4;clear a4 ah q n1 i0 I F X;refine hK _ _ nZ ?_;clear hK K;refine nX ?_;obtain⟨A',c',a0,aF,_⟩:=AR f.o.row;have n0:=(f.o.ak.cell off).trans f.o.c0;have n2:=f.o.ak.frozen off;rw[a0] at n0;have i0:=U.o.cell 0;simp only[Hi,Ft] at i0;have Y:=J0 base w.heap.size L.length V id L w4 f.o.row rfl (by have:=f.o.len;omega) i0 (fun e=>Bh f.o.row U.o (by decide) e);unfold Dj at Y;rw[a0] at Y;have aq:=LH Y;clear Y;have an:=LH a0;clear a0;have az:=f.o.ak.lt;go_wp2_with fail;refine aq.o.mono ?_;rintro e w5 ⟨V',rfl,_,z,O,s⟩;rw[<- an.o] at O s;have aj:=Ln f.o z O s (fun y hy=>(List.mem_filter.1 hy).1) (VO (WL _ _) f.o.len);obtain⟨A5,c5,rfl,aE,_⟩:=AR z;have aC:(Bn id L).length<=L.length:=WL _ _;have aB:=f.o.len;have ai:¬Bs g=V.ownBlock:=fun e=>Bh f.o.row f.o.ak (fun e=>f.o.ne.1 e.symm) e.symm
  have Z:=O.ak f.o.ak ai;have y0:=Z.cell off;have y1:=Z.frozen off;rw[f.o.c0,an.o] at y0;have ay:=Z.lt;have u:Fr (fun k=>k=g) w5 (w5.setCell ⟨g,off,B0⟩ (.slice A5 (Bn id L).length c5)):=Fr.a6 g w5 off _;have al:Fr (BO g V (Bs b)) w4 (w5.setCell ⟨g,off,B0⟩ (.slice A5 (Bn id L).length c5)):=(O.mono (T:=BO g V (Bs b)) (fun i _ h=>.inr (.inl h))).trans' u (fun i _ h=>.inl h);have v:=LH aj;clear aj;have ap:=LH al;clear al;have a6:=LH s;clear s;clear Z u ai z O n0 n2 i0;go_upto_region 6 with (fail)
  generalize w5.setCell ⟨g,off,B0⟩ (.slice A5 (Bn id L).length c5)=w6 at *;have z0:=(v.o.ak.cell off).trans v.o.c0;have z2:=(v.o.ak.cell (off+2)).trans v.o.c2;have zf:=v.o.ak.frozen (off+2);have ax:=v.o.ak.lt;have a3:=ab.o.trans' (a7.o.trans ap.o) aa.o;have u:=Fr.a6 g w6 (off+2) (.int .i64 (Xn (lost+((L.length:Int)-(Bn id L).length))));have a1:=Je v.o (Xn (lost+((L.length:Int)-(Bn id L).length)));have a5:Kh base g off T cs V _ nd L dead lost id w (.returned (.int .i64 ((L.length:Int)-(Bn id L).length))) (w6.setCell ⟨g,off+2,B0⟩ (.int .i64 (Xn (lost+((L.length:Int)-(Bn id L).length))))).drew:=
   ⟨_,Bs b,_,_,rfl,rfl,a1.fr ((Fr.refl (fun _=>False) _).drew) (fun h=>h) (fun _ _ h=>h) (fun _ _ h=>h) (fun _ _ _ _ _ h=>h),(a3.trans' u (fun i _ h=>.inl h)).drew,a6.o,ac.o⟩
  have q0:=(a1.ak.cell off).trans a1.c0;have ao:=LH a5;clear a5 a3 u a1 v ab a7 ap aa ac a6 f U aq;have ae:IntKind.i64.wrap ((L.length:Int)-(Bn id L).length)=(L.length:Int)-(Bn id L).length:=V4 _ ⟨by omega,by omega⟩;refine XI 12 (by kernel_rfl) (by kernel_rfl) ?_;change wpStill _ _ (Yo _) _ _ _;simp only[WU,XM,Xb,Ys]
  repeat still_step
  clear ae;refine wpStill_nil ?_;change Yt _ _ _ _ _ (Yo _);go_wp2_with fail;go_ret;exact ao.o
abbrev Sx:=List UInt8
structure Kx where
 h:Int->Option Int
 ws:List (Int×Int)
abbrev Tb:=Sx->Option Kx
structure Ak where
 tx:Int
 key:Sx
 mode:Int
deriving DecidableEq
def AI (m mode:Int):Bool:=decide (m=2) || decide (mode=2)
def AA (h:Int->Option Int) (tx:Int):Int:=(h tx).getD 0
def NF (h:Int->Option Int) (tx mode:Int):Prop:=∀ o m,h o=Bs m->o≠tx->AI m mode=Jx
def US (f:List (Int×Int)) (tx mode:Int):Bool:=f.any fun w=>decide (w.1<tx) && AI w.2 mode
def Cc (h:Int->Option Int) (tx mode:Int) (f:List (Int×Int)):Prop:=mode<=AA h tx\/(NF h tx mode/\US f tx mode=Jx)
open Classical in
noncomputable def Ai (h:Int->Option Int) (tx mode:Int) (f:List (Int×Int)):Bool:=decide (Cc h tx mode f)
def Be (h:Int->Option Int) (tx:Int) (v:Option Int):Int->Option Int:=fun o=>if o=tx then v else h o
def Au (h:Int->Option Int) (tx mode:Int):Int->Option Int:=Be h tx (Bs (max (AA h tx) mode))
def BT (f:List (Int×Int)) (w:Int×Int):List (Int×Int):=f.takeWhile (fun x=>decide (x.1<w.1))++w::f.dropWhile (fun x=>decide (x.1<w.1))
def Ht (h:Int->Option Int) (tx mode:Int) (l:List Int):Prop:=l.Pairwise (· < ·)/\∀ o,o∈l↔(tx<o/\∃ m,h o=Bs m/\AI m mode=VJ)
noncomputable def Do:(Int->Option Int)->List (Int×Int)->List (Int×Int)->(Int->Option Int)×List (Int×Int)×List (Int×Int)
 | h,left,[]=>(h,left,[])
 | h,left,w::ws=>if Ai h w.1 w.2 left then
   ((Do (Au h w.1 w.2) left ws).1,(Do (Au h w.1 w.2) left ws).2.1,w::(Do (Au h w.1 w.2) left ws).2.2)
  else Do h (left++[w]) ws
def AC (f:List (Int×Int)) (tx:Int):List (Int×Int):=f.filter fun w=>!decide (w.1=tx)
noncomputable def B5 (k:Kx) (tx:Int):Kx×List (Int×Int):=
 (⟨(Do (Be k.h tx B0) [] (AC k.ws tx)).1,(Do (Be k.h tx B0) [] (AC k.ws tx)).2.1⟩,(Do (Be k.h tx B0) [] (AC k.ws tx)).2.2)
def qbv (k:Kx):Prop:=(∀ o,k.h o=B0)/\k.ws=[]
open Classical in
noncomputable def E2 (k:Kx) (tx:Int):Option Kx:=if qbv (B5 k tx).1 then B0 else Bs (B5 k tx).1
noncomputable def Bj (T:Tb) (tx:Int):Tb:=fun x=>(T x).bind fun k=>E2 k tx
noncomputable def KZ (T:Tb) (tx:Int) (x:Sx):List Ak:=match T x with
 | none=>[]
 | some k=>(B5 k tx).2.map fun g=>⟨g.1,x,g.2⟩
def Gv (T:Tb) (ks:List Sx):Prop:=ks.Pairwise (· < ·)/\∀ x,x∈ks↔T x≠B0
open Classical in
noncomputable def Ao (T:Tb) (x:Sx) (k:Option Kx):Tb:=fun y=>if y=x then k else T y
def k0:Kx:=⟨fun _=>B0,[]⟩
def Ac (T:Tb) (x:Sx):Kx:=(T x).getD k0
def Fx {α:Type} {lt:α->α->Prop} (i:∀ a,¬lt a a) (k:∀ a b c,lt a b->lt b c->lt a c) {l m:List α} (hl:l.Pairwise lt) (f:m.Pairwise lt) (p:∀ a,a∈l↔a∈m):l=m:=by
 have nd:∀ {l:List α},l.Pairwise lt->l.Nodup:=fun h=>List.Pairwise.imp (R:=lt) (by intro a b h e;subst e;exact i _ h) h
 exact List.Perm.eq_of_pairwise (le:=lt) (fun a b _ _ s q=>absurd (k _ _ _ s q) (i a)) hl f ((List.perm_ext_iff_of_nodup (nd hl) (nd f)).2 p)
def KO {l m:List Int} (hl:l.Pairwise (· < ·)) (f:m.Pairwise (· < ·)) (h:∀ a,a∈l↔a∈m):l=m:=
 Fx (fun a=>Int.lt_irrefl a) (fun _ _ _ k i=>Int.lt_trans k i) hl f h
def Dw (l:List Int):List Int:=l.mergeSort (fun x y=>decide (x<=y))
def IR (l:List Sx):List Sx:=l.mergeSort (fun x y=>decide (x<=y))
def IS {l:List Int} (h:l.Nodup):(Dw l).Pairwise (· < ·):=by
 have f:=List.pairwise_mergeSort (le:=fun x y:Int=>decide (x<=y)) (fun _ _ _ f i=>by simp at *;omega) (fun a b=>by simp;omega) l;have i:(Dw l).Nodup:=((YR l _).nodup_iff).2 h;exact f.imp₂ (fun a b f (i:a≠b)=>by simp at f;omega) i
def QA {l:List Sx} (h:l.Nodup):(IR l).Pairwise (· < ·):=by
 have f:=List.pairwise_mergeSort (le:=fun x y:Sx=>decide (x<=y)) (fun a b c f i=>by simp only[decide_eq_true_eq] at *;exact List.le_trans f i) (fun a b=>by simpa using List.le_total a b) l;have i:(IR l).Nodup:=((YR l _).nodup_iff).2 h;refine f.imp₂ (fun a b f (i:a≠b)=>?_) i;simp only[decide_eq_true_eq] at f;exact V5 fun h=>i (List.le_antisymm f (List.not_lt.1 h))
def FW {l:List Int} {a:Int} : a∈Dw l↔a∈l:=(YR l _).mem_iff
def OF {l:List Sx} {a:Sx} : a∈IR l↔a∈l:=(YR l _).mem_iff
def Br (m:Int):Prop:=m=1\/m=2
def QR {h:Int->Option Int} {mode:Int} {f:List (Int×Int)} : Ai h tx mode f=VJ↔Cc h tx mode f:=by classical (unfold Ai;exact decide_eq_true_iff)
def qa7 {h:Int->Option Int} {mode:Int} {f:List (Int×Int)} : Ai h tx mode f=Jx↔¬Cc h tx mode f:=by classical (unfold Ai;exact decide_eq_false_iff_not)
def q9u {f:List (Int×Int)} (h:f.Pairwise (·.1 < ·.1)) (tx:Int):(AC f tx).Pairwise (·.1 < ·.1):=X6 _ h
def q32 (h:Int->Option Int) (left:List (Int×Int)):Do h left []=(h,left,[]):=by simp[Do]
def UN (tx:Int):(B5 k0 tx).1.h=(fun _=>B0)/\(B5 k0 tx).1.ws=[]:=by
 have e:Be (fun _=>B0) tx B0=fun _=>B0:=by funext o;unfold Be;split <;> rfl
 unfold B5 k0;simp[AC,q32,e]
def Ch (f:List (Int×Int)) (tx:Int):Bool:=f.any fun w=>decide (w.1=tx)
inductive Dm (T:Tb) (x:Ak):Bool->List Int->Int->Tb->Prop where
 | arg (h:¬Br x.mode):Dm T x Jx [] 1 T
 | long (h:Br x.mode) (hl:20<x.key.length):Dm T x Jx [] 4 T
 | twice (h:Br x.mode) (hl:x.key.length<=20) (hw:Ch (Ac T x.key).ws x.tx=VJ):Dm T x Jx [] 9 T
 | got (h:Br x.mode) (hl:x.key.length<=20) (hw:Ch (Ac T x.key).ws x.tx=Jx) (hf:Ai (Ac T x.key).h x.tx x.mode (Ac T x.key).ws=VJ) :
   Dm T x VJ [] 0 (Ao T x.key (Bs ⟨Au (Ac T x.key).h x.tx x.mode,(Ac T x.key).ws⟩))
 | full (h:Br x.mode) (hl:x.key.length<=20) (hw:Ch (Ac T x.key).ws x.tx=Jx) (hf:Ai (Ac T x.key).h x.tx x.mode (Ac T x.key).ws=Jx) (h50:(Ac T x.key).ws.length=50):Dm T x Jx [] 4 T
 | waits (h:Br x.mode) (hl:x.key.length<=20) (hw:Ch (Ac T x.key).ws x.tx=Jx) (hf:Ai (Ac T x.key).h x.tx x.mode (Ac T x.key).ws=Jx) (h50:(Ac T x.key).ws.length≠50)
   {l:List Int} (hl:Ht (Ac T x.key).h x.tx x.mode l):Dm T x Jx l 0 (Ao T x.key (Bs ⟨(Ac T x.key).h,BT (Ac T x.key).ws (x.tx,x.mode)⟩))
def qd0 (T:Tb) (x y:Sx) (k:Kx):Ac (Ao T x (Bs k)) y=if y=x then k else Ac T y:=by
 unfold Ac Ao;split <;> rfl
def q50 {f:List (Int×Int)} {w v:Int×Int} : v∈BT f w↔v=w\/v∈f:=by
 unfold BT;have:v∈f↔v∈f.takeWhile (fun x=>decide (x.1<w.1))\/v∈f.dropWhile (fun x=>decide (x.1<w.1)):=by
  rw[<- XG,WN]
 rw[this,XG,X4];constructor
 ·rintro (h|h|h)
  ·exact .inr (.inl h)
  ·exact .inl h
  ·exact .inr (.inr h)
 ·rintro (h|h|h)
  ·exact .inr (.inl h)
  ·exact .inl h
  ·exact .inr (.inr h)
def q6n {w:Int×Int} : ∀ {i:List (Int×Int)},i.Pairwise (·.1 < ·.1)->(∀ v∈i,v.1≠w.1)->(BT i w).Pairwise (·.1 < ·.1)
 | [],_,_=>by simp[BT]
 | v::i,h,hn=>by
  rw[Ye] at h;have p:=q6n h.2 (fun u f=>hn u (List.mem_cons_of_mem _ f));have q:=hn v VH;by_cases e:v.1<w.1
  ·have k:BT (v::i) w=v::BT i w:=by simp[BT,e]
   rw[k,Ye];refine⟨fun u f=>?_,p⟩;rcases q50.1 f with rfl|f
   ·exact e
   ·exact h.1 u f
  ·have k:BT (v::i) w=w::v::i:=by simp[BT,e]
   rw[k,Ye,Ye];refine⟨fun u f=>?_,h⟩;rcases List.mem_cons.1 f with rfl|f
   ·omega
   ·have:=h.1 u f;omega
def JD (f:List (Int×Int)) (w:Int×Int):(BT f w).length=f.length+1:=by
 have:(f.takeWhile (fun x=>decide (x.1<w.1))).length+(f.dropWhile (fun x=>decide (x.1<w.1))).length=f.length:=by
  rw[<- VS,WN]
 unfold BT;simp;omega
end Go.Proofs.YtccahlhdifadfaaGreatDoor
