import Derived.Shelf.Sort.Plain
import Derived.Shelf.Slices.In.SortNone
import Derived.Test.YtccahlhdifadfaaGreatDoorProg
import Derived.Shelf.SlIter.Nil
import Derived.Shelf.SortM.Plain
import Derived.Shelf.SortM.SortNone
import Derived.Ground.GgzProg
import Derived.Ground.SlgmProg
import Derived.Below
import Derived.Laws.OwnMore
import Derived.Deep.AppendLies
import Derived.Deep.Draws
import Derived.Laws.Rows
import Derived.Maps.AppendAt
import Derived.RegionTactic
import Derived.OwnWalk
import Derived.Lib.Hide
import Derived.Laws.Append
import Derived.Maps.OwnSet
import Derived.Maps.RangeWalk
import Derived.Maps.Ext
import Derived.WalkKit
import Derived.WalkSpells
import Derived.WalkLawsBesides
import Derived.Laws.BytesString
import Derived.Laws.Cells
import Derived.Laws.Concat
import Derived.Laws.Strings
import Derived.Test.YtccahlhdifadfaaGreatDoorRows
import Derived.OrdersHeld
import Derived.BigQuiet
import Derived.Lib.LazyBuf
import Derived.Deep.QuietTactic
import Derived.Lib.SliceRun
import Derived.Lib.AppendZerosOnto
import Derived.Lib.Overlaps
import Derived.Laws.CopyRow
import Derived.Laws.Tables
import Derived.IntWalk
import Derived.Laws.ResultCell
import Derived.Deep.DeepCutAuto
import Derived.StillTailTactics
import Derived.Laws.Cover3
import Derived.Carry
import Derived.Deep.CutBlock
namespace Go.RowKit
theorem Hid.o {p:Prop} (h:Hid p):p:=h
end Go.RowKit
namespace Go.Proofs.YtccahlhdifadfaaGreatDoor
noncomputable section
open Go.RowKit
open _root_.Go.Obj renaming cells->eT
open _root_.Or renaming inl->eR,inr->eS
open _root_.Go.IntKind renaming i64->eQ
open _root_.Go.Ending renaming returned->ZY
open _root_.And renaming intro->Wo
open _root_.Array renaming getElem?_setIfInBounds_ne->Wj,length_toList->Wz,getElem?_eq_none->Xa,getElem?_eq_some_iff->ZP
open _root_.Bool renaming false->L1,true->VD,and_eq_true->Wl,not_eq_true'->XQ,or_eq_true->X7,not_eq_true->Yc,true_and->YQ
open _root_.Classical renaming byContradiction->Wc
open _root_.Go renaming World->D0,Value->S2,TypeId->VR,Calls->VX,maxLen->VY,Ending->WE,Program->Xh,Addr->Xo,yielded->Xx,size_zeroCells->Xz,Oper->XE,wp_region_still_tail->X2,zeroValue->Yh,Operand->Yi,wpList->Yk,undef->Yl,execOp->Yr,wpList_plain->Yx,run_underlying->YH,DataW->YI,info_parts->YM,sizeOf->Zc,MemPlace->Zf,bodyPost_ret->Zu
open _root_.Go.Act renaming eval->Xm,put->Xq
open _root_.Go.Addr renaming add_lit->WM
open _root_.Go.Addr.mk renaming injEq->Xe
open _root_.Go.Builtin renaming zeroCells->WI,append_->XC,firstCells->Yb,clear_->YY
open _root_.Go.Fence renaming wide->Ya
open _root_.Go.Instr renaming lookup->XV,slice->YJ
open _root_.Go.IntWalk renaming i64_in->V4
open _root_.Go.Lib renaming run_eql_slice_nil->X8
open _root_.Go.Oper renaming wp->Yp
open _root_.Go.Region renaming ready->Ws,wanted->Wu,noSelect->WR,free->Xr,binds->XD,Mode->XP
open _root_.Go.Result renaming andThen->W8,andThen_ok->Zv
open _root_.Go.RowKit renaming Below->VI,wrap64->Xt
open _root_.Go.RowKit.Below renaming refl->VC
open _root_.Go.Value renaming ownBlock->Wa,int->Wm,oneCell'->Wx,slice->WK,nilIface->ZS,string->ZV,pointer->ZW,bool->ZX,tuple->ZZ
open _root_.Go.Value.slice renaming injEq->YV
open _root_.Go.World renaming ownsRow_nil->VW,block_lt_of_cell?->V5,cell?_alloc_lt->WT,setCell_alloc_past->YA,setCell->YB,drew->YC
open _root_.Int renaming le_refl->WH,toNat_natCast->XO
open _root_.List renaming getElem?_cons_zero->Ft,getElem?_eq_getElem->K0,getElem?_toArray->NW,mem_of_getElem?->N2,getElem?_cons_succ->O0,mem_cons_self->VB,mem_cons_of_mem->VE,flatMap_cons->VH,length_append->VJ,findIdx?_eq_some_iff_getElem->VP,getElem?_map->VQ,take_of_length_le->VS,mem_singleton->VU,take_add_one->VV,getElem?_append_left->VZ,eq_nil_of_length_eq_zero->We,getElem?_append_right->Wg,range'->Wh,length_cons->Wi,findIdx?_eq_none_iff->Wp,flatMap_append->Wq,take_append_of_le_length->Wv,range->Ww,append_nil->WB,length_filter_le->WC,length_take->WD,map_cons->WJ,nil_append->WN,takeWhile_append_dropWhile->WO,map_append->WQ,take_succ_cons->WZ,length_drop->Xf,drop_succ_cons->Xj,drop_drop->Xp,takeWhile_prefix->Xs,size_toArray->Xu,any_eq_false->Xw,mem_append->XA,mem_take_iff_getElem->XF,append_assoc->XM,map_nil->XT,set_cons_succ->XY,take_zero->X3,not_mem_nil->X9,mem_cons->Ye,mem_of_mem_drop->Yf,drop_of_length_le->Yj,pairwise_cons->Yn,getElem?_drop->Yo,takeWhile_cons->YE,drop_zero->YG,getLast?_eq_none_iff->Y6,mergeSort_perm->Y8,getElem_of_mem->Za,getElem?_eq_some_iff->ZC,mem_range->ZH,mem_flatMap->ZK,pairwise_append->ZM,filter_eq_self->ZN
open _root_.List.Pairwise renaming filter->Yg
open _root_.Nat renaming le_refl->Hi,lt_of_lt_of_le->VF,zero_le->VG,le_trans->VK,zero_add->Wk,mul_le_mul_right->WS,add_sub_cancel->Xc,lt_or_ge->Xd,add_mul->Xi,eq_zero_or_pos->XX,sub_mul->YW,zero_mul->Zp
open _root_.Option renaming some->Bs,none->B0
open _root_.Option.some renaming injEq->VN,inj->Wn
variable {K:Act->D0->Prop}{f:Array Bool}{U:Array S2}{Q:Exit->Act->D0->Prop}{tx:Int}{h xs:List S2}{B i j k n n' p s u:Nat}{S:Nat->Prop}{E I:XE}{A:Option Xo}{y z:Option Nat}{P:Xh}{q:Prop}{α:Type}{t t':VR}{v v':S2}{c w' w2:D0}
set_option linter.all false
set_option maxRecDepth 100000
set_option maxHeartbeats 16000000
def LH{p : Prop}(h : p) : Go.RowKit.Hid p := Go.Lib.hid h
theorem Z7{c:Prop}{h:Decidable c}(n:¬c){α:Sort _}{t e:α}:ite c t e=e:=if_neg n
theorem Z8{c:Prop}{h:Decidable c}(n:c){α:Sort _}{t e:α}:ite c t e=t:=if_pos n
theorem Z9{p:Prop}[i:Decidable p](h:¬p):decide p=false:=decide_eq_false h
theorem ZA{p:Prop}[i:Decidable p](h:p):decide p=true:=decide_eq_true h
theorem ZB{a b:Prop}(h:a)(n:¬a):b:=absurd h n
theorem Z4{p q:Prop}(x:q)(h:q->p:=by omega):p:=h x
theorem Z5{p q r:Prop}(x:q)(y:r)(h:q->r->p:=by omega):p:=h x y
theorem Z6{p q:Prop}(x:q)(h:q->p:=by intro h;simpa using h):p:=h x
theorem Z0{p:Prop}(h:p:=by omega):p:=h
theorem Z1{p:Prop}(h:p:=by kernel_rfl):p:=h
theorem Z2{p:Prop}(h:p:=by decide):p:=h
theorem Z3{p:Prop}(h:p:=by simp):p:=h
theorem Zx{p:Prop}(h:p:=by unfold Go.maxLen;omega):p:=h
theorem Zy{p:Prop}(h:p:=by rintro ⟨h,p⟩;first|omega|(exact ZB p Z3)|(obtain⟨y,_⟩:=p;exact ZB y Z3)|(obtain⟨_,h2,h3⟩:=p;omega)):p:=h
theorem Zz{p:Prop}(h:p:=by simp;omega):p:=h
section
open Go.Shelf
def qbp:Go.Shelf.Ren:=⟨λ|189=>92|125=>117|257=>116|128=>139|129=>140|294=>130|295=>131|296=>132|297=>133|298=>134|299=>135|216=>136|300=>137|301=>138|328=>146|329=>147|330=>148|331=>149|332=>150|215=>151|343=>162|n=>n,λ|28=>26|3=>3|46=>85|0=>0|51=>217|53=>219|4=>4|183=>211|182=>210|131=>126|5=>5|9=>9|218=>224|222=>228|228=>237|229=>238|n=>n,λ|n=>n⟩
def qc7:Go.Proofs.Lays.n189 Tryz.prog qbp:={
 mixed:=by kernel_rfl
 f125:=Tryz.func117.trans (congrArg Bs Z1)
 f128:=Tryz.func139.trans (congrArg Bs Z1)
 f129:=Tryz.func140.trans (congrArg Bs Z1)
 f189:=Tryz.func92.trans (congrArg Bs Z1)
 f215:=Tryz.func151.trans (congrArg Bs Z1)
 f216:=Tryz.func136.trans (congrArg Bs Z1)
 f257:=Tryz.func116.trans (congrArg Bs Z1)
 f294:=Tryz.func130.trans (congrArg Bs Z1)
 f295:=Tryz.func131.trans (congrArg Bs Z1)
 f296:=Tryz.func132.trans (congrArg Bs Z1)
 f297:=Tryz.func133.trans (congrArg Bs Z1)
 f298:=Tryz.func134.trans (congrArg Bs Z1)
 f299:=Tryz.func135.trans (congrArg Bs Z1)
 f300:=Tryz.func137.trans (congrArg Bs Z1)
 f301:=Tryz.func138.trans (congrArg Bs Z1)
 f328:=Tryz.func146.trans (congrArg Bs Z1)
 f329:=Tryz.func147.trans (congrArg Bs Z1)
 f330:=Tryz.func148.trans (congrArg Bs Z1)
 f331:=Tryz.func149.trans (congrArg Bs Z1)
 f332:=Tryz.func150.trans (congrArg Bs Z1)
 f343:=Tryz.func162.trans (congrArg Bs Z1)
 t0:=Tryz.underlying0
 a0:=Tryz.isAgg0
 z0:=Tryz.sizeOf0
 v0:=Tryz.zeroValue0
 t3:=Tryz.underlying3
 a3:=Tryz.isAgg3
 z3:=Tryz.sizeOf3
 v3:=Tryz.zeroValue3
 t4:=Tryz.underlying4
 a4:=Tryz.isAgg4
 z4:=Tryz.sizeOf4
 v4:=Tryz.zeroValue4
 t5:=Tryz.underlying5
 a5:=Tryz.isAgg5
 z5:=Tryz.sizeOf5
 v5:=Tryz.zeroValue5
 t9:=Tryz.underlying9
 a9:=Tryz.isAgg9
 z9:=Tryz.sizeOf9
 v9:=Tryz.zeroValue9
 t28:=Tryz.underlying26
 a28:=Tryz.isAgg26
 z28:=Tryz.sizeOf26
 v28:=Tryz.zeroValue26
 t46:=Tryz.underlying85
 a46:=Tryz.isAgg85
 z46:=Tryz.sizeOf85
 v46:=Tryz.zeroValue85
 t51:=Tryz.underlying217
 a51:=Tryz.isAgg217
 z51:=Tryz.sizeOf217
 v51:=Tryz.zeroValue217
 t53:=Tryz.underlying219
 a53:=Tryz.isAgg219
 z53:=Tryz.sizeOf219
 v53:=Tryz.zeroValue219
 t131:=Tryz.underlying126
 a131:=Tryz.isAgg126
 z131:=Tryz.sizeOf126
 v131:=Tryz.zeroValue126
 t182:=Tryz.underlying210
 a182:=Tryz.isAgg210
 z182:=Tryz.sizeOf210
 v182:=Tryz.zeroValue210
 t183:=Tryz.underlying211
 a183:=Tryz.isAgg211
 z183:=Tryz.sizeOf211
 v183:=Tryz.zeroValue211
 t218:=Tryz.underlying224
 a218:=Tryz.isAgg224
 z218:=Tryz.sizeOf224
 v218:=Tryz.zeroValue224
 t222:=Tryz.underlying228
 a222:=Tryz.isAgg228
 z222:=Tryz.sizeOf228
 v222:=Tryz.zeroValue228
 t228:=Tryz.underlying237
 a228:=Tryz.isAgg237
 z228:=Tryz.sizeOf237
 v228:=Tryz.zeroValue237
 t229:=Tryz.underlying238
 a229:=Tryz.isAgg238
 z229:=Tryz.sizeOf238
 v229:=Tryz.zeroValue238}
open Go.Sort Go.RowKit in
def srt_int(f off cap:Nat)(h:List Int)(w:D0)(q:Holds (Wm eQ) w f off h.toArray)(i:f<w.heap.size)(k:h.length<4611686018427387904) :
  VX Tryz.prog 92 #[WK (Bs ⟨f,off,B0⟩) h.length cap] w λe w'=>
   e=ZY (ZZ #[])/\∃n p,w'=grow (putRow (Wm eQ) (Sort.ahead w n) f off (h.mergeSort λx y=>decide (x<=y)).toArray) p:=Any.slices_Sort_int qc7 f off cap h w q i k
open Go.RowKit Go.Sort in
def Ie(p:Option Xo)(cap:Nat)(w:D0) :
  VX Tryz.prog 92 #[WK p 0 cap] w λe w'=>e=ZY (ZZ #[])/\w'=w:=Any.slices_Sort_int_none qc7 p cap w
end
section
open Go.RowKit Go.Maps Go.Sort Go.Shelf
def q8q:Go.Shelf.Ren:=⟨λ|7=>101|10=>123|n=>n,λ|23=>98|26=>9|3=>161|28=>183|0=>0|27=>182|33=>203|4=>4|n=>n,λ|n=>n⟩
def Nk:Go.Proofs.SlLaysZ.n7 Tryz.prog q8q:={
 mixed:=by kernel_rfl
 f7:=⟨Tryz.f101.name,Z2,Tryz.func101.trans (congrArg Bs Z1)⟩
 f10:=⟨Tryz.f123.name,Z2,Tryz.func123.trans (congrArg Bs Z1)⟩
 t0:=Tryz.underlying0
 a0:=Tryz.isAgg0
 z0:=Tryz.sizeOf0
 v0:=Tryz.zeroValue0
 t4:=Tryz.underlying4
 a4:=Tryz.isAgg4
 z4:=Tryz.sizeOf4
 v4:=Tryz.zeroValue4
 t23:=Tryz.underlying98
 a23:=Tryz.isAgg98
 z23:=Tryz.sizeOf98
 v23:=Tryz.zeroValue98
 t26:=Tryz.underlying9
 a26:=Tryz.isAgg9
 z26:=Tryz.sizeOf9
 v26:=Tryz.zeroValue9
 t27:=Tryz.underlying182
 a27:=Tryz.isAgg182
 z27:=Tryz.sizeOf182
 v27:=Tryz.zeroValue182
 t28:=Tryz.underlying183
 a28:=Tryz.isAgg183
 z28:=Tryz.sizeOf183
 v28:=Tryz.zeroValue183
 t33:=Tryz.underlying203
 a33:=Tryz.isAgg203
 z33:=Tryz.sizeOf203
 v33:=Tryz.zeroValue203}
def q94:Go.Shelf.Ren:=⟨λ|6=>100|8=>121|9=>122|11=>141|13=>117|12=>142|23=>139|24=>140|14=>152|15=>153|16=>154|17=>155|18=>156|19=>157|20=>158|21=>159|22=>160|25=>163|26=>147|27=>148|28=>164|29=>165|30=>166|31=>167|n=>n,λ|26=>9|28=>183|24=>39|0=>0|3=>3|37=>85|48=>217|50=>219|4=>4|40=>211|39=>210|45=>126|5=>5|9=>9|51=>224|55=>228|57=>237|58=>238|33=>203|n=>n,λ|n=>n⟩
def KG:Go.Proofs.SlLaysZ.n6 Tryz.prog q94:={
 mixed:=by kernel_rfl
 f6:=⟨Tryz.f100.name,Z2,Tryz.func100.trans (congrArg Bs Z1)⟩
 f8:=⟨Tryz.f121.name,Z2,Tryz.func121.trans (congrArg Bs Z1)⟩
 f11:=⟨Tryz.f141.name,Z2,Tryz.func141.trans (congrArg Bs Z1)⟩
 t0:=Tryz.underlying0
 a0:=Tryz.isAgg0
 z0:=Tryz.sizeOf0
 v0:=Tryz.zeroValue0
 t24:=Tryz.underlying39
 a24:=Tryz.isAgg39
 z24:=Tryz.sizeOf39
 v24:=Tryz.zeroValue39
 t26:=Tryz.underlying9
 a26:=Tryz.isAgg9
 z26:=Tryz.sizeOf9
 v26:=Tryz.zeroValue9
 t28:=Tryz.underlying183
 a28:=Tryz.isAgg183
 z28:=Tryz.sizeOf183
 v28:=Tryz.zeroValue183
 i26:=by kernel_rfl}
def Nj:Go.Shelf.Ren:=⟨λ|6=>122|8=>117|9=>142|19=>139|20=>140|21=>152|22=>153|23=>154|24=>155|25=>156|26=>157|27=>158|28=>159|29=>160|36=>163|31=>147|32=>148|37=>164|38=>165|39=>166|41=>167|n=>n,λ|27=>39|29=>9|3=>3|32=>85|26=>39|0=>0|44=>217|46=>219|4=>4|36=>211|35=>210|41=>126|5=>5|9=>9|53=>224|57=>228|63=>237|64=>238|n=>n,λ|n=>n⟩
def Ty:Go.Proofs.SlLaysM.n6 Tryz.prog Nj:={
 mixed:=by kernel_rfl
 f6:=⟨Tryz.f122.name,Z2,Tryz.func122.trans (congrArg Bs Z1)⟩
 f8:=Tryz.func117.trans (congrArg Bs Z1)
 f9:=⟨Tryz.f142.name,Z2,Tryz.func142.trans (congrArg Bs Z1)⟩
 f19:=Tryz.func139.trans (congrArg Bs Z1)
 f20:=Tryz.func140.trans (congrArg Bs Z1)
 f21:=⟨Tryz.f152.name,Z2,Tryz.func152.trans (congrArg Bs Z1)⟩
 f22:=⟨Tryz.f153.name,Z2,Tryz.func153.trans (congrArg Bs Z1)⟩
 f23:=⟨Tryz.f154.name,Z2,Tryz.func154.trans (congrArg Bs Z1)⟩
 f24:=⟨Tryz.f155.name,Z2,Tryz.func155.trans (congrArg Bs Z1)⟩
 f25:=⟨Tryz.f156.name,Z2,Tryz.func156.trans (congrArg Bs Z1)⟩
 f26:=⟨Tryz.f157.name,Z2,Tryz.func157.trans (congrArg Bs Z1)⟩
 f27:=⟨Tryz.f158.name,Z2,Tryz.func158.trans (congrArg Bs Z1)⟩
 f28:=⟨Tryz.f159.name,Z2,Tryz.func159.trans (congrArg Bs Z1)⟩
 f29:=⟨Tryz.f160.name,Z2,Tryz.func160.trans (congrArg Bs Z1)⟩
 f31:=Tryz.func147.trans (congrArg Bs Z1)
 f32:=Tryz.func148.trans (congrArg Bs Z1)
 f36:=⟨Tryz.f163.name,Z2,Tryz.func163.trans (congrArg Bs Z1)⟩
 f37:=⟨Tryz.f164.name,Z2,Tryz.func164.trans (congrArg Bs Z1)⟩
 f38:=⟨Tryz.f165.name,Z2,Tryz.func165.trans (congrArg Bs Z1)⟩
 f39:=⟨Tryz.f166.name,Z2,Tryz.func166.trans (congrArg Bs Z1)⟩
 f41:=⟨Tryz.f167.name,Z2,Tryz.func167.trans (congrArg Bs Z1)⟩
 t0:=Tryz.underlying0
 a0:=Tryz.isAgg0
 z0:=Tryz.sizeOf0
 v0:=Tryz.zeroValue0
 t3:=Tryz.underlying3
 a3:=Tryz.isAgg3
 z3:=Tryz.sizeOf3
 v3:=Tryz.zeroValue3
 t4:=Tryz.underlying4
 a4:=Tryz.isAgg4
 z4:=Tryz.sizeOf4
 v4:=Tryz.zeroValue4
 t5:=Tryz.underlying5
 a5:=Tryz.isAgg5
 z5:=Tryz.sizeOf5
 v5:=Tryz.zeroValue5
 t9:=Tryz.underlying9
 a9:=Tryz.isAgg9
 z9:=Tryz.sizeOf9
 v9:=Tryz.zeroValue9
 t26:=Tryz.underlying39
 a26:=Tryz.isAgg39
 z26:=Tryz.sizeOf39
 v26:=Tryz.zeroValue39
 t27:=Tryz.underlying39
 a27:=Tryz.isAgg39
 z27:=Tryz.sizeOf39
 v27:=Tryz.zeroValue39
 t29:=Tryz.underlying9
 a29:=Tryz.isAgg9
 z29:=Tryz.sizeOf9
 v29:=Tryz.zeroValue9
 t32:=Tryz.underlying85
 a32:=Tryz.isAgg85
 z32:=Tryz.sizeOf85
 v32:=Tryz.zeroValue85
 t35:=Tryz.underlying210
 a35:=Tryz.isAgg210
 z35:=Tryz.sizeOf210
 v35:=Tryz.zeroValue210
 t36:=Tryz.underlying211
 a36:=Tryz.isAgg211
 z36:=Tryz.sizeOf211
 v36:=Tryz.zeroValue211
 t41:=Tryz.underlying126
 a41:=Tryz.isAgg126
 z41:=Tryz.sizeOf126
 v41:=Tryz.zeroValue126
 t44:=Tryz.underlying217
 a44:=Tryz.isAgg217
 z44:=Tryz.sizeOf217
 v44:=Tryz.zeroValue217
 t46:=Tryz.underlying219
 a46:=Tryz.isAgg219
 z46:=Tryz.sizeOf219
 v46:=Tryz.zeroValue219
 t53:=Tryz.underlying224
 a53:=Tryz.isAgg224
 z53:=Tryz.sizeOf224
 v53:=Tryz.zeroValue224
 t57:=Tryz.underlying228
 a57:=Tryz.isAgg228
 z57:=Tryz.sizeOf228
 v57:=Tryz.zeroValue228
 t63:=Tryz.underlying237
 a63:=Tryz.isAgg237
 z63:=Tryz.sizeOf237
 v63:=Tryz.zeroValue237
 t64:=Tryz.underlying238
 a64:=Tryz.isAgg238
 z64:=Tryz.sizeOf238
 v64:=Tryz.zeroValue238}
def OJ(m:Nat):AnyZ.SortsIn Tryz.prog q94 Ya m:=
 ⟨λi off cap ss W k f h=>callsIn_wide.2 (AnyM.slices_Sort_string Ty i off cap ss W k f h),
  λp cap W=>callsIn_wide.2 (AnyM.slices_Sort_string_none Ty p cap W)⟩
def Tz(f:Option Nat)(W:D0):CallsIn Ya 5 Tryz.prog 101 #[.map f] W λe w'=>e=ZY (.func (.func 123) #[] #[ZW (Bs ⟨W.heap.size,0,B0⟩)])/\w'=W.alloc (eT #[.map f] 98):=
 AnyZ.keys_in Nk Ya 5 trivial rfl f W
def Ni{H:Type}(b u:Nat)(k:YI H)(R:S2->Option (YI H×List Zf))(w:D0)(h:w.ownsMap Tryz.prog 9 R b u k)(q:Maps.size k<=VY)(f:Maps.size k*16<=140737488355328) :
  CallsIn Ya 5 Tryz.prog 100 #[.func (.func 123) #[] #[ZW (Bs ⟨w.heap.size,0,B0⟩)]] (w.alloc (eT #[.map (Bs b)] 98)) λe w'=>∃(v:S2) (ss:List (List UInt8)),e=ZY v/\ss.Perm (strKeys k)/\
   w'.ownsRow (w.alloc (eT #[.map (Bs b)] 98)).heap.size 9 1 v ss.length ((ss.mergeSort (λx y=>decide (x<=y))).map encStr)/\(v=WK B0 0 0↔ss=[])/\VI (w.alloc (eT #[.map (Bs b)] 98)).heap.size (w.alloc (eT #[.map (Bs b)] 98)) w':=by
 have s:=h.lt;have p:SeqGives Ya 2 Tryz.prog 123 #[ZW (Bs ⟨w.heap.size,0,B0⟩)] encStr (λss=>ss.Perm (strKeys k)) (Maps.size k) (w.alloc (eT #[.map (Bs b)] 98)):=
  AnyZ.keys_gives (ρ:=q8q) {Nk with} Ya _ trivial rfl Z0 w.heap.size b u k _ Z3 Z3 (by
   obtain⟨F,i,z,G,hs,E⟩:=h;exact⟨F,i,(Below.heap_alloc _ _ b s).trans z,G,hs,E⟩)
 exact AnyZ.sorted_in KG Ya 5 trivial trivial trivial trivial rfl Z0 (OJ _) (enters_of Tryz.func122 Z1 rfl) 123 #[ZW (Bs ⟨w.heap.size,0,B0⟩)] trivial (enters_of Tryz.func123 Z1 rfl) _ _ q f _ p
def KF(w:D0) :
  CallsIn Ya 5 Tryz.prog 100 #[.func (.func 123) #[] #[ZW (Bs ⟨w.heap.size,0,B0⟩)]] (w.alloc (eT #[.map B0] 98)) λe w'=>∃(v:S2) (ss:List (List UInt8)),e=ZY v/\ss=[]/\
   w'.ownsRow (w.alloc (eT #[.map B0] 98)).heap.size 9 1 v ss.length ((ss.mergeSort (λx y=>decide (x<=y))).map encStr)/\(v=WK B0 0 0↔ss=[])/\VI (w.alloc (eT #[.map B0] 98)).heap.size (w.alloc (eT #[.map B0] 98)) w':=by
 have f:SeqGives Ya 2 Tryz.prog 123 #[ZW (Bs ⟨w.heap.size,0,B0⟩)] encStr (λss:List (List UInt8)=>ss=[]) 0 (w.alloc (eT #[.map B0] 98)):=
  AnyZ.keys_gives_nil (ρ:=q8q) {Nk with} Ya _ trivial rfl w.heap.size _ Z3 Z3
 exact AnyZ.sorted_in KG Ya 5 trivial trivial trivial trivial rfl Z0 (OJ _) (enters_of Tryz.func122 Z1 rfl) 123 #[ZW (Bs ⟨w.heap.size,0,B0⟩)] trivial (enters_of Tryz.func123 Z1 rfl) _ 0 (VG _) Z0 _ f
end
def IS(a:Xo)(n:Nat):(a.add n).block=a.block:=by unfold Addr.add;split<;>rfl
def NU(a:Xo)(i j:Nat):(a.add i).add j=a.add (i+j):=by unfold Addr.add;by_cases h:i=0<;>by_cases f:j=0<;>simp[h,f,Nat.add_assoc]
def Eb(w:D0)(B size:Nat)(A:Option Xo)(n:Nat)(xs:List S2):Prop:=
 xs.length=n*size/\(0<n->∃f,A=Bs f/\f.block<B/\∀j u,xs[j]? = Bs u->w.cell? (f.add j)=Bs u)
def Ae(w:D0)(g:Nat)(t:VR)(cs:Array S2):Prop:=w.heap[g]? = Bs (eT cs t (0,0))
variable {w:D0}{g:Nat}{cs:Array S2}
def Ae.lt(h:Ae w g t cs):g<w.heap.size:=by obtain f|i:=Xd g w.heap.size;exact f;unfold Ae at h;rw[Xa i]at h;cases h
def Ae.cell(h:Ae w g t cs)(i:Nat):w.cell? ⟨g,i,B0⟩=cs[i]?:=cell_of_row w g i cs t (0,0) h
def Ae.frozen(h:Ae w g t cs)(i:Nat):w.frozen? ⟨g,i,B0⟩=L1:=by unfold Ae at h;simp[World.frozen?,h]
def Ae.b4(w:D0)(t:VR)(cs:Array S2):Ae (w.alloc (eT cs t)) w.heap.size t cs:=heap_alloc_new w _
def Ae.drewN(h:Ae w g t cs)(n:Nat):Ae (w.drewN n) g t cs:=h
def Ae.alloc(h:Ae w g t cs)(o:Obj):Ae (w.alloc o) g t cs:=(Below.heap_alloc w o g h.lt).trans h
def Ae.aZ(h:Ae w g t cs)(i:Nat)(u:S2):Ae (w.setCell ⟨g,i,B0⟩ u) g t (cs.setIfInBounds i u):=by unfold Ae at h ⊢;simp[YB,Array.getElem?_modify,h]
def Ae.far(h:Ae w g t cs){p:Xo}(f:g≠p.block)(u:S2):Ae (w.setCell p u) g t cs:=(Below.heap_setCell w p u g f).trans h
def Ae.below(h:Ae w g t cs)(i:VI B w w')(f:g<B):Ae w' g t cs:=(i.block g f).trans h
def Ae.ne_{k:Array S2}(h:Ae w g t cs)(f:Ae w p t' k)(i:t≠t'):g≠p:=by rintro rfl;unfold Ae at h f;rw[h]at f;injection f with f;injection f with _ ht;exact i ht
def Bh{base:Nat}{e:VR}{size:Nat}(h:w.ownsRow base e size v n xs)(k:Ae w g t cs)(f:e≠t):v.ownBlock≠Bs g:=by
 obtain⟨rfl,_⟩|⟨q,cap,s,rfl,_,i,_⟩:=h.2;simp[Wa];intro p;have:q=g:=by simpa [Wa]using p
 subst this;exact Ae.ne_ (t:=e) i k f rfl
section
variable {P:Xh}(w:D0)
def q8g(base:Nat)(t q e:VR)(i:TypeInfo)(size:Nat)(k:P.underlying t=Bs (.slice e))(p:P.info? e=Bs i)
  (v:S2) (n:Nat) (xs:List S2) (f:w.ownsRow base e size v n xs) (c:Nat):(XC #[t,t] q #[v,WK B0 0 c]).run P w=.ok v w:=by
 obtain⟨rfl,rfl⟩|⟨g,cap,s,rfl,_,_,h,_⟩:=f.2;simp[XC,YH k,Zc,typeInfo,p,Builtin.lenOf,Yb];simp[XC,YH k,Zc,typeInfo,p,Builtin.lenOf,Yb,h,storeCells]
def qbq(base:Nat)(t I e:VR)(i:TypeInfo)(z:S2)(size k:Nat)(Y:P.underlying t=Bs (.slice e))(Z:P.info? e=Bs i)(hz:i.zero=Bs z)
  (y:i.size=size) (R:i.bytes=k) (J:z.cells.size=size) (M:0<size)
  (v:S2) (n:Nat) (xs:List S2) (p:w.ownsRow base e size v n xs)
  (B:Nat) (A:Option Xo) (m c:Nat) (f:List S2) (H:Eb w B size A m f) (h1:∀u∈f,u.oneCell'=VD)
  (U:n+m<=VY) (s:(n+m)*k<=140737488355328) (E:base<=w.heap.size) :
  ∃v' w',(XC #[t,t] I #[v,WK A m c]).run P w=.ok v' w'/\w'.ownsRow base e size v' (n+m) (xs++f)/\w.grownBy w' v.ownBlock/\
   (v'.ownBlock=v.ownBlock\/v'.ownBlock=Bs w.heap.size):=by
 obtain _|W:=A;have hm:m=0:=by
  obtain F|F:=XX m;exact F;obtain⟨W,h,_⟩:=H.2 F;cases h
 subst hm;have O:f=[]:=We (Z6 H.1);subst O;exact⟨v,w,q8g w base t I e i size Y Z v n xs p c,Z6 p,World.grownBy.refl w _,eR rfl⟩;have q:∀j u,f[j]? = Bs u->w.cell? (W.add j)=Bs u:=by
  intro j u X;obtain F|F:=XX m;subst F;have O:f=[]:=We (Z6 H.1);subst O;simp at X;obtain⟨a0,h,_,hc⟩:=H.2 F;injection h with h;subst h;exact hc j u X
 obtain⟨v',w',G,h2,h3,_,h5⟩:=run_append_own_at (P:=P) w base t I e i z size k Y Z hz y R J M v n xs p W m c f H.1 q h1 U s E;exact⟨v',w',G,h2,h3,h5⟩
def q57{o:XE}{a:Act}(s x:Yi)(t:VR)
  (W:o.op=.call {callee:=.builtin .append,args:=#[s,x],argTypes:=#[t,t]})
  (base:Nat) (e:VR) (i:TypeInfo) (z:S2) (size f:Nat) (R:P.underlying t=Bs (.slice e)) (X:P.info? e=Bs i) (M:i.zero=Bs z)
  (q:i.size=size) (I:i.bytes=f) (G:z.cells.size=size) (H:0<size)
  (v:S2) (n:Nat) (xs:List S2) (hs:a.eval s=v) (F:w.ownsRow base e size v n xs)
  (B:Nat) (A:Option Xo) (m c:Nat) (k:List S2) (O:a.eval x=WK A m c) (U:Eb w B size A m k) (h1:∀u∈k,u.oneCell'=VD)
  (J:n+m<=VY) (p:(n+m)*f<=140737488355328) (y:base<=w.heap.size)
  (h:∀v' w',w'.ownsRow base e size v' (n+m) (xs++k)->w.grownBy w' v.ownBlock->(v'.ownBlock=v.ownBlock\/v'.ownBlock=Bs w.heap.size)->K (a.put o.dst v') w'):o.wp P a w K Q:=by
 obtain⟨v',w',E,h2,Z,Y⟩:=qbq (P:=P) w base t o.type e i z size f R X M q I G H v n xs F B A m c k U h1 J p y;unfold Yp Yr;simp only[W,resolve,invoke,builtin,Sem.run_bind,Sem.run_pure,Zv,List.map_toArray,WJ,XT,hs,O,E];exact h v' w' h2 Z Y
def q8b{ops:Array XE}{rest:List XE}{o:XE}{a:Act}(H:o.guard=B0)(s x:Yi)(t:VR)
  (W:o.op=.call {callee:=.builtin .append,args:=#[s,x],argTypes:=#[t,t]})
  (base:Nat) (e:VR) (i:TypeInfo) (z:S2) (size f:Nat) (R:P.underlying t=Bs (.slice e)) (X:P.info? e=Bs i) (M:i.zero=Bs z)
  (q:i.size=size) (I:i.bytes=f) (F:z.cells.size=size) (G:0<size)
  (v:S2) (n:Nat) (xs:List S2) (hs:a.eval s=v) (E:w.ownsRow base e size v n xs)
  (B:Nat) (A:Option Xo) (m c:Nat) (k:List S2) (O:a.eval x=WK A m c) (U:Eb w B size A m k) (h1:∀u∈k,u.oneCell'=VD)
  (J:n+m<=VY) (p:(n+m)*f<=140737488355328) (y:base<=w.heap.size)
  (h:∀v' w',w'.ownsRow base e size v' (n+m) (xs++k)->w.grownBy w' v.ownBlock->(v'.ownBlock=v.ownBlock\/v'.ownBlock=Bs w.heap.size)->Yk P ops Q rest (a.put o.dst v') w'):Yk P ops Q (o::rest) a w:=
 Yx H λ_ Y=>q57 w s x t W base e i z size f R X M q I F G v n xs hs E B A m c k O U h1 J p y λv' w' h2 h3 Z=>Y _ _ (h v' w' h2 h3 Z)
end
def Stop(p:Prop):Prop:=p
def stop{p:Prop}(h:Stop p):p:=h
def CD{p:Prop}(h:p):Stop p:=h
structure Fr(S:Nat->Prop)(w w':D0):Prop where
 os:w'.os=w.os
 tape:w'.tape=w.tape
 output:w'.output=w.output
 size:w.heap.size<=w'.heap.size
 block:∀k,k<w.heap.size->¬S k->w'.heap[k]? = w.heap[k]?
section
variable {S T:Nat->Prop}{a b c w w':D0}
def Fr.refl(S:Nat->Prop)(w:D0):Fr S w w:=⟨rfl,rfl,rfl,Hi _,λ_ _ _=>rfl⟩
def Fr.trans'(h:Fr S a b)(k:Fr T b c)(s:∀i,i<a.heap.size->T i->S i):Fr S a c:=
 ⟨k.os.trans h.os,k.tape.trans h.tape,k.output.trans h.output,VK h.size k.size,λi f p=>(k.block i (VF f h.size) (λq=>p (s i f q))).trans (h.block i f p)⟩
def Fr.trans(h:Fr S a b)(k:Fr S b c):Fr S a c:=h.trans' k λ_ _ x=>x
def Fr.mono(h:Fr S a b)(p:∀i,i<a.heap.size->S i->T i):Fr T a b:=⟨h.os,h.tape,h.output,h.size,λi f k=>h.block i f (λhs=>k (p i f hs))⟩
def Fr.drew(h:Fr S a w):Fr S a w.drew:=⟨h.os,h.tape,h.output,h.size,h.block⟩
def Fr.drewN(h:Fr S a w)(n:Nat):Fr S a (w.drewN n):=⟨h.os,h.tape,h.output,h.size,h.block⟩
def Fr.alloc(h:Fr S a w)(o:Obj):Fr S a (w.alloc o):=h.trans ⟨rfl,rfl,rfl,Z3,λk f _=>Below.heap_alloc _ _ _ f⟩
def Fr.setCell(h:Fr S a w){p:Xo}(f:S p.block\/a.heap.size<=p.block)(u:S2):Fr S a (w.setCell p u):=
 ⟨h.os,h.tape,h.output,by simpa [YB]using h.size,λk q i=>(Below.heap_setCell w p u k (by
  rintro rfl;obtain f|f:=f;exact i f;omega)).trans (h.block k q i)⟩
def Fr.below(h:Fr S a b)(f:∀i,S i->B<=i)(q:B<=a.heap.size):VI B a b:=⟨h.os,h.tape,h.output,h.size,λk p=>h.block k Z0 (λhs=>Z4 (f k hs))⟩
def Below.fr(h:VI w.heap.size w w')(S:Nat->Prop):Fr S w w':=⟨h.os,h.tape,h.output,h.size,λk f _=>h.block k f⟩
def Fr.b8{f:Option Nat}(h:w.grownBy w' f)(i:∀k,f=Bs k->S k):Fr S w w':=⟨h.os,h.tape,h.output,h.size,λk q p=>h.block k q (λe=>p (i k e.symm))⟩
def Fr.bH(h:Fr (λ_=>False) w w'):VI w.heap.size w w':=⟨h.os,h.tape,h.output,h.size,λk f=>h.block k f (λx=>x)⟩
def Fr.cell(h:Fr S w w'){p:Xo}(f:p.block<w.heap.size)(i:¬S p.block):w'.cell? p=w.cell? p:=World.cell?_of_block (h.block p.block f i)
def Fr.al{g:Nat}(h:Fr S w w')(f:Ae w g t U)(i:¬S g):Ae w' g t U:=(h.block g f.lt i).trans f
def Fr.own{base:Nat}{e:VR}{size n:Nat}{v:S2}{xs:List S2}(h:Fr S w w')(k:w.ownsRow base e size v n xs)(p:∀g,v.ownBlock=Bs g->¬S g):w'.ownsRow base e size v n xs:=by refine⟨k.1,?_⟩;obtain q|⟨g,cap,i,rfl,s,f,rest⟩:=k.2;exact eR q;exact eS ⟨g,cap,i,rfl,s,(h.block g (ZP.1 f).1 (p g rfl)).trans f,rest⟩
end
def Fr.aL(p:Nat)(w:D0)(i:Nat)(u:S2):Fr (λk=>k=p) w (w.setCell ⟨p,i,B0⟩ u):=(Fr.refl (λk=>k=p) w).setCell (p:=⟨p,i,B0⟩) (.inl rfl) u
def Rd(w:D0)(B size:Nat)(A:Option Xo)(n:Nat)(xs:List S2):Prop:=
 xs.length=n*size/\(0<n->∃g off,A=Bs ⟨g,off,B0⟩/\g<B/\∀j u,xs[j]? = Bs u->w.cell? ⟨g,off+j,B0⟩=Bs u)
section
variable {w w':D0}{B size n:Nat}{A:Option Xo}{xs:List S2}
def Rd.bB(h:Rd w B size A n xs):Eb w B size A n xs:=⟨h.1,λp=>by
 obtain⟨g,off,rfl,k,i⟩:=h.2 p;exact⟨_,rfl,k,λj u f=>by rw[WM];exact i j u f⟩⟩
def Rd.bo(w:D0)(B size:Nat)(A:Option Xo):Rd w B size A 0 []:=⟨Z3,λh=>ZB h Z0⟩
def Rd.fr(h:Rd w B size A n xs)(q:Fr S w w')(y:B<=w.heap.size)(k:∀g off,A=Bs ⟨g,off,B0⟩->0<n->¬S g):Rd w' B size A n xs:=
 ⟨h.1,λf=>by
  obtain⟨g,off,e,v,s⟩:=h.2 f;exact⟨g,off,e,v,λj u i=>(q.cell (p:=⟨g,off+j,B0⟩) (by show g<_;omega) (k g off e f)).trans (s j u i)⟩⟩
def Rd.more{B':Nat}(h:Rd w B size A n xs)(p:B<=B'):Rd w B' size A n xs:=
 ⟨h.1,λi=>by
  obtain⟨g,off,e,k,f⟩:=h.2 i;exact⟨g,off,e,Z0,f⟩⟩
def Rd.below(h:Rd w B size A n xs)(q:VI B w w'):Rd w' B size A n xs:=
 ⟨h.1,λs=>by
  obtain⟨g,off,e,f,k⟩:=h.2 s;exact⟨g,off,e,f,λj u i=>(q.cell (p:=⟨g,off+j,B0⟩) f).trans (k j u i)⟩⟩
def Rd.a7{base:Nat}{e:VR}{c:Nat}(h:w.ownsRow base e size (WK A n c) n xs):Rd w w.heap.size size A n xs:=by
 refine⟨h.1,λp=>?_⟩;obtain⟨g,cap,i,_,f⟩:=h.form p;have q:A=Bs ⟨g,0,B0⟩:=by injection i
 subst q;exact⟨g,0,rfl,f,λj u k=>by have:=h.cells (g:=g) rfl j u k;rwa [WM]at this⟩
def Rd.lit(w:D0)(cs:Array S2)(e:VR)(n size:Nat)(hs:cs.size=n*size):Rd (w.alloc (eT cs e)) (w.heap.size+1) size (Bs ⟨w.heap.size,0,B0⟩) n cs.toList:=
 ⟨Z6 hs,λ_=>⟨w.heap.size,0,rfl,Z0,λj u f=>by
  have:=(Ae.b4 w e cs).cell j;rw[Wk,this];simpa using f⟩⟩
def Rd.dg(h:Rd w B 1 A n xs)(p:k<n):∃g off u,A=Bs ⟨g,off,B0⟩/\g<B/\xs[k]? = Bs u/\w.cell? ⟨g,off+k,B0⟩=Bs u:=by
 obtain⟨g,off,e,i,f⟩:=h.2 Z0;have hl:k<xs.length:=Z4 h.1;exact⟨g,off,xs[k],e,i,K0 hl,f k _ (K0 hl)⟩
end
def Am(w w':D0)(b f:Option Nat):Prop:=Fr (λk=>Bs k=b) w w'/\(f=b\/∃g,f=Bs g/\w.heap.size<=g)
def Am.trans{a b:D0}{x:Option Nat}(h:Am a b x y)(k:Am b c y z):Am a c x z:=by obtain⟨u,f⟩:=h;obtain⟨v,p⟩:=k;refine⟨u.trans' v (λi E q=>?_),?_⟩;obtain f|⟨g,f,s⟩:=f;rw[f]at q;exact q;rw[f]at q;injection q;omega;obtain p|⟨g,p,s⟩:=p;rw[p];exact f;exact eS ⟨g,p,VK u.size s⟩
def Am.alloc(w:D0)(o:Obj)(b:Option Nat):Am w (w.alloc o) b b:=⟨(Fr.refl _ _).alloc o,eR rfl⟩
def Am.size{w w':D0}{b f:Option Nat}(h:Am w w' b f):w.heap.size<=w'.heap.size:=h.1.size
def Am.below{w w':D0}{b q:Option Nat}{B:Nat}(h:Am w w' b q)(k:∀g,b=Bs g->B<=g)(p:B<=w.heap.size):VI B w w':=h.1.below (λi f=>k i f.symm) p
def Am.cj{w:D0}(p:w.grownBy w' v.ownBlock)(f:v'.ownBlock=v.ownBlock\/v'.ownBlock=Bs w.heap.size):Am w w' v.ownBlock v'.ownBlock:=by refine⟨Fr.b8 p (λk i=>i.symm),?_⟩;obtain h|h:=f;exact eR h;exact eS ⟨_,h,Hi _⟩
def Oq(w:D0)(X:Obj){ops:Array XE}{rest:List XE}{o:XE}{a:Act}(M:o.guard=B0)(s x:Yi)(t:VR)
  (ho:o.op=.call {callee:=.builtin .append,args:=#[s,x],argTypes:=#[t,t]})
  (base:Nat) (e:VR) (z:S2) (size f:Nat) (ht:P.underlying t=Bs (.slice e)) (J:(P.info? e).map (λi=>(i.zero,i.size,i.bytes))=Bs (Bs z,size,f)) (G:z.cells.size=size) (BJ:0<size)
  (v:S2) (n:Nat) (xs:List S2) (y:Array S2) (hs:a.eval s=v) (E:w.ownsRow base e size v n xs)
  (c:Nat) (Z:a.eval x=WK (Bs ⟨w.heap.size,0,B0⟩) 1 c) (e1:VR) (I:X=eT y e1) (H:y.size=size) (h1:∀u∈y.toList,u.oneCell'=VD)
  (W:n+1<=VY) (k:(n+1)*f<=140737488355328) (R:base<=w.heap.size)
  (h:∀v' w',w'.ownsRow base e size v' (n+1) (xs++y.toList)->Am w w' v.ownBlock v'.ownBlock->Yk P ops Q rest (a.put o.dst v') w') :
  Yk P ops Q (o::rest) a (w.alloc X):=by
 obtain⟨i,J,Y,p,O⟩:=YM J;subst I;refine wpList_append_own_at _ M s x t ho base e i z size f ht J Y p O G BJ v n xs hs (E.alloc _) ⟨w.heap.size,0,B0⟩ 1 c y.toList Z (by simp[H]) (λj u hu=>?_) h1 W k Zz
  λv' w' q hg _ U=>h v' w' q ((Am.alloc w _ _).trans (Am.cj hg U))
 have F:(⟨w.heap.size,0,B0⟩:Xo).add j=⟨w.heap.size,j,B0⟩:=by unfold Addr.add;split<;>simp_all
 rw[F,(Ae.b4 w e1 y).cell j];simpa using hu
def q1o(w:D0){ops:Array XE}{rest:List XE}{o:XE}{a:Act}(I:o.guard=B0)(s x:Yi)(t:VR)
  (Y:o.op=.call {callee:=.builtin .append,args:=#[s,x],argTypes:=#[t,t]})
  (base:Nat) (e:VR) (z:S2) (size f:Nat) (W:P.underlying t=Bs (.slice e)) (H:(P.info? e).map (λi=>(i.zero,i.size,i.bytes))=Bs (Bs z,size,f)) (G:z.cells.size=size) (BJ:0<size)
  (v:S2) (n:Nat) (xs:List S2) (hs:a.eval s=v) (F:w.ownsRow base e size v n xs)
  (B:Nat) (A:Option Xo) (m c:Nat) (k:List S2) (U:a.eval x=WK A m c) (X:Eb w B size A m k) (h1:∀u∈k,u.oneCell'=VD)
  (O:n+m<=VY) (p:(n+m)*f<=140737488355328) (E:base<=w.heap.size)
  (h:∀v' w',w'.ownsRow base e size v' (n+m) (xs++k)->Am w w' v.ownBlock v'.ownBlock->Yk P ops Q rest (a.put o.dst v') w') :
  Yk P ops Q (o::rest) a w:=by
 obtain⟨i,H,R,q,J⟩:=YM H;exact q8b w I s x t Y base e i z size f W H R q J G BJ v n xs hs F B A m c k U X h1 O p E
  λv' w' y Z M=>h v' w' y (Am.cj Z M)
def q2m(w:D0){o:XE}{a:Act}(s x:Yi)(t:VR)
  (X:o.op=.call {callee:=.builtin .append,args:=#[s,x],argTypes:=#[t,t]})
  (base:Nat) (e:VR) (z:S2) (size f:Nat) (U:P.underlying t=Bs (.slice e)) (H:(P.info? e).map (λi=>(i.zero,i.size,i.bytes))=Bs (Bs z,size,f)) (G:z.cells.size=size) (BJ:0<size)
  (v:S2) (n:Nat) (xs:List S2) (hs:a.eval s=v) (F:w.ownsRow base e size v n xs)
  (B:Nat) (A:Option Xo) (m c:Nat) (k:List S2) (R:a.eval x=WK A m c) (W:Eb w B size A m k) (Z:∀u∈k,u.oneCell'=VD)
  (M:n+m<=VY) (p:(n+m)*f<=140737488355328) (E:base<=w.heap.size)
  (h:∀v' w',w'.ownsRow base e size v' (n+m) (xs++k)->Am w w' v.ownBlock v'.ownBlock->K (a.put o.dst v') w'):o.wp P a w K Q:=by
 obtain⟨i,H,O,q,I⟩:=YM H;exact q57 w s x t X base e i z size f U H O q I G BJ v n xs hs F B A m c k R W Z M p E
  λv' w' y Y J=>h v' w' y (Am.cj Y J)
def AM{w:D0}{base e size:Nat}(h:w.ownsRow base e size v n xs):∃A c,v=WK A n c/\n<=c/\(∀f,A=Bs f->v.ownBlock=Bs f.block):=by obtain⟨rfl,rfl⟩|⟨g,cap,k,rfl,_,_,i,_⟩:=h.2;exact⟨B0,0,rfl,Hi _,λf h=>by cases h⟩;exact⟨_,_,rfl,i,λf h=>by injection h with h;subst h;rfl⟩
section
open Go.RowKit Go.Maps Go.WideMaps
structure Da(P:Xh)(kt:VR)(κ:Type) where
 law:Keyed P kt
 kl:κ->Lit
 val:κ->S2
 ok:κ->Prop
 mkk:∀x,ok x->keyOf P kt (val x)=Bs (kl x)
 inv:∀v l,keyOf P kt v=Bs l->∃x,ok x/\v=val x/\l=kl x
 inj:∀x y,kl x=kl y->x=y
def keyI{P:Xh}{kt:VR}(h:P.underlying kt=Bs (.int eQ)):Da P kt Int where
 law:=int_keyed h
 kl x:=.int eQ x
 val x:=.int eQ x
 ok x:=(Lit.int eQ x).wf=VD
 mkk x hx:=keyOf_int_mk h hx
 inv v l hv:=by obtain⟨x,k,i,f⟩:=Maps.keyOf_int_inv h hv;exact⟨x,f,k,i⟩
 inj x y e:=by injection e
def keyS{P:Xh}{kt:VR}(h:P.underlying kt=Bs .string):Da P kt ByteArray where
 law:=string_keyed h
 kl s:=.string s.data.toList
 val s:=.string s
 ok s:=s.size<=VY
 mkk s hs:=keyOf_string_mk h hs
 inv v l hv:=by
  cases v<;>simp[keyOf,h,mapKey]at hv;rename_i s;exact⟨s,hv.1,rfl,hv.2.symm⟩
 inj s t e:=by
  injection e with e;have:s.data=t.data:=Array.ext' e;cases s;cases t;simp_all
def De(v:S2):Option (YI S2×List Zf):=Bs (.held v,[])
section
variable {P:Xh}{kt:VR}{κ:Type}
def Da.key(C:Da P kt κ){x:κ}(f:C.ok x):WideAt.IsKeyLit (C.kl x):=C.law.key (C.mkk x f)
def DK(C:Da P kt κ)(D:YI S2)(m:κ->Option S2):Prop:=
 ∀x,C.ok x->Maps.has D (C.kl x)=(m x).isSome/\∀v,m x=Bs v->∀z,D.atKey (C.kl x) z=.held v
def Ab(C:Da P kt κ)(w:D0)(b n:Nat)(m:κ->Option S2):Prop:=∃D:YI S2,w.ownsMap P kt De b n D/\DK C D m
variable {C:Da P kt κ}{w w':D0}{b n:Nat}{m:κ->Option S2}
def Ab.lt(h:Ab C w b n m):b<w.heap.size:=by obtain⟨D,h,_⟩:=h;exact h.lt
def Ab.mono(h:Ab C w b n m){n':Nat}(i:n<=n'):Ab C w b n' m:=by obtain⟨D,h,f⟩:=h;exact⟨D,h.mono i,f⟩
def Ab.c7(h:Ab C w b n m)(e:w'.heap[b]? = w.heap[b]?):Ab C w' b n m:=by obtain⟨D,⟨p,f,k,r⟩,i⟩:=h;exact⟨D,⟨p,f,e.trans k,r⟩,i⟩
def Ab.fr(h:Ab C w b n m)(i:Fr S w w')(f:¬S b):Ab C w' b n m:=h.c7 (i.block b h.lt f)
def Ab.below(h:Ab C w b n m)(f:VI B w w')(i:b<B):Ab C w' b n m:=h.c7 (f.block b i)
def Ab.drewN(h:Ab C w b n m)(k:Nat):Ab C (w.drewN k) b n m:=h
def Ab.alloc(h:Ab C w b n m)(o:Obj):Ab C (w.alloc o) b n m:=h.fr (S:=λ_=>False) ((Fr.refl _ _).alloc o) (λx=>x)
def Ab.aV{g:Nat}(h:Ab C w b n m)(f:Ae w g t U):b≠g:=by rintro rfl;obtain⟨D,⟨k,i,e,_⟩,_⟩:=h;unfold Ae at f;rw[e]at f;cases f
def Ab.bn{base size:Nat}{e:VR}(h:Ab C w b n m)(p:w.ownsRow base e size v k xs):v.ownBlock≠Bs b:=by
 obtain⟨rfl,_⟩|⟨g,cap,s,rfl,_,i,_⟩:=p.2;simp[Wa];intro q;have:g=b:=by simpa [Wa]using q
 subst this;obtain⟨D,⟨u,f,e,_⟩,_⟩:=h;rw[e]at i;cases i
def Jw(C:Da P kt κ):DK C (.map []) (λ_=>B0):=λs _=>⟨rfl,λv h=>by cases h⟩
def Ab.cT(C:Da P kt κ)(w:D0):Ab C (w.alloc (.map #[] 0)) w.heap.size 0 (λ_=>B0):=⟨_,World.ownsMap_made w _ _ _,Jw C⟩
open Classical in
def AY(m:κ->Option S2)(x:κ)(v:Option S2):κ->Option S2:=λy=>if y=x then v else m y
def qai(m:κ->Option S2)(x:κ)(v:Option S2):AY m x v x=v:=by unfold AY;rw[Z8 rfl]
def Il{m:κ->Option S2}{x y:κ}(h:y≠x)(v:Option S2):AY m x v y=m y:=by unfold AY;rw[Z7 h]
def DK.set{D:YI S2}(h:DK C D m)(p:IsMap D)(x:κ)(v:S2):DK C (D.put (C.kl x) (.held v)) (AY m x (Bs v)):=λt k=>by
 by_cases e:t=x;subst e;rw[has_put_same p (C.key k),qai];refine⟨rfl,λu f z=>?_⟩;rw[atKey_put_same p (C.key k)];injection f with f;rw[f];have i:C.kl t≠C.kl x:=λq=>e (C.inj _ _ q)
 rw[has_put_other i,Il e];refine⟨(h t k).1,λu f z=>?_⟩;rw[atKey_put_other i];exact(h t k).2 u f z
def DK.del{D:YI S2}(h:DK C D m)(x:κ):DK C (D.del (C.kl x)) (AY m x B0):=λt k=>by
 by_cases e:t=x;subst e;rw[has_del_same,qai];exact⟨rfl,λu i z=>by cases i⟩;have f:C.kl t≠C.kl x:=λp=>e (C.inj _ _ p)
 rw[has_del_other f,Il e];refine⟨(h t k).1,λu i z=>?_⟩;rw[atKey_del_other f];exact(h t k).2 u i z
def TJ{d:YI S2}{ps:List Zf}(h:De v=Bs (d,ps)):d=.held v:=by unfold De at h;injection h with h;injection h with h _;exact h.symm
def Ab.cn(h:Ab C w b n m){e:VR}(F:P.underlying t=Bs (.map kt e)){z:S2}(E:(Yh e).run P w=.ok z w){x:κ}(q:C.ok x) :
  (XV t (.map (Bs b)) (C.val x) VD).run P w=.ok (ZZ #[(m x).getD z,ZX (m x).isSome]) w/\(XV t (.map (Bs b)) (C.val x) L1).run P w=.ok ((m x).getD z) w:=by
 obtain⟨D,G,J⟩:=h;obtain⟨I,M⟩:=J x q;have f:∀(v:S2)(ps:List Zf),De v=Bs (D.atKey (C.kl x) (.held z),ps)->v=(m x).getD z:=λv ps u=>by
  have e:=TJ u;rcases H:m x with _|y;rw[atKey_of_not_has (by rw[I,H];rfl)]at e;injection e with e;exact e.symm;rw[M y H]at e;injection e with e;exact e.symm
 obtain⟨v,ps,k,u⟩:=G.look_ok C.law F E (zd:=.held z) (zp:=[]) rfl (C.mkk x q);obtain⟨v',p,i,s⟩:=G.lookup C.law F E (zd:=.held z) (zp:=[]) rfl (C.mkk x q);rw[k,i,f v ps u,f v' p s,I];exact⟨rfl,rfl⟩
def Qz(C:Da P kt κ)(w:D0){e:VR}(i:P.underlying t=Bs (.map kt e))(f:(Yh e).run P w=.ok v w){x:κ}(h:C.ok x) :
  (XV t (.map B0) (C.val x) VD).run P w=.ok (ZZ #[v,ZX L1]) w/\(XV t (.map B0) (C.val x) L1).run P w=.ok v w:=
 ⟨Maps.look_nil VD C.law i f (C.mkk x h),Maps.look_nil L1 C.law i f (C.mkk x h)⟩
def Ab.len(h:Ab C w b n m){t e:VR}(U:P.underlying t=Bs (.map kt e)):∃k:Nat,(∀E,(Builtin.len_ #[t] E #[.map (Bs b)]).run P w=.ok (.int eQ k) w)/\k<=n/\(k=0↔∀x,C.ok x->m x=B0):=by
 obtain⟨D,z,O⟩:=h;refine⟨Maps.size D,λE=>z.len U E,z.size_le,λJ x u=>?_,λJ=>?_⟩;have q:=(O x u).1;obtain⟨s,rfl⟩:=z.isMap;have:s=[]:=We J;subst this;rcases X:m x with _|y;rfl;rw[X]at q;cases q;obtain⟨s,I,_,Y⟩:=z.entries C.law;obtain⟨i,M,Z,F,hs,H⟩:=z;obtain _|⟨p,s⟩:=s;rw[I];rfl;exfalso;have f:=Maps.fit_keys F;have W:p∈(i.toList.map (Go.WideElems.rg P kt De)):=by
  have:p∈((i.toList.map (Go.WideElems.rg P kt De)).foldr DataW.insert []):=by
   have e:DataW.map ((i.toList.map (Go.WideElems.rg P kt De)).foldr DataW.insert [])=.map (p::s):=H.symm.trans I;injection e with e;rw[e];exact VB ..
  exact mem_sorted.1 this
 obtain⟨v,G⟩:=f p W;obtain⟨x,u,_,R⟩:=C.inv v _ G;have q:=(O x u).1;rw[J x u,I]at q;have:Maps.has (DataW.map (p::s)) (C.kl x)=VD:=by
  rw[has_eq,List.any_cons,<- R,WideAt.sameKey_self (by rw[R];exact C.key u)];rfl
 rw[this]at q;cases q
def Ab.dH(f:w.grownBy w' (Bs b)):Fr (λk=>k=b) w w':=Fr.b8 f (λk e=>(Wn e).symm)
def Ab.store(h:Ab C w b n m){e:VR}(y:P.underlying t=Bs (.map kt e))(z:n<VY){x:κ}(u:C.ok x)(v:S2) :
  ∃w',(Instr.mapUpdate t (.map (Bs b)) (C.val x) v).run P w=.ok () w'/\Ab C w' b (n+1) (AY m x (Bs v))/\Fr (λk=>k=b) w w':=by
 obtain⟨D,p,f⟩:=h;obtain⟨w',i,s,q⟩:=p.update C.law y z (C.mkk x u) (d:=.held v) (ps:=[]) rfl;exact⟨w',i,⟨_,s,f.set p.isMap x v⟩,Ab.dH q⟩
def Ab.drop(h:Ab C w b n m){t e:VR}(v:P.underlying t=Bs (.map kt e)){x:κ}(u:C.ok x)(p:VR) :
  ∃w',(Builtin.delete_ #[t,kt] p #[.map (Bs b),C.val x]).run P w=.ok (ZZ #[]) w'/\Ab C w' b n (AY m x B0)/\Fr (λk=>k=b) w w':=by
 obtain⟨D,y,f⟩:=h;obtain⟨w',i,s,q⟩:=y.drop C.law v (C.mkk x u) p;exact⟨w',i,⟨_,s,f.del x⟩,Ab.dH q.grown⟩
def Ed(C:Da P kt κ)(w:D0)(b r n:Nat)(m:κ->Option S2)(left:κ->Bool)(cnt:Nat):Prop:=
 ∃(D:YI S2)(l:Lit->Bool),w.ranges P kt De b r n D l cnt/\DK C D m/\∀x,C.ok x->l (C.kl x)=left x
variable {r cnt:Nat}{left:κ->Bool}
def Ed.owns(h:Ed C w b r n m left cnt):Ab C w b n m:=by obtain⟨D,l,i,f,_⟩:=h;exact⟨D,i.owns,f⟩
def Ed.lt(h:Ed C w b r n m left cnt):r<w.heap.size:=by obtain⟨D,l,f,i,_⟩:=h;exact f.lt
def Ed.cg(h:Ed C w b r n m left cnt)(e:w'.heap[b]? = w.heap[b]?)(F:w'.heap[r]? = w.heap[r]?):Ed C w' b r n m left cnt:=by obtain⟨D,l,⟨E,i,f,k,G,s,z,y,v,q,u⟩,p⟩:=h;exact⟨D,l,⟨E,i,f,k,G,e.trans s,z,y,v,F.trans q,u⟩,p⟩
def Ed.fr(h:Ed C w b r n m left cnt)(f:Fr S w w')(k:¬S b)(i:¬S r):Ed C w' b r n m left cnt:=
 h.cg (f.block b h.owns.lt k) (f.block r h.lt i)
def Ab.range(h:Ab C w b n m){t e:VR}(u:P.underlying t=Bs (.map kt e)) :
  ∃w' cnt,(Instr.range t (.map (Bs b))).run P w=.ok (ZW (Bs ⟨w.heap.size,0,B0⟩)) w'/\Ed C w' b w.heap.size n m (λx=>(m x).isSome) cnt/\Fr (λ_=>False) w w'/\w'.heap.size=w.heap.size+1:=by
 obtain⟨D,v,i⟩:=h;obtain⟨w',f,q,p,k⟩:=v.range C.law u;exact⟨w',_,f,⟨D,_,q,i,λx s=>(i x s).1⟩,Fr.b8 p (λ_ e=>by cases e),k⟩
open Classical in
def Ed.next(h:Ed C w b r n m left cnt)(G:VR) :
  (cnt=0/\(∀x,C.ok x->left x=L1)/\(Instr.next (ZW (Bs ⟨r,0,B0⟩)) L1 G).run P w=.ok (ZZ #[ZX L1]) w)\/
  ∃x v w' f,C.ok x/\left x=VD/\m x=Bs v/\(Instr.next (ZW (Bs ⟨r,0,B0⟩)) L1 G).run P w=.ok (ZZ #[ZX VD,C.val x,v]) w'/\
   Ed C w' b r n m (λy=>left y && !decide (y=x)) f/\f<cnt/\Fr (λk=>k=r) w w'/\w'.heap.size=w.heap.size/\(Instr.entry (ZW (Bs ⟨r,0,B0⟩))).run P w'=.ok (ZZ #[C.val x,v]) w':=by
 obtain⟨D,l,hr,X,hl⟩:=h;obtain⟨h0,F,W⟩|⟨H,v,Z,y,w',f,s,O,i,z,q,J,M,R,I,U⟩:=hr.next C.law G;exact eR ⟨h0,λx p=>by rw[<- hl x p,F],W⟩;obtain⟨x,p,rfl,rfl⟩:=C.inv H Z s;obtain⟨F,W⟩:=X x p;have E:y=(.held v,[]):=by unfold De at i;injection i with i;exact i.symm
 subst E;have hm:m x=Bs v:=by
  rw[has_true_of_atKey z]at F;obtain⟨u,Y⟩:=Option.isSome_iff_exists.1 F.symm;have:=(W u Y (.held v)).symm.trans (z (.held v));injection this with this;rw[Y,this]
 refine eS ⟨x,v,w',f,p,by rw[<- hl x p];exact O,hm,q,⟨D,_,J,X,λy E=>?_⟩,M,Ab.dH R,I,U⟩;rw[hl y E];by_cases e:y=x;subst e;rw[WideAt.sameKey_self (C.key E)];simp;rw[sameKey_ne (λe2=>e (C.inj _ _ e2))];simp[e]
end
section
variable {P:Xh}{kt:VR}{κ:Type}{C:Da P kt κ}{w:D0}{ops:Array XE}{rest:List XE}{o:XE}{a:Act}{Q:Exit->Act->D0->Prop}{K:Act->D0->Prop}{b n:Nat}{m:κ->Option S2}
def Hq(t e:VR)(F:P.underlying t=Bs (.map kt e))(s x v:Yi)(q:o.op=Op.mapUpdate t s x v)(H:a.eval s=.map (Bs b))(p:Ab C w b n m)(G:n<VY)(h:κ)(f:S2)(z:a.eval x=C.val h)(E:a.eval v=f)
  (I:C.ok h) (J:∀w',Ab C w' b (n+1) (AY m h (Bs f))->Fr (λk=>k=b) w w'->K (a.put o.dst Yl) w'):o.wp P a w K Q:=by
 obtain⟨w',i,y,u⟩:=p.store F G I f;unfold Yp;simp[Yr,q,H,z,E,i,W8];exact J _ y u
def U1(H:o.guard=B0)(t e:VR)(z:P.underlying t=Bs (.map kt e))(p x v:Yi)(q:o.op=Op.mapUpdate t p x v)(F:a.eval p=.map (Bs b))(i:Ab C w b n m)(E:n<VY)(f:κ)(h:S2)(u:a.eval x=C.val f)(y:a.eval v=h)
  (G:C.ok f) (I:∀w',Ab C w' b (n+1) (AY m f (Bs h))->Fr (λk=>k=b) w w'->Yk P ops Q rest (a.put o.dst Yl) w'):Yk P ops Q (o::rest) a w:=
 Yx H λ_ s=>Hq t e z p x v q F i E f h u y G λw' M J=>s _ _ (I w' M J)
def Vb(t e:VR)(y:P.underlying t=Bs (.map kt e))(q x:Yi)(p:o.op=Op.call {callee:=Callee.builtin Builtin.delete,args:=#[q,x],argTypes:=#[t,kt]})(z:a.eval q=.map (Bs b))(i:Ab C w b n m)(f:κ)(v:a.eval x=C.val f)
  (E:C.ok f) (F:∀w',Ab C w' b n (AY m f B0)->Fr (λk=>k=b) w w'->K (a.put o.dst (ZZ #[])) w'):o.wp P a w K Q:=by
 obtain⟨w',h,u,s⟩:=i.drop y E o.type;unfold Yp;simp[Yr,p,resolve,invoke,builtin,z,v,h,W8];exact F _ u s
def Jm(z:o.guard=B0)(t e:VR)(u:P.underlying t=Bs (.map kt e))(i x:Yi)(p:o.op=Op.call {callee:=Callee.builtin Builtin.delete,args:=#[i,x],argTypes:=#[t,kt]})(v:a.eval i=.map (Bs b))(h:Ab C w b n m)(f:κ)(s:a.eval x=C.val f)
  (y:C.ok f) (E:∀w',Ab C w' b n (AY m f B0)->Fr (λk=>k=b) w w'->Yk P ops Q rest (a.put o.dst (ZZ #[])) w'):Yk P ops Q (o::rest) a w:=
 Yx z λ_ q=>Vb t e u i x p v h f s y λw' G F=>q _ _ (E w' G F)
end
end
def enc(n:Nat):List Nat:=if n<128 then [n]else(n % 128+128)::enc (n / 128)
termination_by n
decreasing_by omega
def strOf(l:List Nat):ByteArray:=⟨(l.map UInt8.ofNat).toArray⟩
structure Pr where
 key:ByteArray
 val:ByteArray
 aR:Bool
structure Cm where
 aj:Int
 tx:Int
 ah:Int
 ae:List Pr
structure Ms where
 aj:Int
 ar:Int
 a8:Int
 ad:Int
 n:Int
 aY:Cm
def small(p:Pr):Prop:=p.key.size<=1048576/\p.val.size<=1048576
def Dj(p:Pr):List S2:=[ZV p.key,ZV p.val,ZX p.aR]
def K8:∀(l:List Pr)(j:Nat)(p:Pr),l[j]? = Bs p->(l.flatMap Dj)[j*3]? = Bs (ZV p.key)/\(l.flatMap Dj)[j*3+1]? = Bs (ZV p.val)/\(l.flatMap Dj)[j*3+2]? = Bs (ZX p.aR)
 |[],j,p,h=>by simp at h
 |q::l,0,p,h=>by
  simp at h;subst h;simp[Dj]
 |q::l,j+1,p,h=>by
  have f:l[j]? = Bs p:=Z6 h;obtain⟨a,b,c⟩:=K8 l j p f;have e:∀i,((q::l).flatMap Dj)[(j+1)*3+i]? = (l.flatMap Dj)[j*3+i]?:=λi=>by
   have:(j+1)*3+i=(j*3+i)+3:=by omega
   rw[this,VH];rw[Wg (by simp[Dj])];simp[Dj]
  exact⟨by simpa using (e 0).trans (Z6 a),(e 1).trans b,(e 2).trans c⟩
def Gr(w:D0)(B:Nat)(A:Option Xo)(n:Nat)(l:List Pr):Prop:=l.length=n/\Rd w B 3 A n (l.flatMap Dj)
def Gr.aN{w:D0}{l:List Pr}(h:Gr w B A n l)(q:k<n):∃g off p,A=Bs ⟨g,off,B0⟩/\g<B/\l[k]? = Bs p/\
  w.cell? ⟨g,off+k*3,B0⟩=Bs (ZV p.key)/\w.cell? ⟨g,off+k*3+1,B0⟩=Bs (ZV p.val)/\w.cell? ⟨g,off+k*3+2,B0⟩=Bs (ZX p.aR):=by
 obtain⟨g,off,e,s,f⟩:=h.2.2 Z0;have hl:k<l.length:=by rw[h.1];exact q
 have i:l[k]? = Bs l[k]:=K0 hl;obtain⟨a,b,c⟩:=K8 l k _ i;exact⟨g,off,l[k],e,s,i,f _ _ a,f _ _ b,f _ _ c⟩
def Gr.fr{S:Nat->Prop}{w w':D0}{B n:Nat}{A:Option Xo}{l:List Pr}(h:Gr w B A n l)(i:Fr S w w')(k:B<=w.heap.size)(f:∀g off,A=Bs ⟨g,off,B0⟩->0<n->¬S g):Gr w' B A n l:=⟨h.1,h.2.fr i k f⟩
def BF(m:Ms)(A:Option Xo)(n k:Nat):Array S2:=#[Wm eQ m.aj,Wm eQ m.ar,Wm eQ m.a8,Wm eQ m.ad,Wm eQ m.n,Wm eQ m.aY.aj,Wm eQ m.aY.tx,Wm eQ m.aY.ah,WK A n k]
def DD(m:Ms)(A:Option Xo)(n k:Nat):S2:=.agg #[Wm eQ m.aj,Wm eQ m.ar,Wm eQ m.a8,Wm eQ m.ad,Wm eQ m.n,Wm eQ m.aY.aj,Wm eQ m.aY.tx,Wm eQ m.aY.ah,WK A n k]
structure BI where
 c:Cm
 A:Option Xo
 n:Nat
 k:Nat
def El(x:BI):List S2:=[Wm eQ x.c.aj,Wm eQ x.c.tx,Wm eQ x.c.ah,WK x.A x.n x.k]
def flat4:∀(l:List BI)(j:Nat)(x:BI),l[j]? = Bs x->(l.flatMap El)[j*4]? = Bs (Wm eQ x.c.aj)/\(l.flatMap El)[j*4+1]? = Bs (Wm eQ x.c.tx)/\(l.flatMap El)[j*4+2]? = Bs (Wm eQ x.c.ah)/\(l.flatMap El)[j*4+3]? = Bs (WK x.A x.n x.k)
 |[],j,p,h=>by simp at h
 |q::l,0,p,h=>by
  simp at h;subst h;simp[El]
 |q::l,j+1,p,h=>by
  have f:l[j]? = Bs p:=Z6 h;obtain⟨a,b,c,d⟩:=flat4 l j p f;have e:∀i,((q::l).flatMap El)[(j+1)*4+i]? = (l.flatMap El)[j*4+i]?:=λi=>by
   have:(j+1)*4+i=(j*4+i)+4:=by omega
   rw[this,VH];rw[Wg (by simp[El])];simp[El]
  exact⟨by simpa using (e 0).trans (Z6 a),(e 1).trans b,(e 2).trans c,(e 3).trans d⟩
def AQ(l:List BI):List Cm:=l.map (·.c)
def MJ{w:D0}{base base' e size:Nat}(h:w.ownsRow base e size v n xs)(i:base'<=base):w.ownsRow base' e size v n xs:=
 ⟨h.1,h.2.imp id λ⟨g,cap,f,p,k,r⟩=>⟨g,cap,f,p,VK i k,r⟩⟩
structure Be where
 l:List Ms
 aq:Int->Bool
def CE(s:Be)(m:Ms):Bool:=s.aq m.ar || s.aq m.a8 || decide (s.l.length=200)
def AR(s:Be)(m:Ms):Be:=if CE s m then s else {s with l:=s.l++[m]}
def EW(s:Be)(ms:List Ms):Be:=ms.foldl AR s
def takeS(s:Be)(k:Nat):Be:={s with l:=s.l.eraseIdx k}
def gone(id:Int)(m:Ms):Bool:=decide (m.ar=id) || decide (m.a8=id)
def E7(s:Be)(id:Int):Be:=⟨s.l.filter (λm=>!gone id m),λi=>decide (i=id) || s.aq i⟩
def PQ(s:Be)(m:Ms)(h:s.l.length<=200):(AR s m).l.length<=200:=by unfold AR CE;split;exact h;rename_i f;simp only[X7,decide_eq_true_eq,not_or]at f;simp;omega
def qcc:∀(ms:List Ms)(s:Be),s.l.length<=200->(EW s ms).l.length<=200
 |[],_,h=>h
 |m::ms,s,h=>qcc ms (AR s m) (PQ s m h)
def q4v(s:Be)(m:Ms):(AR s m).aq=s.aq:=by unfold AR;split<;>rfl
def q38:∀(ms:List Ms)(s:Be),(EW s ms).aq=s.aq
 |[],_=>rfl
 |m::ms,s=>(q38 ms (AR s m)).trans (q4v s m)
def qa9(s:Be)(ms:List Ms)(m:Ms):EW s (ms++[m])=AR (EW s ms) m:=by simp[EW,List.foldl_append]
structure AW where
 m:Ms
 A:Option Xo
 n:Nat
 k:Nat
def CQ(x:AW):List S2:=(BF x.m x.A x.n x.k).toList
def q2w(x:AW):(CQ x).length=9:=rfl
def AI(l:List AW):List Ms:=l.map (·.m)
def N6(w:D0)(N:Nat->Prop)(A:Option Xo)(n:Nat)(l:List AW):Prop:=
 l.length=n/\Rd w w.heap.size 9 A n (l.flatMap CQ)/\(∀g off,A=Bs ⟨g,off,B0⟩->0<n->¬N g)/\
  ∀x∈l,Gr w w.heap.size x.A x.n x.m.aY.ae/\∀g off,x.A=Bs ⟨g,off,B0⟩->0<x.n->¬N g
def Et(w:D0)(base:Nat)(x:AW):Prop:=w.ownsRow base 45 3 (WK x.A x.n x.k) x.n (x.m.aY.ae.flatMap Dj)/\x.m.aY.ae.length=x.n
noncomputable abbrev BP:Da Tryz.prog 3 Int:=keyI Tryz.underlying3
def Bz(w:D0)(nd:Nat)(D:Option Nat)(dead:Int->Bool):Prop:=
 match D with
 |none=>∀i,dead i=L1
 |some b=>Ab BP w b nd (λi=>if dead i then Bs (ZX VD)else B0)
def LK(n:Nat)(x:AW):Prop:=∀b,Wa (WK x.A x.n x.k)=Bs b->n<=b
structure AO(w:D0)(base g off:Nat)(T:VR)(cs:Array S2)(V:S2)(D:Option Nat)(nd:Nat)(L:List AW)(dead:Int->Bool)(lost:Int):Prop where
 al:Ae w g T cs
 c0:cs[off]? = Bs V
 c1:cs[off+1]? = Bs (.map D)
 c2:cs[off+2]? = Bs (Wm eQ lost)
 row:w.ownsRow base 116 9 V L.length (L.flatMap CQ)
 own:∀x∈L,Et w base x
 down:Bz w nd D dead
 len:L.length<=200
 ne:T≠116/\T≠45
 bg:base<=w.heap.size
abbrev FB(i:Int):Prop:=(Lit.int eQ i).wf=VD
def Bz.cn{w:D0}{nd:Nat}{D:Option Nat}{dead:Int->Bool}(h:Bz w nd D dead){i:Int}(k:FB i):(XV 60 (.map D) (Wm eQ i) L1).run Tryz.prog w=.ok (ZX (dead i)) w:=by
 have f:(Yh 4).run Tryz.prog w=.ok (ZX L1) w:=by kernel_rfl
 unfold Bz at h;obtain _|b:=D;rw[h i];exact(Qz BP w Tryz.underlying60 f (x:=i) k).2;have:=(h.cn Tryz.underlying60 f (x:=i) k).2;rw[show BP.val i=Wm eQ i from rfl]at this;rw[this];cases dead i<;>rfl
def Bz.fr{S:Nat->Prop}{w w':D0}{nd:Nat}{D:Option Nat}{dead:Int->Bool}(h:Bz w nd D dead)(i:Fr S w w')(f:∀b,D=Bs b->¬S b):Bz w' nd D dead:=by unfold Bz at h ⊢;obtain _|b:=D;exact h;exact h.fr i (f b rfl)
def Bz.aV{w:D0}{nd g:Nat}{D:Option Nat}{dead:Int->Bool}{t:VR}{cs:Array S2}(h:Bz w nd D dead)(f:Ae w g t cs):D≠Bs g:=by rintro rfl;exact Ab.aV (C:=BP) h f rfl
def Bz.bn{w:D0}{nd base size k:Nat}{e:VR}{v:S2}{xs:List S2}{D:Option Nat}{dead:Int->Bool}(h:Bz w nd D dead)(f:w.ownsRow base e size v k xs){b:Nat}(i:D=Bs b):v.ownBlock≠Bs b:=by subst i;exact Ab.bn (C:=BP) h f
def Bz.lt{w:D0}{nd b:Nat}{dead:Int->Bool}(h:Bz w nd (Bs b) dead):b<w.heap.size:=Ab.lt (C:=BP) h
def flat9:∀(l:List AW)(j:Nat)(x:AW),l[j]? = Bs x->∀i,i<9->(l.flatMap CQ)[j*9+i]? = (CQ x)[i]?
 |[],j,p,h,i,f=>by simp at h
 |q::l,0,p,h,i,f=>by
  simp at h;subst h;rw[VH,VZ (by rw[q2w];omega)];simp
 |q::l,j+1,p,h,i,f=>by
  have k:l[j]? = Bs p:=Z6 h;have:(j+1)*9+i=(j*9+i)+9:=by omega
  rw[this,VH,Wg (by rw[q2w];omega),q2w,Xc];exact flat9 l j p k i f
def Cells9(w:D0)(g o:Nat)(x:AW):Prop:=
 w.cell? ⟨g,o,B0⟩=Bs (Wm eQ x.m.aj)/\w.cell? ⟨g,o+1,B0⟩=Bs (Wm eQ x.m.ar)/\w.cell? ⟨g,o+2,B0⟩=Bs (Wm eQ x.m.a8)/\w.cell? ⟨g,o+3,B0⟩=Bs (Wm eQ x.m.ad)/\w.cell? ⟨g,o+4,B0⟩=Bs (Wm eQ x.m.n)/\
  w.cell? ⟨g,o+5,B0⟩=Bs (Wm eQ x.m.aY.aj)/\w.cell? ⟨g,o+6,B0⟩=Bs (Wm eQ x.m.aY.tx)/\w.cell? ⟨g,o+7,B0⟩=Bs (Wm eQ x.m.aY.ah)/\w.cell? ⟨g,o+8,B0⟩=Bs (WK x.A x.n x.k)
def Rd.cO{w:D0}{l:List AW}(h:Rd w B 9 A n (l.flatMap CQ))(hl:l.length=n)(q:j<n):∃g off x,A=Bs ⟨g,off,B0⟩/\g<B/\l[j]? = Bs x/\Cells9 w g (off+j*9) x:=by obtain⟨g,off,e,p,i⟩:=h.2 Z0;have k:l[j]? = Bs l[j]:=K0 Z0;have f:=flat9 l j _ k;refine⟨g,off,l[j],e,p,k,?_,?_,?_,?_,?_,?_,?_,?_,?_⟩;exact i (j*9) _ (f 0 Z0);exact i (j*9+1) _ (f 1 Z0);exact i (j*9+2) _ (f 2 Z0);exact i (j*9+3) _ (f 3 Z0);exact i (j*9+4) _ (f 4 Z0);exact i (j*9+5) _ (f 5 Z0);exact i (j*9+6) _ (f 6 Z0);exact i (j*9+7) _ (f 7 Z0);exact i (j*9+8) _ (f 8 Z0)
def B7(g:Nat)(V:S2)(D:Option Nat)(k:Nat):Prop:=k=g\/Bs k=V.ownBlock\/Bs k=D
variable {ops:Array XE}{md:XP}
def Gp(i:Nat){k:XE}{fuel:Nat}{a:Act}{w:D0}(u:ops[i]? = Bs k)
  (hs:WR ops=VD) (y:Xr md ops f i=VD) (s:(Ws md ops f).contains i=VD)
  (z:∀c a w,Q (.panic c) (a.put k.dst v) w->Q (.panic c) a w) (q:Wu k (Xx ops a.tmps)=VD)
  (p:∀w,(Yr a.eval k).run P w=.ok (.value v) w)
  (h:wpAny P md ops Q fuel (f.setIfInBounds i VD) (a.put k.dst v) w):wpAny P md ops Q (fuel+1) f a w:=
 wpAny_take u hs y s z (eR ⟨q,p⟩) h
def ronly(i:Nat){o:XE}{fuel:Nat}{a:Act}{w:D0}(q:Ws md ops f=[i])(s:ops[i]? = Bs o)
  (p:Wu o (Xx ops a.tmps)=VD) (h:∀k:Act->D0->Prop,(∀a w,wpAny P md ops Q fuel (f.setIfInBounds i VD) a w->k a w)->Yp P o a w k Q):wpAny P md ops Q (fuel+1) f a w:=
 wpAny_ready q Z3 (AllReady.cons s (λk u=>by rw[Z8 p];exact h k u) AllReady.nil)
def MF{S:D0->Prop}(i:Nat){o:XE}{fuel:Nat}{a:Act}{w:D0}(q:Ws md ops f=[i])(s:ops[i]? = Bs o)
  (p:Wu o (Xx ops a.tmps)=VD) (h:∀k:Act->D0->Prop,(∀a w,S w->wpAnyH P md ops Q S fuel (f.setIfInBounds i VD) a w->k a w)->Yp P o a w k Q):wpAnyH P md ops Q S (fuel+1) f a w:=
 wpAnyH_all q Z3 (λj u=>by
  obtain rfl:j=i:=Z6 u;exact wpOp_step s (λk y=>by rw[Z8 p];exact h k (λa w hs v=>y a w ⟨hs,v⟩)))
def MG{S:D0->Prop}(i:Nat){k:XE}{fuel:Nat}{a:Act}{w:D0}(u:ops[i]? = Bs k)
  (hs:WR ops=VD) (y:Xr md ops f i=VD) (s:(Ws md ops f).contains i=VD)
  (E:∀c a w,Q (.panic c) (a.put k.dst v) w->Q (.panic c) a w) (q:Wu k (Xx ops a.tmps)=VD) (z:S w)
  (p:∀w,S w->(Yr a.eval k).run P w=.ok (.value v) w)
  (h:wpAnyH P md ops Q S fuel (f.setIfInBounds i VD) (a.put k.dst v) w):wpAnyH P md ops Q S (fuel+1) f a w:=
 wpAnyH_take u hs y s E (eR ⟨q,p⟩) z h
def SF(S:D0->Prop){fuel:Nat}{a:Act}{w:D0}(h:wpAnyH P md ops Q S fuel f a w):wpAny P md ops Q fuel f a w:=wpAny_of_held fuel f a w h
def MT:(Tryz.prog.info? 45).map (λi=>(i.zero,i.size,i.bytes))=Bs (Bs (.agg #[ZV ⟨#[]⟩,ZV ⟨#[]⟩,ZX L1]),3,40):=by kernel_rfl
def prs_one(l:List Pr):∀u∈l.flatMap Dj,u.oneCell'=VD:=λu h=>by
 obtain⟨p,_,f⟩:=ZK.1 h;unfold Dj at f;obtain rfl|f:=Ye.1 f;rfl;obtain rfl|f:=Ye.1 f;rfl;rw[VU.1 f];rfl
def qao(w:D0)(base:Nat)(e:VR)(size:Nat)(f:base<=w.heap.size):(w.alloc (eT #[] e)).ownsRow base e size (WK (Bs ⟨w.heap.size,0,B0⟩) 0 0) 0 []:=
 ⟨Z3,eS ⟨w.heap.size,0,#[],rfl,f,by simpa [Ae]using Ae.b4 w e #[],Hi _,VG _,Z3,Z3⟩⟩
def EX{w:D0}{base base' e size:Nat}{p:List S2}(h:w.ownsRow base e size v n xs)(F:w.ownsRow base' u i v' n' p)(q:e≠u){g:Nat}(s:v.ownBlock=Bs g):v'.ownBlock≠Bs g:=by
 intro k;obtain⟨rfl,_⟩|⟨H,cap,J,rfl,_,E,_⟩:=h.2;simp[Wa]at s;obtain⟨rfl,_⟩|⟨G,z,y,rfl,_,f,_⟩:=F.2;simp[Wa]at k;have e1:H=g:=by simpa [Wa]using s
 have I:G=g:=by simpa [Wa]using k
 subst e1;subst I;rw[E]at f;injection f with f;injection f with _ ht;exact q ht
def CI{w:D0}(h:VI B w w')(n:Nat):VI B w (w'.drewN n):=⟨h.os,h.tape,h.output,h.size,h.block⟩
def size_dN(w:D0)(n:Nat):(w.drewN n).heap.size=w.heap.size:=rfl
def Ef{w:D0}(h:VI B w w'):Fr (λk=>B<=k) w w':=⟨h.os,h.tape,h.output,h.size,λk _ f=>h.block k Z0⟩
def N8(base:Nat)(n:Nat)(l:List Pr)(w:D0)(e:WE)(w':D0):Prop:=
 ∃A k,e=ZY (WK A n k)/\w'.ownsRow base 45 3 (WK A n k) n (l.flatMap Dj)/\VI w.heap.size w w'
def qbk(base B n k:Nat)(A:Option Xo)(l:List Pr)(w:D0)(h:Gr w B A n l)(I:B<=w.heap.size)(G:base<=w.heap.size)(J:n<=100000)(z:A=B0->k=0) :
  VX Tryz.prog 78 #[WK A n k] w (N8 base n l w):=by
 have H:=LH h;clear h;obtain _|a:=A
 ·have s:=z rfl;subst s;have q:n=0:=by
   obtain u|u:=XX n;exact u;obtain⟨g,off,h,_⟩:=H.o.2.2 u;cases h
  subst q;have hl:l=[]:=We H.o.1;subst hl;have p:N8 base 0 [] w (ZY (WK B0 0 0)) w:=⟨B0,0,rfl,VW _ _ _ _,VC _ _⟩
  have v:=LH p;clear p H;have i:=X8 w 67 _ B0 0 0 0 0 Tryz.underlying67;go_enter Tryz.func78,Tryz.ntmps78;go_wp2_with fail;go_ret;exact v.o
 clear z;have i:=X8 w 67 _ (Bs a) n k 0 0 Tryz.underlying67;go_enter Tryz.func78,Tryz.ntmps78;go_wp2_with (at_builtin;refine stop ?_)
 refine CD ?_;have hs:VI w.heap.size w (w.alloc (eT #[] 45)):=(VC _ _).alloc (Hi _) _;refine q1o _ rfl (.tmp 5) (.tmp 6) 67 rfl base 45 _ 3 40 Tryz.underlying67 MT rfl Z2 _ 0 [] rfl (qao w base _ _ G) B _ n k (l.flatMap Dj) rfl ((H.o.2.below (hs.mono I)).bB) (prs_one l) Zx Z0 Zz ?_;intro v' w' f y;rw[Wk,WN]at f;obtain⟨E,c,rfl,_,_⟩:=AM f;have p:N8 base n l w (ZY (WK E n c)) w':=⟨E,c,rfl,f,hs.trans (y.below (λg F=>by have e:Bs w.heap.size=Bs g:=F;injection e with e;omega) Z3)⟩
 have v:=LH p;clear p f y hs;go_wp2_with fail;go_ret;exact v.o
variable {base e cap:Nat}
section
variable {size:Nat}
def q4b(h:w.ownsRow base e size (WK (Bs ⟨g,0,B0⟩) n cap) n xs):∃f:Array S2,base<=g/\w.heap[g]? = Bs (eT f e (0,0))/\n<=cap/\cap<=VY/\f.size=cap*size/\f.toList.take (n*size)=xs:=by obtain⟨h,_⟩|⟨y,u,f,h,s,v,k,q,p,i⟩:=h.2;cases h;simp only[YV,VN,Xe,and_true,true_and]at h;obtain⟨rfl,rfl⟩:=h;exact⟨f,s,v,k,q,p,i⟩
def q3w(h:w.ownsRow base e size (WK (Bs ⟨g,0,B0⟩) n cap) n xs):n<=cap/\cap<=VY:=by obtain⟨k,_,_,i,f,_⟩:=q4b h;exact⟨i,f⟩
def q5f(h:w.ownsRow base e size (WK (Bs ⟨g,0,B0⟩) n cap) n xs)(y:i<=n):w.ownsRow base e size (WK (Bs ⟨g,0,B0⟩) i cap) i (xs.take (i*size)):=by have v:i*size<=n*size:=WS _ y;obtain⟨s,q,z,u,p,k,f⟩:=q4b h;exact⟨by rw[WD,h.1];omega,eS ⟨g,cap,s,rfl,q,z,Z0,p,k,by rw[<- f,List.take_take,Nat.min_eq_left v]⟩⟩
def GG(h:w.ownsRow base e size (WK (Bs ⟨g,0,B0⟩) n cap) n xs)(u:n+1<=cap):∃v:List S2,v.length=size/\w.ownsRow base e size (WK (Bs ⟨g,0,B0⟩) (n+1) cap) (n+1) (xs++v):=by
 obtain⟨k,s,z,y,q,i,f⟩:=q4b h;have hl:(n+1)*size<=cap*size:=WS _ u;have p:(n+1)*size=n*size+size:=by rw[Xi,Nat.one_mul]
 refine⟨(k.toList.drop (n*size)).take size,by rw[WD,Xf,Wz,i];omega,?_,eS ⟨g,cap,k,rfl,s,z,u,q,i,?_⟩⟩;rw[VJ,h.1,WD,Xf,Wz,i];omega;rw[p,List.take_add,f]
def qdj(w:D0)(G I H h:VR)(k g o p z:Nat)(a:Xo)(f s:Nat)(q:Array S2)(t:VR)(cs:List S2)
  (J:P.underlying G=Bs (.slice h)) (hs:(P.info? h).map (·.size)=Bs k)
  (R:w.heap[g]? = Bs (eT q t (0,0))) (M:cs.length=Nat.min f p*k)
  (u:∀j v,cs[j]? = Bs v->w.cell? (a.add j)=Bs v) (y:o+cs.length<=q.size) (U:∀v∈cs,v.oneCell'=VD) :
  (Builtin.copy_ #[G,I] H #[WK (Bs ⟨g,o,B0⟩) p z,WK (Bs a) f s]).run P w =
   .ok (goInt (Nat.min f p)) (w.setRow g (q.toList.take o++cs++q.toList.drop (o+cs.length)).toArray):=by
 have hl:=run_loadCells_list (P:=P) w a cs u;have E:=run_storeCells_at P g o t cs 0 q w R (Z6 y) U;cases F:P.info? h with
 |none=>simp[F]at hs
 |some i=>
  have O:i.size=k:=by simpa [F]using hs
  rw[M]at hl;simp[Builtin.copy_,YH J,Builtin.lenOf,Yb,Zc,typeInfo,F,O,hl,E]
def UY(W Y p:VR)(hu:P.underlying W=Bs (.slice p))(hs:(P.info? p).map (·.size)=Bs size)
  (h:w.ownsRow base e size (WK (Bs ⟨g,0,B0⟩) n cap) n xs) {m:Nat} (M:i+m<=n) (y:List S2) (f:y.length=m*size) (a:Xo) (G:∀j v,y[j]? = Bs v->w.cell? (a.add j)=Bs v)
  (h1:∀v∈y,v.oneCell'=VD) (U dc J X:Nat) (s:Nat.min J U=m) :
  ∃w',(∀I,(Builtin.copy_ #[W,Y] I #[WK (Bs ⟨g,i*size,B0⟩) U dc,WK (Bs a) J X]).run P w=.ok (goInt m) w')/\
   w'.ownsRow base e size (WK (Bs ⟨g,0,B0⟩) n cap) n (xs.take (i*size)++y++xs.drop ((i+m)*size))/\Fr (λk=>k=g) w w':=by
 obtain⟨F,R,Z,H,O,E,z⟩:=q4b h;have e1:(i+m)*size<=n*size:=WS _ M;have e2:n*size<=cap*size:=WS _ H;have e3:(i+m)*size=i*size+m*size:=Xi _ _ _;have q:=λI=>qdj (P:=P) w W Y I p size g (i*size) U dc a J X F e y hu hs Z (by rw[s,f]) G (by rw[f,E];omega) h1
 simp only[s]at q;refine⟨_,q,⟨?_,eS ⟨g,cap,_,rfl,R,setRow_heap w g F _ e _ Z,H,O,?_,?_⟩⟩,⟨rfl,rfl,rfl,Z3,λk _ hk=>setRow_other w g k _ hk⟩⟩;rw[VJ,VJ,WD,Xf,h.1,f];omega;simp only[Xu,VJ,WD,Xf,Wz,f,E];omega;rw[<- z];simp only[];have u:(F.toList.take (i*size)++y).length=(i+m)*size:=by
  rw[VJ,WD,Wz,E,f];omega
 have hd:i*size+y.length=(i+m)*size:=by rw[f];omega
 rw[hd,List.take_append,u,VS (by rw[u];omega),List.take_take,Nat.min_eq_left Z0,List.drop_take]
def qce(t J:VR)(f:TypeInfo)(z:S2)(X Y:IntKind)(ht:P.underlying t=Bs (.slice e))(M:P.underlying J=Bs (.int Y))(hi:P.info? e=Bs f)(hz:f.zero=Bs z)(s:f.size=size)(i:z.cells.size=size)(BJ:0<size)
  (h:w.ownsRow base e size (WK (Bs ⟨g,0,B0⟩) n cap) n xs) (h0:0<k) (Z:cap<n+k) (E:n+k<=1000000) (W:f.bytes<=1000000) (a0:∀v∈xs,v.oneCell'=VD) (hb:base<=w.heap.size) :
  ∃c' w',(∀I,(XC #[t,J] I #[WK (Bs ⟨g,0,B0⟩) n cap,Wm X k]).run P w=.ok (WK (Bs ⟨w.heap.size,0,B0⟩) (n+k) c') w')/\
   w'.ownsRow base e size (WK (Bs ⟨w.heap.size,0,B0⟩) (n+k) c') (n+k) (xs++(WI z.cells k).toList)/\Fr (λ_=>False) w w'/\w'.heap.size=w.heap.size+1:=by
 obtain⟨H,a6,R,O,a5,a4,p⟩:=q4b h;have a1:n*size<=cap*size:=WS _ O;have y:(Yb f.size n (WK (Bs ⟨g,0,B0⟩) n cap)).run P w.drew=.ok xs.toArray w.drew:=by
  have:=run_loadCells_list (P:=P) w.drew ⟨g,0,B0⟩ xs (λj v q=>by
   have a3:j<xs.length:=(ZC.1 q).1;rw[WM,Wk];show w.cell? _=_;have h2:H[j]? = Bs v:=by
    rw[<- p]at q;rw[List.getElem?_take]at q;split at q;simpa using q;cases q
   exact(cell_of_row w g j H e (0,0) R).trans h2)
  rw[h.1]at this;unfold Yb;rw[s];exact this
 have G:(n+k)*f.bytes<=140737488355328:=by
  have:(n+k)*f.bytes<=1000000*1000000:=Nat.mul_le_mul E W;omega
 have a2:k*f.bytes<=(n+k)*f.bytes:=WS _ Z0;have u:=λI=>Lib.run_append_grow_zeros (P:=P) w t J I e f z X Y ht M hi hz (Bs ⟨g,0,B0⟩) n cap xs y k h0 (by rw[s];exact BJ) Z Z0 Z0 (growslice_fits Z G)
 have U:=grownCap_ge w (n+k) cap e;have F:grownCap w (n+k) cap e<=VY:=grownCap_le_maxLen w (n+k) cap e Zx;refine⟨_,_,u,⟨?_,eS ⟨w.heap.size,_,_,rfl,hb,heap_alloc_new w.drew _,U,F,?_,?_⟩⟩,(Fr.refl _ w).drew.alloc _,Z3⟩;rw[VJ,h.1,Wz,Xz,i,Xi];simp only[Array.size_append,Xu,Xz,i,h.1,<- Xi];congr 1;omega;have hl:(xs++(WI z.cells k).toList).length=(n+k)*size:=by rw[VJ,h.1,Wz,Xz,i,Xi]
 simp only[Array.toList_append];rw[<- hl];exact List.take_left
def JW(g k cap size:Nat):Option Xo:=if cap=k then Bs ⟨g,0,B0⟩else Bs ⟨g,k*size,B0⟩
def Mx(g k cap size:Nat):∃o,JW g k cap size=Bs ⟨g,o,B0⟩/\(k<cap->o=k*size):=by unfold JW;split;rename_i f;exact⟨0,rfl,λh=>Z0⟩;exact⟨_,rfl,λ_=>rfl⟩
def q5v(t:VR)(z:S2)(ht:P.underlying t=Bs (.slice e))(hv:∀w,(Yh e).run P w=.ok z w)(hz:z.cells.size=size)(J:∀u∈z.cells.toList,u.oneCell'=VD)
  (h:w.ownsRow base e size (WK (Bs ⟨g,0,B0⟩) n cap) n xs) {m c:Nat} (hm:n+m<=cap) :
  ∃w',(∀G,(YY #[t] G #[WK (JW g n cap size) m c]).run P w=.ok (ZZ #[]) w')/\w'.ownsRow base e size (WK (Bs ⟨g,0,B0⟩) n cap) n xs/\Fr (λk=>k=g) w w':=by
 obtain⟨o,ho,R⟩:=Mx g n cap size;rw[ho];obtain h0|h0:=XX m;subst h0;exact⟨w,λG=>by simp[YY,YH ht],h,Fr.refl _ _⟩;have O:=R Z0;subst O;obtain⟨F,_⟩|⟨g',a0,f,F,Z,hg,U,Y,X,p⟩:=h.2;cases F;simp only[YV,VN,Xe,and_true,true_and]at F;obtain⟨rfl,rfl⟩:=F;have v:(WI z.cells m).toList.length=m*size:=by rw[Wz,Xz,hz]
 have I:∀u∈(WI z.cells m).toList,u.oneCell'=VD:=λu M=>by
  obtain⟨i,hi,M⟩:=Za M;have H:0<z.cells.size:=by
   obtain h|h:=XX z.cells.size;rw[v,<- hz,h]at hi;omega;exact h
  refine J u ?_;rw[<- M];simp[WI];have W:i % z.cells.size<z.cells.size:=Nat.mod_lt _ H;simp[W]
 have s:n*size+(WI z.cells m).toList.length<=f.size:=by rw[v,X,<- Xi];exact WS _ hm
 have y:=run_storeCells_at (P:=P) g (n*size) e (WI z.cells m).toList 0 f w hg (Z6 s) I;simp only[Nat.add_zero]at y;obtain⟨E,rfl⟩:∃E,m=E+1:=⟨m-1,Z0⟩
 refine⟨w.setRow g (f.toList.take (n*size)++(WI z.cells (E+1)).toList++f.toList.drop (n*size+(WI z.cells (E+1)).toList.length)).toArray,?_,⟨h.1,eS ⟨g,cap,_,rfl,Z,setRow_heap w g f _ e _ hg,U,Y,?_,?_⟩⟩,⟨rfl,rfl,rfl,Z3,λk _ hk=>setRow_other w g k _ hk⟩⟩;intro G;simp[YY,YH ht,hv,y];simp only[Xu,VJ,WD,Xf,Wz];simp only[Wz]at s;omega;have q:(f.toList.take (n*size)).length=n*size:=by rw[p,h.1]
 rw[XM,Wv (by rw[q];omega),VS (by rw[q];omega),p]
def q5u(T:VR)(f:P.underlying T=Bs (.slice (P.elem T)))(hs:∀w,(Zc (P.elem T)).run P w=.ok size w)(w:D0)(g n c v:Nat)(h:Int)(i:h=v)(k:v<=n) :
  (YJ T (WK (Bs ⟨g,0,B0⟩) n c) (Bs (Wm eQ h)) B0 B0).run P w=.ok (WK (JW g v c size) (n-v) (c-v)) w:=by
 subst i;rw[run_slice_l w T _ n c f eQ (v:Int) Z0 Z0,hs];simp only[W8,sliced,XO,JW];congr 2;split<;>simp[WM]
def RF(T:VR)(i:P.underlying T=Bs (.slice e))(f:P.elem T=e)(hs:∀w,(Zc e).run P w=.ok size w)(w:D0)(g n c v:Nat)(h:Int)(k:h=v)(p:v<=n)(q:v<c) :
  (YJ T (WK (Bs ⟨g,0,B0⟩) n c) (Bs (Wm eQ h)) B0 B0).run P w=.ok (WK (Bs ⟨g,v*size,B0⟩) (n-v) (c-v)) w:=by
 subst k;subst f;rw[run_slice_l w T _ n c i eQ (v:Int) Z0 Z0,hs];simp only[W8,sliced,XO];rw[Z7 Z0];simp[WM]
def q1k(T:VR)(h:P.underlying T=Bs (.slice e))(f:P.elem T=e)(hs:∀w,(Zc e).run P w=.ok size w)(w:D0)(A:Option Xo)(n c v:Nat)(i:v<=n) :
  ∃r,(YJ T (WK A n c) (Bs (Wm eQ (v:Int))) B0 B0).run P w=.ok r w:=by
 subst f;rw[run_slice_l w T _ n c h eQ (v:Int) Z0 Z0,hs];exact⟨_,rfl⟩
def q47(T:VR)(i:P.underlying T=Bs (.slice e))(f:P.elem T=e)(hs:∀w,(Zc e).run P w=.ok size w)(w:D0)(g n c v:Nat)(h:Int)(k:h=v)(p:v<=c) :
  (YJ T (WK (Bs ⟨g,0,B0⟩) n c) B0 (Bs (Wm eQ h)) B0).run P w=.ok (WK (Bs ⟨g,0,B0⟩) v c) w:=by
 subst k;subst f;rw[run_slice_h w T _ n c i eQ (v:Int) Z0 Z0,hs];simp only[W8,sliced,XO,Zp,Nat.sub_zero];congr 2;split<;>simp[Addr.add]
end
variable {rest:List XE}{a:Act}
section
variable {o:XE}
def qbo(s x:Yi)(t t':VR)(k:o.op=.call {callee:=.builtin .append,args:=#[s,x],argTypes:=#[t,t']})(v u r:S2)(hs:a.eval s=v)(i:a.eval x=u)
  (f:(XC #[t,t'] o.type #[v,u]).run P w=.ok r w') (h:K (a.put o.dst r) w'):o.wp P a w K Q:=by
 unfold Yp Yr;simp only[k,resolve,invoke,builtin,Sem.run_bind,Sem.run_pure,Zv,List.map_toArray,WJ,XT,hs,i,f];exact h
def q2c(i:o.guard=B0)(s x:Yi)(t t':VR)(p:o.op=.call {callee:=.builtin .append,args:=#[s,x],argTypes:=#[t,t']})(v u r:S2)(hs:a.eval s=v)(k:a.eval x=u)
  (f:(XC #[t,t'] o.type #[v,u]).run P w=.ok r w') (h:Yk P ops Q rest (a.put o.dst r) w'):Yk P ops Q (o::rest) a w:=
 Yx i λ_ q=>qbo s x t t' p v u r hs k f (q _ _ h)
def q2y(d s:Yi)(t t':VR)(i:o.op=.call {callee:=.builtin .copy,args:=#[d,s],argTypes:=#[t,t']})(v u r:S2)(k:a.eval d=v)(hs:a.eval s=u)
  (f:(Builtin.copy_ #[t,t'] o.type #[v,u]).run P w=.ok r w') (h:K (a.put o.dst r) w'):o.wp P a w K Q:=by
 unfold Yp Yr;simp only[i,resolve,invoke,builtin,Sem.run_bind,Sem.run_pure,Zv,List.map_toArray,WJ,XT,k,hs,f];exact h
def q25(i:o.guard=B0)(d s:Yi)(t t':VR)(k:o.op=.call {callee:=.builtin .copy,args:=#[d,s],argTypes:=#[t,t']})(v u r:S2)(p:a.eval d=v)(hs:a.eval s=u)
  (f:(Builtin.copy_ #[t,t'] o.type #[v,u]).run P w=.ok r w') (h:Yk P ops Q rest (a.put o.dst r) w'):Yk P ops Q (o::rest) a w:=
 Yx i λ_ q=>q2y d s t t' k v u r p hs f (q _ _ h)
end
def Cq(size i:Nat)(f xs:List S2):List S2:=xs.take (i*size)++f++xs.drop (i*size)
def qaj{size:Nat}{p:List S2}(hl:xs.length=n*size)(q:i<n)(k:h.length=size) :
  (((xs++h).take ((i+1)*size)++xs.drop (i*size)++(xs++h).drop ((i+1+(n-i))*size)).take (i*size)++p++((xs++h).take ((i+1)*size)++xs.drop (i*size)++(xs++h).drop ((i+1+(n-i))*size)).drop ((i+1)*size))=Cq size i p xs:=by
 have e1:(i+1)*size=i*size+size:=by rw[Xi,Nat.one_mul]
 have y:(i+1)*size<=n*size:=WS _ q;have v:(i+1+(n-i))*size=n*size+size:=by rw[show i+1+(n-i)=n+1 by omega,Xi,Nat.one_mul]
 have u:(xs++h).take ((i+1)*size)=xs.take ((i+1)*size):=by rw[Wv Z0]
 have s:(xs++h).drop ((i+1+(n-i))*size)=[]:=List.drop_eq_nil_of_le (by rw[VJ,hl,k,v];omega);have f:(xs.take ((i+1)*size)).length=(i+1)*size:=by rw[WD,hl];omega
 rw[u,s,WB,Wv (by rw[f];omega),List.take_take,Nat.min_eq_left Z0,List.drop_append_of_le_length (by rw[f];omega),Yj (by rw[f];omega)];rfl
def q8n{size:Nat}{f:List S2}(hl:xs.length=n*size)(u:i<=n)(q:f.length=(n+1-i)*size)(s:h.length=size) :
  ((((xs.take (i*size)++f).take (i*size)++h++(xs.take (i*size)++f).drop ((i+1)*size)).take ((i+1)*size))++xs.drop (i*size)++((xs.take (i*size)++f).take (i*size)++h++(xs.take (i*size)++f).drop ((i+1)*size)).drop ((i+1+(n-i))*size))=Cq size i h xs:=by
 have e1:(i+1)*size=i*size+size:=by rw[Xi,Nat.one_mul]
 have G:i*size<=n*size:=WS _ u;have F:(i+1+(n-i))*size=n*size+size:=by rw[show i+1+(n-i)=n+1 by omega,Xi,Nat.one_mul]
 have E:(n+1-i)*size=n*size+size-i*size:=by rw[YW,Xi,Nat.one_mul]
 have k:(xs.take (i*size)).length=i*size:=by rw[WD,hl];omega
 have z:(xs.take (i*size)++f).take (i*size)=xs.take (i*size):=by rw[Wv Z0,VS Z0]
 rw[z];have p:(xs.take (i*size)++h).length=(i+1)*size:=by rw[VJ,k,s];omega
 have y:((xs.take (i*size)++h++(xs.take (i*size)++f).drop ((i+1)*size)).take ((i+1)*size))=xs.take (i*size)++h:=by
  rw[Wv Z0,VS Z0]
 have v:(xs.take (i*size)++h++(xs.take (i*size)++f).drop ((i+1)*size)).drop ((i+1+(n-i))*size)=[]:=by
  refine List.drop_eq_nil_of_le ?_;rw[VJ,p,Xf,VJ,k,q];omega
 rw[y,v,WB];rfl
variable {N:Nat}
section
variable {C:D0->Prop}
def Ci(P:Xh)(md:XP)(ops:Array XE)(Q:Exit->Act->D0->Prop)(N:Nat)(C:D0->Prop):Nat->Array Bool->Act->D0->Prop
 |0,f,a,w=>Ws md ops f=[]/\Q .normal a w
 |fuel+1,f,a,w=>
  (Ws md ops f=[]->Q .normal a w)/\
  ∀i∈Ws md ops f,wpOp P ops Q i (λh w'=>(i<N->C w')/\Ci P md ops Q N C fuel (f.setIfInBounds i VD) h w') a w
def qbr:∀(fuel:Nat)(f:Array Bool)(a:Act)(w:D0),Ci P md ops Q N C fuel f a w->wpAny P md ops Q fuel f a w
 |0,_,_,_,h=>h
 |fuel+1,_,_,_,h=>⟨h.1,λi k=>wpOp_mono (λq w' p=>qbr fuel _ q w' p.2) (h.2 i k)⟩
def Dv(md:XP)(ops:Array XE)(f:Array Bool)(i N:Nat):Bool:=
 (Ww ops.size).all λj=>j == i || f.getD j VD || decide (j<N) || (match ops[j]? with|some o=>o.after.any λe=>XD md e && e.on == i|none=>VD)
def qco(h:Dv md ops f i N=VD):∀j p,ops[j]? = Bs p->j≠i->f.getD j VD=L1->(∀e∈p.after,XD md e=VD->e.on≠i)->j<N:=λj p y u hl q=>by
 have s:j<ops.size:=(ZP.1 y).1;have k:=List.all_eq_true.1 h j (ZH.2 s);rw[y]at k;simp only[X7,beq_iff_eq,decide_eq_true_eq]at k;obtain ((k|k)|k)|k:=k;exact ZB k u;rw[hl]at k;cases k;exact k;obtain⟨e,z,v⟩:=Array.any_eq_true'.1 k;simp only[Wl,beq_iff_eq]at v;exact ZB v.2 (q e z v.1)
def q8x(hi:ops[i]? = Bs E)(u:∀(j:Nat) (o:XE) cs b,ops[j]? = Bs o->o.op≠.select cs b)
  (hQ:∀c a w,Q (.panic c) (a.put E.dst v) w->Q (.panic c) a w) :
  ∀(fuel:Nat)(f:Array Bool)(a:Act)(w:D0),
   (∀j z,ops[j]? = Bs z->j≠i->f.getD j VD=L1->(∀e∈z.after,XD md e=VD->e.on≠i)->E.apart ops z=VD/\j<N)->
   i∈Ws md ops f->YieldsIf P ops C E v a->C w->
   Ci P md ops Q N C fuel (f.setIfInBounds i VD) (a.put E.dst v) w->Ci P md ops Q N C (fuel+1) f a w:=by
 intro fuel;induction fuel with
 |zero=>
  intro f a w _ F W U H;refine⟨λh=>(by rw[h]at F;cases F),λj X=>?_⟩;by_cases p:j=i
  ·subst p;exact W.wpOp hi U ⟨λ_=>U,H⟩
  have:=ready_mono X p;rw[H.1]at this;cases this
 |succ fuel ih=>
  intro f a w q F W U H;refine⟨λh=>(by rw[h]at F;cases F),λj X=>?_⟩;by_cases p:j=i
  ·subst p;exact W.wpOp hi U ⟨λ_=>U,H⟩
  have I:=H.2 j (ready_mono X p);obtain⟨y,z,G,R⟩:=mem_ready.1 X;have M:∀e∈z.after,XD md e=VD->e.on≠i:=λe he hb a2=>by
   have I:=R e he hb;have h0:=(mem_ready.1 F).1;rw[a2]at I;obtain h'|h':=Xd i f.size;simp[h']at h0 I;rw[h0]at I;cases I;simp[Xa h']at I
  obtain⟨a3,a1⟩:=q j z G p y M;have h2:=wpOp_putIf G a3 (λcs b=>u i E cs b hi) (λcs b=>u j z cs b G) hQ W I;have s:∀k ok,ops[k]? = Bs ok->k≠i->(f.setIfInBounds j VD).getD k VD=L1->
    (∀e∈ok.after,XD md e=VD->e.on≠i)->E.apart ops ok=VD/\k<N:=λk ok hk a0 J Z=>by
   refine q k ok hk a0 ?_ Z;by_cases O:j=k;subst O;exact y;rw[getD_set_ne VD O]at J;exact J
  refine wpOp_mono (λa' w' Y=>⟨Y.2.1,ih (f.setIfInBounds j VD) a' w' s (ready_mono F (Ne.symm p)) Y.1 (Y.2.1 a1) ?_⟩) h2;rw[Array.setIfInBounds_comm _ _ p];exact Y.2.2
def Td(i:Nat){k:XE}{fuel:Nat}{a:Act}{w:D0}(z:ops[i]? = Bs k)
  (hs:WR ops=VD) (H:Xr md ops f i=VD) (hl:Dv md ops f i N=VD) (G:(Ws md ops f).contains i=VD)
  (I:∀c a w,Q (.panic c) (a.put k.dst v) w->Q (.panic c) a w) (F:Wu k (Xx ops a.tmps)=VD) (J:C w)
  (E:∀w,C w->(Yr a.eval k).run P w=.ok (.value v) w)
  (h:Ci P md ops Q N C fuel (f.setIfInBounds i VD) (a.put k.dst v) w):Ci P md ops Q N C (fuel+1) f a w:=
 q8x z (Region.noSelect_spec hs) I fuel f a w (λj u y s q p=>⟨Region.free_spec z H j u y s q p,qco hl j u y s q p⟩) (Z6 G) (eR ⟨F,E⟩) J h
def Cr(i:Nat){s:XE}{fuel:Nat}{a:Act}{w:D0}(y:ops[i]? = Bs s)
  (hs:WR ops=VD) (F:Xr md ops f i=VD) (hl:Dv md ops f i N=VD) (E:(Ws md ops f).contains i=VD)
  (G:∀c a w,Q (.panic c) (a.put s.dst Yl) w->Q (.panic c) a w) (z:Wu s (Xx ops a.tmps)=L1) (H:C w)
  (h:Ci P md ops Q N C fuel (f.setIfInBounds i VD) (a.put s.dst Yl) w):Ci P md ops Q N C (fuel+1) f a w:=
 q8x y (Region.noSelect_spec hs) G fuel f a w (λj u v q p k=>⟨Region.free_spec y F j u v q p k,qco hl j u v q p k⟩) (Z6 E) (eS ⟨z,rfl⟩) H h
def nonly(i:Nat){o:XE}{fuel:Nat}{a:Act}{w:D0}(p:Ws md ops f=[i])(v:ops[i]? = Bs o)
  (u:Wu o (Xx ops a.tmps)=VD) (h:∀k:Act->D0->Prop,(∀a w,(i<N->C w)->Ci P md ops Q N C fuel (f.setIfInBounds i VD) a w->k a w)->Yp P o a w k Q):Ci P md ops Q N C (fuel+1) f a w:=
 ⟨(λs=>by rw[p]at s;cases s),λj q=>by
  rw[p]at q;obtain rfl:j=i:=Z6 q;exact wpOp_step v (λk z=>by rw[Z8 u];exact h k (λa w hs y=>z a w ⟨hs,y⟩))⟩
def ndone{a:Act}{w:D0}(i:Ws md ops f=[])(h:Q .normal a w):∀fuel,Ci P md ops Q N C fuel f a w
 |0=>⟨i,h⟩
 |_+1=>⟨λ_=>h,by rw[i];simp⟩
def UQ{fuel:Nat}{a:Act}{w:D0}(C:D0->Prop)(N:Nat)(h:Ci P md ops Q N C fuel f a w):wpAny P md ops Q fuel f a w:=qbr fuel f a w h
def nC(i:Nat){k:XE}{fuel:Nat}{a:Act}{w:D0}(u:ops[i]? = Bs k)
  (z:∀c a w,Q (.panic c) (a.put k.dst v) w->Q (.panic c) a w) (E:C w) (p:∀w,C w->(Yr a.eval k).run P w=.ok (.value v) w)
  (h:Ci P md ops Q N C fuel (f.setIfInBounds i VD) (a.put k.dst v) w)
  (hs:WR ops=VD:=by kernel_rfl) (y:Xr md ops f i=VD:=by kernel_rfl) (hl:Dv md ops f i N=VD:=by kernel_rfl) (s:(Ws md ops f).contains i=VD:=by kernel_rfl)
  (q:Wu k (Xx ops a.tmps)=VD:=by kernel_rfl):Ci P md ops Q N C (fuel+1) f a w:=Td i u hs y hl s z q E p h
def nO(i:Nat){o:XE}{fuel:Nat}{a:Act}{w:D0}(s:ops[i]? = Bs o)
  (h:∀k:Act->D0->Prop,(∀a w,(i<N->C w)->Ci P md ops Q N C fuel (f.setIfInBounds i VD) a w->k a w)->Yp P o a w k Q) (q:Ws md ops f=[i]:=by kernel_rfl) (p:Wu o (Xx ops a.tmps)=VD:=by kernel_rfl) :
  Ci P md ops Q N C (fuel+1) f a w:=nonly i q s p h
end
def CR{md:XP}{ops:Array XE}{fuel:Nat}{a:Act}{w:D0}(C:D0->Prop)(N:Nat)(i:∀c a (d:Nat) (v:S2) w,Q (.panic c) (Xq a (Bs d) v) w->Q (.panic c) a w)
  (h:(∀c a (d:Nat) (v:S2) w,Q (.panic c) (Xq a (Bs d) v) w->Q (.panic c) a w)->Ci P md ops Q N C fuel f a w):wpAny P md ops Q fuel f a w:=UQ C N (h i)
def SX(w:D0)(H:Nat)(hH:w.heap.size=H)(U:Obj){o:XE}{a:Act}(s x:Yi)(t:VR)
  (ho:o.op=.call {callee:=.builtin .append,args:=#[s,x],argTypes:=#[t,t]})
  (base:Nat) (e:VR) (z:S2) (size f:Nat) (Z:P.underlying t=Bs (.slice e)) (I:(P.info? e).map (λi=>(i.zero,i.size,i.bytes))=Bs (Bs z,size,f)) (F:z.cells.size=size) (BJ:0<size)
  (v:S2) (n:Nat) (xs:List S2) (p:Array S2) (hs:a.eval s=v) (E:w.ownsRow base e size v n xs)
  (c:Nat) (Y:a.eval x=WK (Bs ⟨H,0,B0⟩) 1 c) (e1:VR) (G:U=eT p e1) (X:p.size=size) (h1:∀u∈p.toList,u.oneCell'=VD)
  (R:n+1<=VY) (k:(n+1)*f<=140737488355328) (M:base<=w.heap.size)
  (h:∀v' w',w'.ownsRow base e size v' (n+1) (xs++p.toList)->Am w w' v.ownBlock v'.ownBlock->K (a.put o.dst v') w') :
  o.wp P a (w.alloc U) K Q:=by
 obtain⟨i,I,W,q,J⟩:=YM I;subst G hH;have hr:Eb (w.alloc (eT p e1)) (w.heap.size+1) size (Bs ⟨w.heap.size,0,B0⟩) 1 p.toList:=(Rd.lit w p e1 1 size Z0).bB;exact q57 _ s x t ho base e i z size f Z I W q J F BJ v n xs hs (E.alloc _) (w.heap.size+1) _ 1 c p.toList Y hr h1 R k Zz
  λv' w' y hg O=>h v' w' y ((Am.alloc w _ _).trans (Am.cj hg O))
section
variable {C:D0->Prop}
def qbl(md:XP)(ops:Array XE)(f:Array Bool)(i:Nat)(D:List Nat):Bool:=
 D.all λk=>!(k == i) && (f.getD k VD == L1) && (match ops[k]? with|some o=>o.after.any λe=>XD md e && (e.on == i || D.contains e.on)|none=>L1)
def KE(md:XP)(ops:Array XE)(f:Array Bool)(i N:Nat)(D:List Nat):Bool:=
 (Ww ops.size).all λj=>j == i || f.getD j VD || decide (j<N) || D.contains j || (match ops[j]? with|some o=>o.after.any λe=>XD md e && e.on == i|none=>VD)
def Nh{D:List Nat}(h:KE md ops f i N D=VD):∀j p,ops[j]? = Bs p->j≠i->f.getD j VD=L1->(∀e∈p.after,XD md e=VD->e.on≠i)->j ∉ D->j<N:=λj p y u hl q E=>by
 have s:j<ops.size:=(ZP.1 y).1;have k:=List.all_eq_true.1 h j (ZH.2 s);rw[y]at k;simp only[X7,beq_iff_eq,decide_eq_true_eq]at k;obtain (((k|k)|k)|k)|k:=k;exact ZB k u;rw[hl]at k;cases k;exact k;exact ZB (Z6 k) E;obtain⟨e,z,v⟩:=Array.any_eq_true'.1 k;simp only[Wl,beq_iff_eq]at v;exact ZB v.2 (q e z v.1)
def q7d{D:List Nat}(h:qbl md ops f i D=VD):∀k∈D,k≠i/\f.getD k VD=L1/\∃o,ops[k]? = Bs o/\∃e∈o.after,XD md e=VD/\(e.on=i\/e.on∈D):=λk v=>by
 have s:=List.all_eq_true.1 h k v;simp only[Wl,beq_iff_eq,XQ,beq_eq_false_iff_ne]at s;obtain⟨⟨E,z⟩,q⟩:=s;refine⟨E,z,?_⟩;split at q;rename_i o u;obtain⟨e,y,p⟩:=Array.any_eq_true'.1 q;simp only[Wl,X7,beq_iff_eq]at p;exact⟨o,u,e,y,p.1,p.2.imp id (λh=>Z6 h)⟩;cases q
def qd1(D:List Nat)(hi:ops[i]? = Bs I)(E:∀(j:Nat) (o:XE) cs b,ops[j]? = Bs o->o.op≠.select cs b)
  (hQ:∀c a w,Q (.panic c) (a.put I.dst v) w->Q (.panic c) a w) (a5:∀k∈D,∃o,ops[k]? = Bs o/\∃e∈o.after,XD md e=VD/\(e.on=i\/e.on∈D)) :
  ∀(fuel:Nat)(f:Array Bool)(a:Act)(w:D0),
   (∀j z,ops[j]? = Bs z->j≠i->f.getD j VD=L1->(∀e∈z.after,XD md e=VD->e.on≠i)->I.apart ops z=VD/\(j ∉ D->j<N))->
   (∀k∈D,k≠i/\f.getD k VD=L1)->
   i∈Ws md ops f->YieldsIf P ops C I v a->C w->
   Ci P md ops Q N C fuel (f.setIfInBounds i VD) (a.put I.dst v) w->Ci P md ops Q N C (fuel+1) f a w:=by
 intro fuel;induction fuel with
 |zero=>
  intro f a w _ _ J hy Y H;refine⟨λh=>(by rw[h]at J;cases J),λj hj=>?_⟩;by_cases p:j=i
  ·subst p;exact hy.wpOp hi Y ⟨λ_=>Y,H⟩
  have:=ready_mono hj p;rw[H.1]at this;cases this
 |succ fuel ih=>
  intro f a w s M J hy Y H;refine⟨λh=>(by rw[h]at J;cases J),λj hj=>?_⟩;by_cases p:j=i
  ·subst p;exact hy.wpOp hi Y ⟨λ_=>Y,H⟩
  have O:=H.2 j (ready_mono hj p);obtain⟨G,z,u,X⟩:=mem_ready.1 hj;have q:∀x,f.getD x VD=L1->∀e∈z.after,XD md e=VD->e.on≠x:=λx h0 e he hb a3=>by
   have O:=X e he hb;rw[a3]at O;obtain h'|h':=Xd x f.size;simp[h']at h0 O;rw[h0]at O;cases O;simp[Xa h']at O
  have F:∀e∈z.after,XD md e=VD->e.on≠i:=q i (mem_ready.1 J).1;have W:j ∉ D:=λhD=>by
   obtain⟨o,ho,e,he,hb,h⟩:=a5 j hD;rw[u]at ho;obtain rfl:=Wn ho;obtain h|h:=h;exact F e he hb h;exact q _ (M _ h).2 e he hb rfl
  obtain⟨a4,a2⟩:=s j z u p G F;have h2:=wpOp_putIf u a4 (λcs b=>E i I cs b hi) (λcs b=>E j z cs b u) hQ hy O;have y:∀k ok,ops[k]? = Bs ok->k≠i->(f.setIfInBounds j VD).getD k VD=L1->
    (∀e∈ok.after,XD md e=VD->e.on≠i)->I.apart ops ok=VD/\(k ∉ D->k<N):=λk ok R a1 q a0=>by
   refine s k ok R a1 ?_ a0;by_cases U:j=k;subst U;exact G;rw[getD_set_ne VD U]at q;exact q
  have Z:∀k∈D,k≠i/\(f.setIfInBounds j VD).getD k VD=L1:=λk R=>by
   refine⟨(M k R).1,?_⟩;rw[getD_set_ne VD (λe:j=k=>W (e▸R))];exact(M k R).2
  refine wpOp_mono (λa' w' h3=>⟨h3.2.1,ih (f.setIfInBounds j VD) a' w' y Z (ready_mono J (Ne.symm p)) h3.1 (h3.2.1 (a2 W)) ?_⟩) h2;rw[Array.setIfInBounds_comm _ _ p];exact h3.2.2
def ntakeD(i:Nat)(D:List Nat){p:XE}{fuel:Nat}{a:Act}{w:D0}(G:ops[i]? = Bs p)
  (hs:WR ops=VD) (M:Xr md ops f i=VD) (z:qbl md ops f i D=VD) (hl:KE md ops f i N D=VD) (J:(Ws md ops f).contains i=VD)
  (O:∀c a w,Q (.panic c) (a.put p.dst v) w->Q (.panic c) a w) (I:Wu p (Xx ops a.tmps)=VD) (R:C w)
  (H:∀w,C w->(Yr a.eval p).run P w=.ok (.value v) w)
  (h:Ci P md ops Q N C fuel (f.setIfInBounds i VD) (a.put p.dst v) w):Ci P md ops Q N C (fuel+1) f a w:=
 qd1 D G (Region.noSelect_spec hs) O (λk y=>(q7d z k y).2.2) fuel f a w (λj E F u s q=>⟨Region.free_spec G M j E F u s q,Nh hl j E F u s q⟩)
  (λk y=>⟨(q7d z k y).1,(q7d z k y).2.1⟩) (Z6 J) (eR ⟨I,H⟩) R h
end
section
variable {C:D0->Prop}
def Tc(i:Nat){d:Nat}{k:XE}{fuel:Nat}{a:Act}{w:D0}(y:ops[i]? = Bs k)(p:k.dst=Bs d)
  (hs:WR ops=VD) (z:Xr md ops f i=VD) (hl:Dv md ops f i N=VD) (u:(Ws md ops f).contains i=VD)
  (E:∀c a w,Q (.panic c) (Xq a (Bs d) v) w->Q (.panic c) a w) (s:Wu k (Xx ops a.tmps)=VD) (F:C w)
  (q:∀w,C w->(Yr a.eval k).run P w=.ok (.value v) w)
  (h:Ci P md ops Q N C fuel (f.setIfInBounds i VD) (a.put (Bs d) v) w):Ci P md ops Q N C (fuel+1) f a w:=
 Td i y hs z hl u (by rw[p];exact E) s F q (by rw[p];exact h)
def Te(i:Nat){d:Nat}{k:XE}{fuel:Nat}{a:Act}{w:D0}(u:ops[i]? = Bs k)(p:k.dst=Bs d)
  (hs:WR ops=VD) (v:Xr md ops f i=VD) (hl:Dv md ops f i N=VD) (s:(Ws md ops f).contains i=VD)
  (y:∀c a w,Q (.panic c) (Xq a (Bs d) Yl) w->Q (.panic c) a w) (q:Wu k (Xx ops a.tmps)=L1) (z:C w)
  (h:Ci P md ops Q N C fuel (f.setIfInBounds i VD) (a.put (Bs d) Yl) w):Ci P md ops Q N C (fuel+1) f a w:=
 Cr i u hs v hl s (by rw[p];exact y) q z (by rw[p];exact h)
def OB(i:Nat)(D:List Nat){d:Nat}{k:XE}{fuel:Nat}{a:Act}{w:D0}(y:ops[i]? = Bs k)(p:k.dst=Bs d)
  (hs:WR ops=VD) (z:Xr md ops f i=VD) (E:qbl md ops f i D=VD) (hl:KE md ops f i N D=VD) (u:(Ws md ops f).contains i=VD)
  (F:∀c a w,Q (.panic c) (Xq a (Bs d) v) w->Q (.panic c) a w) (s:Wu k (Xx ops a.tmps)=VD) (G:C w)
  (q:∀w,C w->(Yr a.eval k).run P w=.ok (.value v) w)
  (h:Ci P md ops Q N C fuel (f.setIfInBounds i VD) (a.put (Bs d) v) w):Ci P md ops Q N C (fuel+1) f a w:=
 ntakeD i D y hs z E hl u (by rw[p];exact F) s G q (by rw[p];exact h)
def nB(i:Nat){d:Nat}{k:XE}{fuel:Nat}{a:Act}{w:D0}(u:ops[i]? = Bs k)(z:k.dst=Bs d)
  (E:∀c a (d:Nat) (v:S2) w,Q (.panic c) (Xq a (Bs d) v) w->Q (.panic c) a w) (F:C w) (p:∀w,C w->(Yr a.eval k).run P w=.ok (.value v) w)
  (h:Ci P md ops Q N C fuel (f.setIfInBounds i VD) (a.put (Bs d) v) w)
  (hs:WR ops=VD:=by kernel_rfl) (y:Xr md ops f i=VD:=by kernel_rfl) (hl:Dv md ops f i N=VD:=by kernel_rfl) (s:(Ws md ops f).contains i=VD:=by kernel_rfl)
  (q:Wu k (Xx ops a.tmps)=VD:=by kernel_rfl):Ci P md ops Q N C (fuel+1) f a w:=Tc i u z hs y hl s (λc a w=>E c a d v w) q F p h
def nS(i:Nat){d:Nat}{k:XE}{fuel:Nat}{a:Act}{w:D0}(s:ops[i]? = Bs k)(y:k.dst=Bs d)
  (z:∀c a (d:Nat) (v:S2) w,Q (.panic c) (Xq a (Bs d) v) w->Q (.panic c) a w) (E:C w)
  (h:Ci P md ops Q N C fuel (f.setIfInBounds i VD) (a.put (Bs d) Yl) w)
  (hs:WR ops=VD:=by kernel_rfl) (u:Xr md ops f i=VD:=by kernel_rfl) (hl:Dv md ops f i N=VD:=by kernel_rfl) (q:(Ws md ops f).contains i=VD:=by kernel_rfl)
  (p:Wu k (Xx ops a.tmps)=L1:=by kernel_rfl):Ci P md ops Q N C (fuel+1) f a w:=Te i s y hs u hl q (λc a w=>z c a d Yl w) p E h
def nA(i:Nat)(D:List Nat){d:Nat}{k:XE}{fuel:Nat}{a:Act}{w:D0}(u:ops[i]? = Bs k)(z:k.dst=Bs d)
  (F:∀c a (d:Nat) (v:S2) w,Q (.panic c) (Xq a (Bs d) v) w->Q (.panic c) a w) (G:C w) (p:∀w,C w->(Yr a.eval k).run P w=.ok (.value v) w)
  (h:Ci P md ops Q N C fuel (f.setIfInBounds i VD) (a.put (Bs d) v) w)
  (hs:WR ops=VD:=by kernel_rfl) (y:Xr md ops f i=VD:=by kernel_rfl) (E:qbl md ops f i D=VD:=by kernel_rfl) (hl:KE md ops f i N D=VD:=by kernel_rfl) (s:(Ws md ops f).contains i=VD:=by kernel_rfl)
  (q:Wu k (Xx ops a.tmps)=VD:=by kernel_rfl):Ci P md ops Q N C (fuel+1) f a w:=OB i D u z hs y E hl s (λc a w=>F c a d v w) q G p h
def nD(i:Nat)(D:List Nat){d:Nat}{k:XE}{fuel:Nat}{a:Act}{w:D0}
  (F:∀c a (d:Nat) (v:S2) w,Q (.panic c) (Xq a (Bs d) v) w->Q (.panic c) a w) (G:C w)
  (h:Ci P md ops Q N C fuel (f.setIfInBounds i VD) (a.put (Bs d) v) w) (u:ops[i]? = Bs k:=by rfl) (z:k.dst=Bs d:=by rfl) (p:∀w,C w->(Yr a.eval k).run P w=.ok (.value v) w:=by intros;go_simp;rfl)
  (hs:WR ops=VD:=by kernel_rfl) (y:Xr md ops f i=VD:=by kernel_rfl) (E:qbl md ops f i D=VD:=by kernel_rfl) (hl:KE md ops f i N D=VD:=by kernel_rfl) (s:(Ws md ops f).contains i=VD:=by kernel_rfl)
  (q:Wu k (Xx ops a.tmps)=VD:=by kernel_rfl):Ci P md ops Q N C (fuel+1) f a w:=OB i D u z hs y E hl s (λc a w=>F c a d v w) q G p h
def nF(i:Nat){d:Nat}{k:XE}{fuel:Nat}{a:Act}{w:D0}
  (E:∀c a (d:Nat) (v:S2) w,Q (.panic c) (Xq a (Bs d) v) w->Q (.panic c) a w) (F:C w)
  (h:Ci P md ops Q N C fuel (f.setIfInBounds i VD) (a.put (Bs d) v) w) (u:ops[i]? = Bs k:=by rfl) (z:k.dst=Bs d:=by rfl) (p:∀w,C w->(Yr a.eval k).run P w=.ok (.value v) w:=by intros;go_simp;rfl)
  (hs:WR ops=VD:=by kernel_rfl) (y:Xr md ops f i=VD:=by kernel_rfl) (hl:Dv md ops f i N=VD:=by kernel_rfl) (s:(Ws md ops f).contains i=VD:=by kernel_rfl)
  (q:Wu k (Xx ops a.tmps)=VD:=by kernel_rfl):Ci P md ops Q N C (fuel+1) f a w:=Tc i u z hs y hl s (λc a w=>E c a d v w) q F p h
def nT(i:Nat){d:Nat}{k:XE}{fuel:Nat}{a:Act}{w:D0}
  (z:∀c a (d:Nat) (v:S2) w,Q (.panic c) (Xq a (Bs d) v) w->Q (.panic c) a w) (E:C w)
  (h:Ci P md ops Q N C fuel (f.setIfInBounds i VD) (a.put (Bs d) Yl) w) (s:ops[i]? = Bs k:=by rfl) (y:k.dst=Bs d:=by rfl)
  (hs:WR ops=VD:=by kernel_rfl) (u:Xr md ops f i=VD:=by kernel_rfl) (hl:Dv md ops f i N=VD:=by kernel_rfl) (q:(Ws md ops f).contains i=VD:=by kernel_rfl)
  (p:Wu k (Xx ops a.tmps)=L1:=by kernel_rfl):Ci P md ops Q N C (fuel+1) f a w:=Te i s y hs u hl q (λc a w=>z c a d Yl w) p E h
def nE(i:Nat){k:XE}{fuel:Nat}{a:Act}{w:D0}(E:C w)
  (h:Ci P md ops Q N C fuel (f.setIfInBounds i VD) (a.put k.dst v) w) (u:ops[i]? = Bs k:=by rfl)
  (z:∀c a w,Q (.panic c) (a.put k.dst v) w->Q (.panic c) a w:=by intros;assumption) (p:∀w,C w->(Yr a.eval k).run P w=.ok (.value v) w:=by intros;go_simp;rfl)
  (hs:WR ops=VD:=by kernel_rfl) (y:Xr md ops f i=VD:=by kernel_rfl) (hl:Dv md ops f i N=VD:=by kernel_rfl) (s:(Ws md ops f).contains i=VD:=by kernel_rfl)
  (q:Wu k (Xx ops a.tmps)=VD:=by kernel_rfl):Ci P md ops Q N C (fuel+1) f a w:=Td i u hs y hl s z q E p h
def nG(i:Nat){o:XE}{fuel:Nat}{a:Act}{w:D0}
  (h:∀k:Act->D0->Prop,(∀a w,(i<N->C w)->Ci P md ops Q N C fuel (f.setIfInBounds i VD) a w->k a w)->Yp P o a w k Q) (s:ops[i]? = Bs o:=by rfl) (q:Ws md ops f=[i]:=by kernel_rfl) (p:Wu o (Xx ops a.tmps)=VD:=by kernel_rfl) :
  Ci P md ops Q N C (fuel+1) f a w:=nonly i q s p h
def nX{fuel:Nat}{a:Act}{w:D0}(h:Q .normal a w)(i:Ws md ops f=[]:=by kernel_rfl):Ci P md ops Q N C fuel f a w:=ndone i h fuel
def nW{id:Nat}{a:Act}{w:D0}(h:wpAny P .any ops Q ops.size (Array.replicate ops.size L1) a w.drew)(f:P.follows .mixedOrders=VD:=by kernel_rfl):(Code.region id ops VD).wp P Q a w:=wp_region_any f h
def nZ{p:Prop}(h:¬p:=by decide):p->q:=λa=>ZB a h
end
structure Nd where
 id:Int
 ad:Int
 aI:List Int
 aN:Int
 a4:List Cm
 ao:Int
def cm0:Cm:=⟨0,0,0,[]⟩
def Nd.head(d:Nd):Bool:=d.aN == 0
def Nd.tail(d:Nd):Bool:=decide (d.aN>=0) && d.aN == (d.aI.length:Int)-1
def Nd.a8(d:Nd)(b:Int):Int:=(d.aI[(d.aN+b).toNat]?).getD 0
def Nd.b9(d:Nd)(kind b k:Int):Ms:=⟨kind,d.id,d.a8 b,d.ad,k,cm0⟩
def Nd.a6(d:Nd)(k:Nat):Ms:=⟨3,d.id,d.a8 1,d.ad,k,(d.a4[k]?).getD cm0⟩
def Nd.aD(d:Nd):Nd×List Ms:=
 if d.aN<0 then(d,[])else if d.tail then({d with ao:=d.a4.length},if d.aN > 0 then [d.b9 4 (-1) d.a4.length]else [])else(d,[d.b9 1 1 d.a4.length])
def Nd.push(d:Nd)(c:Cm):Nd:={d with a4:=d.a4++[c]}
def Nd.aP(d:Nd)(c:Cm):Nd×List Ms:=if d.tail then(d.push c).aD else(d.push c,[(d.push c).a6 d.a4.length])
def Nd.add(d:Nd)(c:Cm)(b:Bool):(Nd×List Ms)×Int×Int:=
 if !d.head then((d,[]),0,6)else if d.a4.length=500 then((d,[]),0,4)else(d.aP c,if b then d.a4.length+1 else d.a4.length,0)
def Nd.step(d:Nd)(m:Ms):Nd×List Ms:=
 if d.aN<0\/m.ad≠d.ad\/m.a8≠d.id then(d,[])else
 let f:=decide (d.aN > 0) && m.ar == d.a8 (-1)
 let next:=!d.tail && m.ar == d.a8 1
 if m.aj=1/\f=VD then(d,[d.b9 2 (-1) d.a4.length])else
 if m.aj=2/\next=VD/\0<=m.n then(d,(Wh m.n.toNat (d.a4.length-m.n.toNat)).map d.a6)else
 if m.aj=3/\f=VD/\m.n=d.a4.length/\m.n<500 then d.aP m.aY else
 if m.aj=4/\next=VD/\0<=m.n/\m.n<=d.a4.length then
  ({d with ao:=max d.ao m.n},if d.aN > 0 then [d.b9 4 (-1) (max d.ao m.n)]else [])else(d,[])
def Fh(w:D0)(base:Nat)(x:BI):Prop:=w.ownsRow base 45 3 (WK x.A x.n x.k) x.n (x.c.ae.flatMap Dj)/\x.c.ae.length=x.n/\x.n<=100000
structure BT(w:D0)(base g:Nat)(C V:S2)(L:List BI)(d:Nd):Prop where
 al:Ae w g 150 #[Wm eQ d.id,Wm eQ d.ad,C,Wm eQ d.aN,V,Wm eQ d.ao]
 cz:w.ownsRow base 3 1 C d.aI.length (d.aI.map (Wm eQ))
 row:w.ownsRow base 69 4 V L.length (L.flatMap El)
 own:∀x∈L,Fh w base x
 a4:AQ L=d.a4
 len:L.length<=500
 cd:d.aI.length<=6
 at0:-1<=d.aN
 dg:d.aN<d.aI.length
 st0:0<=d.ao
 cp:d.ao<=500
 lo:base<=g
def CZ(g:Nat)(C V:S2)(L:List BI)(b:Nat):Prop:=b=g\/C.ownBlock=Bs b\/V.ownBlock=Bs b\/∃x∈L,(WK x.A x.n x.k).ownBlock=Bs b
variable {C V:S2}{L:List BI}{d:Nd}
def BT.fr(h:BT w base g C V L d)(k:Fr S w w')(i:∀b,CZ g C V L b->¬S b):BT w' base g C V L d:=
 ⟨k.al h.al (i g (eR rfl)),k.own h.cz (λb f=>i b (eS (eR f))),k.own h.row (λb f=>i b (eS (eS (eR f)))),
  λx p=>⟨k.own (h.own x p).1 (λb f=>i b (eS (eS (eS ⟨x,p,f⟩)))),(h.own x p).2⟩,h.a4,h.len,h.cd,h.at0,h.dg,h.st0,h.cp,h.lo⟩
def BT.a9(h:BT w base g C V L d){b:Nat}(f:CZ g C V L b):base<=b/\b<w.heap.size:=by obtain rfl|f|f|⟨x,i,f⟩:=f;exact⟨h.lo,h.al.lt⟩;exact h.cz.lt b f;exact h.row.lt b f;exact(h.own x i).1.lt b f
def BT.aW(h:BT w base g C V L d)(f:VI w.heap.size w w'):BT w' base g C V L d:=
 h.fr (S:=λb=>w.heap.size<=b) ⟨f.os,f.tape,f.output,f.size,λi _ p=>f.block i Z0⟩ (λb k q=>Z4 ((h.a9 k).2))
def BT.cells(h:BT w base g C V L d):w.cell? ⟨g,0,B0⟩=Bs (Wm eQ d.id)/\w.cell? ⟨g,1,B0⟩=Bs (Wm eQ d.ad)/\w.cell? ⟨g,2,B0⟩=Bs C/\w.cell? ⟨g,3,B0⟩=Bs (Wm eQ d.aN)/\w.cell? ⟨g,4,B0⟩=Bs V/\w.cell? ⟨g,5,B0⟩=Bs (Wm eQ d.ao)/\g<w.heap.size:=by have s:=h.al.cell 0;have q:=h.al.cell 1;have p:=h.al.cell 2;have k:=h.al.cell 3;have i:=h.al.cell 4;have f:=h.al.cell 5;simp only[NW,Ft,O0]at s q p k i f;exact⟨s,q,p,k,i,f,h.al.lt⟩
def BT.c9(h:BT w base g C V L d):d.a4.length=L.length:=by rw[<- h.a4];simp[AQ]
def BT.eC(h:BT w base g C V L d):∃A c,C=WK A d.aI.length c:=by obtain⟨A,c,e,_⟩:=AM h.cz;exact⟨A,c,e⟩
def BT.dL(h:BT w base g C V L d):∃A c,V=WK A L.length c:=by obtain⟨A,c,e,_⟩:=AM h.row;exact⟨A,c,e⟩
def Np(h:BT w base g C V L d):VX Tryz.prog 74 #[ZW (Bs ⟨g,0,B0⟩)] w λe w'=>e=ZY (Wm eQ d.id)/\w=w':=by obtain⟨i,_,_,_,_,_,f⟩:=h.cells;clear h;go_enter Tryz.func74,Tryz.ntmps74;go_wp2_with fail;go_ret;exact⟨rfl,rfl⟩
def qdz(h:BT w base g C V L d):VX Tryz.prog 57 #[ZW (Bs ⟨g,0,B0⟩)] w λe w'=>e=ZY (ZX d.head)/\w=w':=by obtain⟨_,_,_,i,_,_,f⟩:=h.cells;clear h;unfold Nd.head;go_enter Tryz.func57,Tryz.ntmps57;go_wp2_with fail;go_ret;exact⟨rfl,rfl⟩
def qc6(h:BT w base g C V L d):VX Tryz.prog 96 #[ZW (Bs ⟨g,0,B0⟩)] w λe w'=>e=ZY (Wm eQ d.ao)/\w=w':=by obtain⟨_,_,_,_,_,i,f⟩:=h.cells;clear h;go_enter Tryz.func96,Tryz.ntmps96;go_wp2_with fail;go_ret;exact⟨rfl,rfl⟩
def Sg(h:BT w base g C V L d):VX Tryz.prog 58 #[ZW (Bs ⟨g,0,B0⟩)] w λe w'=>e=ZY (ZX d.tail)/\∃m,w'=w.drewN m:=by
 obtain⟨_,_,y,v,_,_,q⟩:=h.cells;obtain⟨A,c,rfl⟩:=h.eC;have u:=h.cd;have f:d.tail=(decide (d.aN>=0) && d.aN == (d.aI.length:Int)-1):=rfl;have k:=LH f;clear f h;generalize d.aI.length=n at *;generalize d.aN=a at *;by_cases i:a>=0
 ·go_enter Tryz.func58,Tryz.ntmps58;go_wp2_with fail;have p:decide (0<=a)=VD:=ZA i;have s:IntKind.i64.wrap ((n:Int)-1)=(n:Int)-1:=V4 _ ⟨Z0,Z0⟩;go_quiet (fail);go_wp2_with fail;go_ret;rw[k.o,ZA i];exact⟨rfl,_,rfl⟩
 go_enter Tryz.func58,Tryz.ntmps58;go_wp2_with fail;have p:decide (0<=a)=L1:=Z9 Z0;go_quiet (fail);go_wp2_with fail;go_ret;rw[k.o,Z9 Z0];exact⟨rfl,_,rfl⟩
def q9b(h:BT w base g C V L d):VX Tryz.prog 58 #[ZW (Bs ⟨g,0,B0⟩)] w λe w'=>e=ZY (ZX d.tail)/\VI w.heap.size w w':=
 (Sg h).mono λe w' ⟨i,m,f⟩=>⟨i,by rw[f];exact CI (VC _ _) _⟩
def q7v:(Tryz.prog.info? 116).map (λi=>(i.zero,i.size,i.bytes))=Bs (Bs (.agg #[Wm eQ 0,Wm eQ 0,Wm eQ 0,Wm eQ 0,Wm eQ 0,Wm eQ 0,Wm eQ 0,Wm eQ 0,WK B0 0 0]),9,88):=by kernel_rfl
variable {off nd:Nat}{T:VR}{D:Option Nat}{dead:Int->Bool}{lost:Int}
section
variable {L:List AW}
def AO.fr{S:Nat->Prop}(h:AO w base g off T cs V D nd L dead lost)(f:Fr S w w')(p:¬S g)(q:∀b,V.ownBlock=Bs b->¬S b)(s:∀b,D=Bs b->¬S b)(hP:∀b t cs,Ae w b t cs->t=45->¬S b):AO w' base g off T cs V D nd L dead lost:=
 ⟨f.al h.al p,h.c0,h.c1,h.c2,f.own h.row q,λx k=>⟨f.own (h.own x k).1 (λb i e=>by
  obtain⟨hv,_⟩|⟨g',cap,cur,hv,_,hh,_⟩:=(h.own x k).1.2;rw[hv]at i;simp[Wa]at i;rw[hv]at i;have u:g'=b:=by simpa [Wa]using i
  subst u;exact hP g' _ _ hh rfl e),(h.own x k).2⟩,h.down.fr f s,h.len,h.ne,VK h.bg f.size⟩
def AO.vlt(h:AO w base g off T cs V D nd L dead lost){b:Nat}(f:V.ownBlock=Bs b):b<w.heap.size:=(h.row.lt b f).2
end
def LF(base g off nd:Nat)(T:VR)(cs:Array S2)(V:S2)(D:Option Nat)(L:List AW)(dead:Int->Bool)(lost:Int)(l:List AW)(w:D0)(e:WE)(w':D0):Prop:=
 ∃V' L' lost' d,e=ZY (Wm eQ d)/\(∀x∈L',x∈L\/LK w.heap.size x)/\AO w' base g off T ((cs.setIfInBounds off V').setIfInBounds (off+2) (Wm eQ lost')) V' D nd L' dead lost'/\EW ⟨AI L,dead⟩ (AI l)=⟨AI L',dead⟩/\Fr (B7 g V D) w w'/\(V'.ownBlock=V.ownBlock\/∃b,V'.ownBlock=Bs b/\w.heap.size<=b)
def I2(base g off nd:Nat)(T:VR)(cs:Array S2)(V:S2)(D:Option Nat)(L:List AW)(dead:Int->Bool)(lost:Int)(l:List AW)(n:Nat)(w:D0)(i c:S2)(wr:D0):Prop:=
 ∃(j k:Nat)(V':S2)(L':List AW),i=Wm eQ j/\c=Wm eQ k/\j<=n/\k<=j/\(∀x∈L',x∈L\/LK w.heap.size x)/\AO wr base g off T (cs.setIfInBounds off V') V' D nd L' dead lost/\EW ⟨AI L,dead⟩ (AI (l.take j))=⟨AI L',dead⟩/\Fr (B7 g V D) w wr/\(V'.ownBlock=V.ownBlock\/∃b,V'.ownBlock=Bs b/\w.heap.size<=b)
variable {wr:D0}{V':S2}{L' l:List AW}{kk:Nat}{x:AW}
section
variable {L:List AW}
def GL(f:l[j]? = Bs x):AI (l.take (j+1))=AI (l.take j)++[x.m]:=by rw[VV,f];simp[AI]
def qab(i:∀x∈L',x∈L\/LK w.heap.size x)(hI:AO wr base g off T (cs.setIfInBounds off V') V' D nd L' dead lost)(hs:EW ⟨AI L,dead⟩ (AI (l.take j))=⟨AI L',dead⟩)(s:Fr (B7 g V D) w wr)
  (u:V'.ownBlock=V.ownBlock\/∃b,V'.ownBlock=Bs b/\w.heap.size<=b) (p:l[j]? = Bs x) (q:j<n) (v:kk<=j) (f:CE ⟨AI L',dead⟩ x.m=VD) (k:Fr (λ_=>False) wr w2) :
  I2 base g off nd T cs V D L dead lost l n w (Wm eQ ((j:Int)+1)) (Wm eQ ((kk:Int)+1)) w2:=
 ⟨j+1,kk+1,V',L',rfl,rfl,q,Z0,i,hI.fr k (λh=>h) (λ_ _ h=>h) (λ_ _ h=>h) (λ_ _ _ _ _ h=>h),by
  rw[GL p,qa9,hs];unfold AR;rw[f,Z8 rfl],s.trans' k (λ_ _ h=>h.elim),u⟩
end
def q5b(cs:Array S2)(i:Nat)(u v:S2):(cs.setIfInBounds i u).setIfInBounds i v=cs.setIfInBounds i v:=by
 ext k h1 h2
 simp;by_cases h:i=k<;>simp[h]
def q6h(h:U[i]? = Bs v):U.setIfInBounds i v=U:=by
 ext k h1 h2
 simp;by_cases e:i=k;subst e;rw[Array.getElem?_eq_getElem h2]at h;rw[Array.getElem_setIfInBounds_self];exact(Wn h).symm;exact Array.getElem_setIfInBounds_ne h2 e
variable {w4:D0}{V2:S2}{x2:AW}
section
variable {L:List AW}
def SA(U:∀x∈L',x∈L\/LK w.heap.size x)(X:LK w.heap.size x2)(hI:AO wr base g off T (cs.setIfInBounds off V') V' D nd L' dead lost)(hs:EW ⟨AI L,dead⟩ (AI (l.take j))=⟨AI L',dead⟩)(Z:Fr (B7 g V D) w wr)
  (O:V'.ownBlock=V.ownBlock\/∃b,V'.ownBlock=Bs b/\w.heap.size<=b) (hx:l[j]? = Bs x) (hj:j<n) (hk:kk<=j) (z:CE ⟨AI L',dead⟩ x.m=L1)
  (h3:Fr (λk=>wr.heap.size<=k) wr w2) (R:x2.m=x.m) (H:Et w2 base x2) (G:Am w2 w4 V'.ownBlock V2.ownBlock) (E:w4.ownsRow base 116 9 V2 (L'.length+1) (L'.flatMap CQ++CQ x2)) :
  I2 base g off nd T cs V D L dead lost l n w (Wm eQ ((j:Int)+1)) (Wm eQ (kk:Int)) (w4.setCell ⟨g,off,B0⟩ V2):=by
 have f:AO w2 base g off T (cs.setIfInBounds off V') V' D nd L' dead lost:=hI.fr h3 (λh=>Z4 hI.al.lt) (λb p h=>Z4 (hI.vlt p)) (λb p h=>by have:=hI.down;rw[p]at this;have:=this.lt;omega) (λb t cs p _ h=>Z4 p.lt);have I:off<cs.size:=by have:=hI.c0;rw[Array.getElem?_setIfInBounds_self]at this;split at this<;>simp_all
 have Y:¬Bs g=V'.ownBlock:=λe=>Bh f.row f.al (λe=>hI.ne.1 e.symm) e.symm
 have F:Ae w4 g T (cs.setIfInBounds off V'):=G.1.al f.al Y;have q:Fr (λk=>k=g) w4 (w4.setCell ⟨g,off,B0⟩ V2):=Fr.aL g w4 off V2;have M:=F.aZ off V2;rw[q5b]at M;have W:∀b v m xs,w4.ownsRow base 45 3 v m xs->v.ownBlock=Bs b->¬b=g:=λb v m xs ho p e=>by subst e;exact Bh ho F (λe=>hI.ne.2 e.symm) p
 have u:∀y,Et w2 base y->Et (w4.setCell ⟨g,off,B0⟩ V2) base y:=λy s=>by
  have h4:=G.1.own s.1 (λb p e=>EX s.1 f.row Z2 p e.symm);exact⟨q.own h4 (λb p e=>W b _ _ _ h4 p e),s.2⟩
 refine⟨j+1,kk,V2,L'++[x2],rfl,rfl,hj,Z0,(λy s=>(XA.1 s).elim (U y) (λh=>eS (by rw[VU.1 h];exact X))),⟨M,?_,?_,?_,?_,λy s=>?_,?_,?_,hI.ne,?_⟩,?_,?_,?_⟩;simp[I];have:=hI.c1
 rwa [Wj Z0]at this ⊢
 have:=hI.c2
 rwa [Wj Z0]at this ⊢
 rw[VJ,Wq,List.flatMap_singleton];exact q.own E (λb p e=>by subst e;exact Bh E F (λe=>hI.ne.1 e.symm) p);obtain s|s:=XA.1 s;exact u y (f.own y s);rw[VU.1 s];exact u x2 H;refine(f.down.fr G.1 (λb p e=>?_)).fr q (λb p e=>?_);exact f.down.bn f.row p e.symm;subst e;exact f.down.aV f.al p;unfold CE at z;simp only[Bool.or_eq_false_iff,decide_eq_false_iff_not]at z;have h1:=hI.len;have h2:=z.2;simp[AI]at h2 ⊢;omega;exact VK f.bg (VK G.1.size q.size);rw[GL hx,qa9,hs];unfold AR;rw[z,Z7 Z3];simp[AI,R]
 ·refine(Z.trans' h3 (λi hi h=>?_)).trans' ((G.1.mono (T:=λk=>Bs k=V'.ownBlock\/k=g) (λi _ h=>eR h)).trans' q (λi _ h=>eS h)) (λi hi h=>?_);have:=Z.size;omega;obtain h|h:=h;obtain O|⟨b,p,J⟩:=O;rw[O]at h;exact eS (eR h);rw[p]at h;injection h with h;subst h;omega;exact eR h
 obtain h|⟨b,p,J⟩:=G.2;rw[h];exact O;exact eS ⟨b,p,VK (VK Z.size h3.size) J⟩
end
def J0(base g off nd n k:Nat)(T:VR)(cs:Array S2)(V:S2)(D:Option Nat)(L:List AW)(dead:Int->Bool)(lost:Int)(A:Option Xo)(l:List AW)(w:D0)
  (hI:AO w base g off T cs V D nd L dead lost) (hR:N6 w (B7 g V D) A n l) (hn:n<=100000) (ar:∀x∈l,FB x.m.ar/\FB x.m.a8/\x.n<=100000/\(x.A=B0->x.k=0)) :
  VX Tryz.prog 50 #[ZW (Bs ⟨g,off,B0⟩),WK A n k] w (LF base g off nd T cs V D L dead lost l w):=by
 have HI:=LH hI;have HR:=LH hR;clear hR;have ao:=LH ar;clear ar;go_enter Tryz.func50,Tryz.ntmps50;go_wp2_with fail;go_loopw [10,5] (I2 base g off nd T cs V D L dead lost l n w) (λi _ _=>n-(intOf i).toNat)
 case atStart=>exact⟨0,0,V,L,rfl,rfl,VG _,Hi _,λ_ h=>eR h,by rw[q6h HI.o.c0];exact HI.o,by simp[AI,EW],Fr.refl _ _,eR rfl⟩
 obtain⟨j,kk,V',L',rfl,rfl,hj,Y,am,f,hs,hf,O⟩:=hrel;by_cases aZ:(j:Int)<n
 ·obtain⟨ga,oa,x,hA,ax,hx,h0,h1,h2,h3,h4,h5,h6,h7,h8⟩:=HR.o.2.1.cO HR.o.1 (j:=j) Z0;subst hA;have aB:=HR.o.2.2.1 ga oa rfl Z0;have Y:∀o,wr.cell? ⟨ga,o,B0⟩=w.cell? ⟨ga,o,B0⟩:=λo=>hf.cell (p:=⟨ga,o,B0⟩) ax aB
  have q0:=(Y _).trans h0;have q1:=(Y _).trans h1;have q2:=(Y _).trans h2;have q3:=(Y _).trans h3;have q4:=(Y _).trans h4;have q5:=(Y _).trans h5;have q6:=(Y _).trans h6;have q7:=(Y _).trans h7;have q8:=(Y _).trans h8;have b9:ga<wr.heap.size:=VF ax hf.size;clear h0 h1 h2 h3 h4 h5 h6 h7 h8 Y aB;have u:=LH f;clear f;have af:=LH am;clear am;have HS:=LH hs;clear hs;have HF:=LH hf;clear hf;have HV:=LH O;clear O;have HX:=LH hx;clear hx;have R:AO (wr.alloc (eT (BF x.m x.A x.n x.k) 116)) base g off T (cs.setIfInBounds off V') V' D nd L' dead lost:=u.o.fr ((Fr.refl (λ_=>False) _).alloc _) (λh=>h) (λ_ _ h=>h) (λ_ _ h=>h) (λ_ _ _ _ _ h=>h);have ad:Ae (wr.alloc (eT (BF x.m x.A x.n x.k) 116)) wr.heap.size 116 (BF x.m x.A x.n x.k):=Ae.b4 wr _ _;obtain⟨A',c',O,ba,aF⟩:=AM u.o.row;have x0:=(R.al.cell off).trans R.c0;have x1:=(R.al.cell (off+1)).trans R.c1;rw[O]at x0;have y1:=ad.cell 1;have y2:=ad.cell 2;have a4:=λK=>(show Bz ((wr.alloc (eT (BF x.m x.A x.n x.k) 116)).drewN K) nd D dead from R.down).cn (ao.o x (N2 HX.o)).1
  have a3:=λK=>(show Bz ((wr.alloc (eT (BF x.m x.A x.n x.k) 116)).drewN K) nd D dead from R.down).cn (ao.o x (N2 HX.o)).2.1
  have aX:=u.o.len;have bb:=LH R;clear R;have aW:=LH ad;clear ad;have a6:=LH O;clear O;have bc:=LH aF;clear aF;have au:∀b1 b2,dead x.m.ar=b1->dead x.m.a8=b2->CE ⟨AI L',dead⟩ x.m=(b1 || b2 || decide (L'.length=200)):=λb1 b2 e1 e2=>by unfold CE;dsimp only;rw[e1,e2];simp[AI]
  have ae:=LH au;clear au;rcases H:dead x.m.ar with _|_
  ·rcases M:dead x.m.a8 with _|_
   ·rw[H]at a4;rw[M]at a3;by_cases G:L'.length=200
    ·have hz:((L'.length:Int) == 200)=VD:=by rw[G];rfl
     have E:CE ⟨AI L',dead⟩ x.m=VD:=(ae.o _ _ H M).trans (by simp[G]);have I:=LH E;clear E;clear H M G;unfold BF at *;go_wp2_with fail;go_quiet (fail);go_wp2_with fail;go_roundw;exact qab af.o u.o HS.o HF.o HV.o HX.o Z0 Y I.o ((((Fr.refl _ wr).alloc _)).drewN _);simp[intOf];omega
    have hz:((L'.length:Int) == 200)=L1:=by simpa using (by omega:¬(L'.length:Int)=200)
    have E:CE ⟨AI L',dead⟩ x.m=L1:=(ae.o _ _ H M).trans (by simp[G]);have I:=LH E;clear E;have aS:=LH (show L'.length+1<=200 by omega);clear H M G;have aj:=HR.o.2.2.2 x (N2 HX.o);have a8:Gr wr w.heap.size x.A x.n x.m.aY.ae:=aj.1.fr HF.o (Hi _) aj.2;have ak:=ao.o x (N2 HX.o);have az:=λK=>qbk wr.heap.size w.heap.size x.n x.k x.A x.m.aY.ae ((wr.alloc (eT (BF x.m x.A x.n x.k) 116)).drewN K) ⟨a8.1,a8.2.below (CI (((VC _ _).alloc (Hi _) _).mono HF.o.size) K)⟩ (by have:=HF.o.size;simp;omega) Z3 ak.2.2.1 ak.2.2.2
    have aG:=LH (show x.m.aY.ae.length=x.n from a8.1);have aT:=LH az;clear az ak a8 aj;unfold BF at *;go_wp2_with fail;go_quiet (fail);go_wp2_with fail;refine(aT.o _).mono ?_;rintro e w2 ⟨A2,k2,rfl,F,aa⟩;have aR:=LH (show LK w.heap.size ⟨x.m,A2,x.n,k2⟩from λb hb=>VK HF.o.size (F.lt b hb).1);have F:=MJ F u.o.bg;have aM:=aa.size;simp only[size_dN,World.size_alloc]at aM;have ac:Ae w2 wr.heap.size 116 #[Wm eQ x.m.aj,Wm eQ x.m.ar,Wm eQ x.m.a8,Wm eQ x.m.ad,Wm eQ x.m.n,Wm eQ x.m.aY.aj,Wm eQ x.m.aY.tx,Wm eQ x.m.aY.ah,WK x.A x.n x.k]:=(aa.block wr.heap.size (by show wr.heap.size<(wr.alloc _).heap.size;simp)).trans aW.o;have z0:=ac.cell 8;have z1:=ac.frozen 8;have aL:=LH ac;clear ac;have aI:=LH F;clear F;have aV:=LH aa;clear aa;go_wp2_with fail;have aD:Fr (λk=>wr.heap.size<=k) wr w2:=(((Fr.refl _ wr).alloc _).drewN _).trans ((Ef aV.o).mono (λi _ h=>by
     have h':(wr.alloc (eT (BF x.m x.A x.n x.k) 116)).heap.size<=i:=h;simp at h';omega))
    have U:=Fr.aL wr.heap.size w2 8 (WK A2 x.n k2);have ab:=aD.trans (U.mono (T:=λk=>wr.heap.size<=k) (λi _ h=>Nat.le_of_eq h.symm));have z:=aL.o.aZ 8 (WK A2 x.n k2);simp only[List.setIfInBounds_toArray,XY,List.set_cons_zero]at z;have ah:∀b,Wa (WK A2 x.n k2)=Bs b->¬b=wr.heap.size:=λb hb e=>by subst e;exact Bh aI.o aL.o Z2 hb
    have aC:=U.own aI.o ah;generalize w2.setCell ⟨wr.heap.size,8,B0⟩ (WK A2 x.n k2)=w3 at *;have aO:g<wr.heap.size:=u.o.al.lt;have n0:=(ab.cell (p:=⟨g,off,B0⟩) aO (λh:wr.heap.size<=g=>Z0)).trans ((u.o.al.cell off).trans u.o.c0);rw[a6.o]at n0;have b0:=z.cell 0;have b1:=z.cell 1;have b2:=z.cell 2;have b3:=z.cell 3;have b4:=z.cell 4;have b5:=z.cell 5;have b6:=z.cell 6;have b7:=z.cell 7;have b8:=z.cell 8;simp only[NW,O0,Ft]at b0 b1 b2 b3 b4 b5 b6 b7 b8;have aY:=ab.size;have ap:=LH ab;clear ab;have aK:=LH z;clear z;have aQ:=LH aC;clear aC;clear U aD ah z0 z1;refine nW ?_;refine UQ (λw'=>w'.cell? ⟨g,off,B0⟩=Bs (WK A' L'.length c')/\w'.cell? ⟨wr.heap.size,0,B0⟩=Bs (Wm eQ x.m.aj)/\w'.cell? ⟨wr.heap.size,1,B0⟩=Bs (Wm eQ x.m.ar)/\w'.cell? ⟨wr.heap.size,2,B0⟩=Bs (Wm eQ x.m.a8)/\w'.cell? ⟨wr.heap.size,3,B0⟩=Bs (Wm eQ x.m.ad)/\w'.cell? ⟨wr.heap.size,4,B0⟩=Bs (Wm eQ x.m.n)/\w'.cell? ⟨wr.heap.size,5,B0⟩=Bs (Wm eQ x.m.aY.aj)/\w'.cell? ⟨wr.heap.size,6,B0⟩=Bs (Wm eQ x.m.aY.tx)/\w'.cell? ⟨wr.heap.size,7,B0⟩=Bs (Wm eQ x.m.aY.ah)/\w'.cell? ⟨wr.heap.size,8,B0⟩=Bs (WK A2 x.n k2)) 8 ?_;have Z:=Wo n0 (Wo b0 (Wo b1 (Wo b2 (Wo b3 (Wo b4 (Wo b5 (Wo b6 (Wo b7 b8))))))));refine nE 0 Z ?_;refine nE 1 Z ?_;refine nE 2 Z ?_;refine nE 3 Z ?_;refine nC 4 rfl (λ_ _ _ h=>h) Z (λw' al=>by obtain⟨c0,c1,c2,c3,c4,c5,c6,c7,c8,c9⟩:=al;go_simp;rfl) ?_;refine nC 5 rfl (λ_ _ _ h=>h) Z (λw' al=>by obtain⟨c0,c1,c2,c3,c4,c5,c6,c7,c8,c9⟩:=al;go_simp;rfl) ?_;have s:∀o q p,q<w3.heap.size->(w3.alloc o).cell? ⟨q,p,B0⟩=w3.cell? ⟨q,p,B0⟩:=λo q p hq=>WT w3 o ⟨q,p,B0⟩ hq
    have y:=aK.o.lt;have a2:w3.ownsRow base 116 9 (WK A' L'.length c') L'.length (L'.flatMap CQ):=by
     rw[<- a6.o];exact ap.o.own u.o.row (λb hb (h:wr.heap.size<=b)=>Z4 (u.o.vlt hb))
    have a7:=LH a2;clear a2;have a9:base<=w3.heap.size:=Z4 u.o.bg;refine nG 6 (λK hK=>?_);go_simp;refine hK _ _ (λ_=>⟨(s _ _ _ Z0).trans n0,(s _ _ _ y).trans b0,(s _ _ _ y).trans b1,(s _ _ _ y).trans b2,(s _ _ _ y).trans b3,(s _ _ _ y).trans b4,(s _ _ _ y).trans b5,(s _ _ _ y).trans b6,(s _ _ _ y).trans b7,(s _ _ _ y).trans b8⟩) ?_;clear hK K Z s;refine nG 7 (λK hK=>?_);have av:=aS.o;refine SX w3.drew w3.heap.size rfl _ (.tmp 50) (.tmp 52) 86 rfl base 116 _ 9 88 Tryz.underlying86 q7v rfl Z2 _ _ _ #[Wm eQ x.m.aj,Wm eQ x.m.ar,Wm eQ x.m.a8,Wm eQ x.m.ad,Wm eQ x.m.n,Wm eQ x.m.aY.aj,Wm eQ x.m.aY.tx,Wm eQ x.m.aY.ah,WK A2 x.n k2] rfl a7.o 1 rfl _ rfl rfl (by simp[Wx]) Zx Z0 a9 ?_;clear av;intro V2 w4 W X;obtain⟨A4,c4,rfl,_,_⟩:=AM W;have a0:Am w3 w4 V'.ownBlock (Wa (WK A4 (L'.length+1) c4)):=by rw[a6.o];exact⟨⟨X.1.os,X.1.tape,X.1.output,X.1.size,X.1.block⟩,X.2⟩
    have a5:Ae w3 g T (cs.setIfInBounds off V'):=ap.o.al u.o.al (λh:wr.heap.size<=g=>Z0);have a1:w3.ownsRow base 116 9 V' L'.length (L'.flatMap CQ):=by rw[a6.o];exact a7.o
    have ay:¬Bs g=V'.ownBlock:=λe=>Bh a1 a5 (λe=>u.o.ne.1 e.symm) e.symm
    have aq:¬Bs wr.heap.size=V'.ownBlock:=λe=>by have:=u.o.vlt e.symm;omega
    have an:=a0.1.al a5 ay;have v:=a0.1.al aK.o aq;have y0:=an.cell off;have y1:=an.frozen off;have aA:=u.o.c0;rw[aA,a6.o]at y0;have aE:=Wo y0 (Wo (v.cell 0) (Wo (v.cell 1) (Wo (v.cell 2) (Wo (v.cell 3) (Wo (v.cell 4) (Wo (v.cell 5) (Wo (v.cell 6) (Wo (v.cell 7) (v.cell 8)))))))));have aU:=LH aE;clear aE;have ag:=SA (x2:=⟨x.m,A2,x.n,k2⟩) af.o aR.o u.o HS.o HF.o HV.o HX.o (by omega:j<n) Y I.o ap.o rfl ⟨aQ.o,aG.o⟩ a0 W;have aH:=LH ag;clear ag W X a0 an v a5 a1 ay aq aA;go_simp;refine hK _ _ (λ_=>aU.o) ?_;clear hK K;refine nG 8 (λK hK=>?_);go_simp;refine hK _ _ nZ ?_;clear hK K;refine nG 9 (λK hK=>?_);go_simp;refine hK _ _ nZ ?_;clear hK K;refine nG 10 (λK hK=>?_);go_simp;refine hK _ _ nZ ?_;clear hK K;refine nX ?_;go_wp2_with fail;go_roundw;exact aH.o;simp[intOf];omega
   rw[H]at a4;rw[M]at a3;have E:CE ⟨AI L',dead⟩ x.m=VD:=(ae.o _ _ H M).trans Z3;have I:=LH E;clear E;clear H M;unfold BF at *;go_wp2_with fail;go_quiet (fail);go_wp2_with fail;go_roundw;exact qab af.o u.o HS.o HF.o HV.o HX.o Z0 Y I.o ((((Fr.refl _ wr).alloc _)).drewN _);simp[intOf];omega
  rw[H]at a4;have E:CE ⟨AI L',dead⟩ x.m=VD:=(ae.o _ _ H rfl).trans Z3;have I:=LH E;clear E;clear H a3;unfold BF at *;go_wp2_with fail;go_quiet (fail);go_wp2_with fail;go_roundw;exact qab af.o u.o HS.o HF.o HV.o HX.o Z0 Y I.o ((((Fr.refl _ wr).alloc _)).drewN _);simp[intOf];omega
 obtain rfl:j=n:=by omega
 have aw:l.take j=l:=VS (Z4 HR.o.1);rw[aw]at hs;have x2:=(f.al.cell (off+2)).trans f.c2;have x3:=f.al.frozen (off+2);have ai:LF base g off nd T cs V D L dead lost l w (ZY (Wm eQ kk)) (wr.setCell ⟨g,off+2,B0⟩ (Wm eQ (Xt (lost+kk)))):=by
  have J:=Fr.aL g wr (off+2) (Wm eQ (Xt (lost+kk)));have aP:AO (wr.setCell ⟨g,off+2,B0⟩ (Wm eQ (Xt (lost+kk)))) base g off T ((cs.setIfInBounds off V').setIfInBounds (off+2) (Wm eQ (Xt (lost+kk)))) V' D nd L' dead (Xt (lost+kk)):=by
   have aN:off+2<cs.size:=by
    have:=f.c2;obtain h|h:=Xd (off+2) cs.size;exact h;rw[Xa (Z6 h)]at this;cases this
   refine⟨f.al.aZ _ _,?_,?_,by simp[aN],J.own f.row (λb hb e=>by subst e;exact Bh f.row f.al (λe=>f.ne.1 e.symm) hb),λx hx=>⟨J.own (f.own x hx).1 (λb hb e=>by subst e;exact Bh (f.own x hx).1 f.al (λe=>f.ne.2 e.symm) hb),(f.own x hx).2⟩,f.down.fr J (λb hb e=>by subst e;exact f.down.aV f.al hb),f.len,f.ne,VK f.bg J.size⟩;rw[Wj Z0];exact f.c0;rw[Wj Z0];exact f.c1
  exact⟨V',L',_,kk,rfl,am,aP,hs,hf.trans' J (λi _ h=>eR h),O⟩
 have aJ:=LH ai;clear ai f hs hf O aw hI;go_wp2_with fail;go_ret;exact aJ.o
def E8(a:Xo):a.add 0=a:=by unfold Addr.add;rw[Z8 rfl]
section
variable {size:Nat}
def qcl(h:w.ownsRow base e size (WK (Bs ⟨g,0,B0⟩) n cap) n xs)(z:i<=n):w.ownsRow base e size (WK (Bs ⟨g,0,B0⟩) i cap) i (xs.take (i*size)):=by have y:i*size<=n*size:=WS _ z;refine⟨by rw[WD,h.1];omega,?_⟩;obtain⟨h,_⟩|⟨F,u,s,h,q,E,v,p,k,f⟩:=h.2;cases h;simp only[YV,VN,Xe,and_true,true_and]at h;obtain⟨rfl,rfl⟩:=h;refine eS ⟨g,cap,s,rfl,q,E,Z0,p,k,?_⟩;rw[<- f,List.take_take,Nat.min_eq_left y]
def It(h:w.ownsRow base e size (WK (Bs ⟨g,0,B0⟩) n cap) n xs):n<=cap/\cap<=VY:=by obtain⟨h,_⟩|⟨y,p,u,h,s,v,i,k,q,f⟩:=h.2;cases h;simp only[YV,VN,Xe,and_true,true_and]at h;obtain⟨rfl,rfl⟩:=h;exact⟨i,k⟩
def Eu(g k cap size:Nat):Option Xo:=if cap=k then Bs ⟨g,0,B0⟩else Bs ⟨g,k*size,B0⟩
def qc9(g k cap size:Nat):∃o,Eu g k cap size=Bs ⟨g,o,B0⟩/\(k<cap->o=k*size):=by unfold Eu;split;rename_i f;exact⟨0,rfl,λh=>Z0⟩;exact⟨_,rfl,λ_=>rfl⟩
def MA(t s:VR)(i:TypeInfo)(y:P.underlying t=Bs (.slice e))(F:P.info? e=Bs i)(f:i.size=size)
  (h:w.ownsRow base e size (WK (Bs ⟨g,0,B0⟩) n cap) n xs) (M:∀u∈xs,u.oneCell'=VD) {a b:Nat} (G:a<=b) (R:b<=n) :
  ∃w',(XC #[t,t] s #[WK (Bs ⟨g,0,B0⟩) a cap,WK (Eu g b cap size) (n-b) (cap-b)]).run P w=.ok (WK (Bs ⟨g,0,B0⟩) (a+(n-b)) cap) w'/\
   w'.ownsRow base e size (WK (Bs ⟨g,0,B0⟩) (a+(n-b)) cap) (a+(n-b)) (xs.take (a*size)++xs.drop (b*size))/\Fr (λk=>k=g) w w':=by
 obtain⟨o,z,q⟩:=qc9 g b cap size;have O:=(It h).1;have hl:(xs.drop (b*size)).length=(n-b)*size:=by rw[Xf,h.1,YW]
 obtain⟨w',J,I,H⟩:=run_append_fits (P:=P) w base t s e i size y F f g a cap _ (qcl h (by omega:a<=n)) ⟨g,o,B0⟩ (n-b) (cap-b) (xs.drop (b*size)) hl (λj u p=>by
  have v:j<(n-b)*size:=by rw[<- hl];exact(ZC.1 p).1
  have E:b<n:=by
   obtain h|h:=Xd b n;exact h;rw[Nat.sub_eq_zero_of_le h,Zp]at v;omega
  rw[WM,q Z0,h.cellAt];rw[<- p,Yo];rw[YW]at v;omega) (λu p=>M u (Yf p)) Z0
 rw[z];exact⟨w',J,I,Fr.b8 H (λk e=>(Wn e).symm)⟩
def q6u(t:VR)(z:S2)(ht:P.underlying t=Bs (.slice e))(hv:∀w,(Yh e).run P w=.ok z w)(hz:z.cells.size=size)(J:∀u∈z.cells.toList,u.oneCell'=VD)
  (h:w.ownsRow base e size (WK (Bs ⟨g,0,B0⟩) n cap) n xs) {m c:Nat} (hm:n+m<=cap) :
  ∃w',(∀G,(YY #[t] G #[WK (Eu g n cap size) m c]).run P w=.ok (ZZ #[]) w')/\w'.ownsRow base e size (WK (Bs ⟨g,0,B0⟩) n cap) n xs/\Fr (λk=>k=g) w w':=by
 obtain⟨o,ho,R⟩:=qc9 g n cap size;rw[ho];obtain h0|h0:=XX m;subst h0;exact⟨w,λG=>by simp[YY,YH ht],h,Fr.refl _ _⟩;have O:=R Z0;subst O;obtain⟨F,_⟩|⟨g',a0,f,F,Z,hg,U,Y,X,p⟩:=h.2;cases F;simp only[YV,VN,Xe,and_true,true_and]at F;obtain⟨rfl,rfl⟩:=F;have v:(WI z.cells m).toList.length=m*size:=by rw[Wz,Xz,hz]
 have I:∀u∈(WI z.cells m).toList,u.oneCell'=VD:=λu M=>by
  obtain⟨i,hi,M⟩:=Za M;have H:0<z.cells.size:=by
   obtain h|h:=XX z.cells.size;rw[v,<- hz,h]at hi;omega;exact h
  refine J u ?_;rw[<- M];simp[WI];have W:i % z.cells.size<z.cells.size:=Nat.mod_lt _ H;simp[W]
 have s:n*size+(WI z.cells m).toList.length<=f.size:=by rw[v,X,<- Xi];exact WS _ hm
 have y:=run_storeCells_at (P:=P) g (n*size) e (WI z.cells m).toList 0 f w hg (Z6 s) I;simp only[Nat.add_zero]at y;obtain⟨E,rfl⟩:∃E,m=E+1:=⟨m-1,Z0⟩
 refine⟨w.setRow g (f.toList.take (n*size)++(WI z.cells (E+1)).toList++f.toList.drop (n*size+(WI z.cells (E+1)).toList.length)).toArray,?_,⟨h.1,eS ⟨g,cap,_,rfl,Z,setRow_heap w g f _ e _ hg,U,Y,?_,?_⟩⟩,⟨rfl,rfl,rfl,Z3,λk _ hk=>setRow_other w g k _ hk⟩⟩;intro G;simp[YY,YH ht,hv,y];simp only[Xu,VJ,WD,Xf,Wz];simp only[Wz]at s;omega;have q:(f.toList.take (n*size)).length=n*size:=by rw[p,h.1]
 rw[XM,Wv (by rw[q];omega),VS (by rw[q];omega),p]
def qa8(T:VR)(f:P.underlying T=Bs (.slice (P.elem T)))(hs:∀w,(Zc (P.elem T)).run P w=.ok size w)(w:D0)(g n c v:Nat)(h:Int)(i:h=v)(k:v<=n) :
  (YJ T (WK (Bs ⟨g,0,B0⟩) n c) (Bs (Wm eQ h)) B0 B0).run P w=.ok (WK (Eu g v c size) (n-v) (c-v)) w:=by
 subst i;rw[run_slice_l w T _ n c f eQ (v:Int) Z0 Z0,hs];simp only[W8,sliced,XO,Eu];congr 2;split<;>simp[WM]
def Gk(T:VR)(f:P.underlying T=Bs (.slice (P.elem T)))(hs:∀w,(Zc (P.elem T)).run P w=.ok size w)(w:D0)(g n c v:Nat)(h:Int)(i:h=v)(k:v<=c) :
  (YJ T (WK (Bs ⟨g,0,B0⟩) n c) B0 (Bs (Wm eQ h)) B0).run P w=.ok (WK (Bs ⟨g,0,B0⟩) v c) w:=by
 subst i;rw[run_slice_h w T _ n c f eQ (v:Int) Z0 Z0,hs];simp only[W8,sliced,XO,Zp,Nat.sub_zero];congr 2;split<;>simp[E8]
def Mw(T:VR)(i:P.underlying T=Bs (.slice (P.elem T)))(hs:∀w,(Zc (P.elem T)).run P w=.ok size w)(w:D0)(g n c u v:Nat)(l h:Int)(hl:l=u)(k:h=v)(f:u<=v)(p:v<=c) :
  (YJ T (WK (Bs ⟨g,0,B0⟩) n c) (Bs (Wm eQ l)) (Bs (Wm eQ h)) B0).run P w=.ok (WK (Eu g u c size) (v-u) (c-u)) w:=by
 subst hl k;rw[run_slice_lh w T _ n c i eQ eQ (u:Int) (v:Int) Z0 Z0 Z0,hs];simp only[W8,sliced,XO,Eu];congr 2;split<;>simp[WM]
end
def qd0{w:D0}{o:XE}{a:Act}(s x:Yi)(t:VR)
  (k:o.op=.call {callee:=.builtin .append,args:=#[s,x],argTypes:=#[t,t]}) (v u r:S2) (hs:a.eval s=v) (i:a.eval x=u)
  (f:(XC #[t,t] o.type #[v,u]).run P w=.ok r w') (h:K (a.put o.dst r) w'):o.wp P a w K Q:=by
 unfold Yp Yr;simp only[k,resolve,invoke,builtin,Sem.run_bind,Sem.run_pure,Zv,List.map_toArray,WJ,XT,hs,i,f];exact h
def Lh:Tryz.prog.elem 86=116:=by kernel_rfl
def q7g:Tryz.prog.underlying 86=Bs (.slice (Tryz.prog.elem 86)):=by rw[Lh];exact Tryz.underlying86
def q7l(w:D0):(Zc (Tryz.prog.elem 86)).run Tryz.prog w=.ok 9 w:=by rw[Lh];kernel_rfl
def RL:S2:=.agg #[Wm eQ 0,Wm eQ 0,Wm eQ 0,Wm eQ 0,Wm eQ 0,Wm eQ 0,Wm eQ 0,Wm eQ 0,WK B0 0 0]
def Ji(w:D0):(Yh 116).run Tryz.prog w=.ok RL w:=by kernel_rfl
def mrs_one(l:List AW):∀u∈l.flatMap CQ,u.oneCell'=VD:=λu h=>by
 obtain⟨p,_,f⟩:=ZK.1 h;simp only[CQ,BF,Ye,X9,or_false]at f;obtain rfl|rfl|rfl|rfl|rfl|rfl|rfl|rfl|rfl:=f<;> rfl
def DelP(base f n cap:Nat)(xs:List S2)(w:D0)(e:WE)(w':D0):Prop:=
 e=ZY (WK (Bs ⟨f,0,B0⟩) n cap)/\w'.ownsRow base 116 9 (WK (Bs ⟨f,0,B0⟩) n cap) n xs/\Fr (λk=>k=f) w w'
def ND(base q n cap k:Nat)(xs:List S2)(w:D0)(h:w.ownsRow base 116 9 (WK (Bs ⟨q,0,B0⟩) n cap) n xs)(Y:k<n)(X:n<=100000)(W:∀u∈xs,u.oneCell'=VD) :
  VX Tryz.prog 77 #[WK (Bs ⟨q,0,B0⟩) n cap,Wm eQ k,Wm eQ ((k:Int)+1)] w (DelP base q (n-1) cap (xs.take (k*9)++xs.drop ((k+1)*9)) w):=by
 have O:=(It h).1;obtain⟨i,R,_,y,_⟩:=YM q7v;have J:((k:Int) == (k:Int)+1)=L1:=by simpa using (by omega:¬(k:Int)=(k:Int)+1)
 have s1:=λw=>Gk (size:=9) 86 q7g q7l w q n cap k (k:Int) rfl Z0
 have s2:=λw=>qa8 (size:=9) 86 q7g q7l w q n cap (k+1) ((k:Int)+1) Z0 Z0
 obtain⟨I,E,p,v⟩:=MA (w:=w.drew) 86 86 i Tryz.underlying86 R y h W (a:=k) (b:=k+1) Z0 Z0;have H:k+(n-(k+1))=n-1:=by omega
 rw[H]at E p;have v:Fr (λk=>k=q) w I:=⟨v.os,v.tape,v.output,v.size,v.block⟩
 obtain⟨w2,U,f,z⟩:=q6u 86 RL Tryz.underlying86 Ji (by rfl) Z2 p (m:=n-(n-1)) (c:=cap-(n-1)) Z0;have s3:=λw=>Mw (size:=9) 86 q7g q7l w q (n-1) cap (n-1) n ((n-1:Nat):Int) (n:Int) rfl rfl Z0 Z0
 have s:DelP base q (n-1) cap (xs.take (k*9)++xs.drop ((k+1)*9)) w (ZY (WK (Bs ⟨q,0,B0⟩) (n-1) cap)) w2:=⟨rfl,f,v.trans z⟩
 have G:=LH s;clear s p f v z h;have M:(k:Int)+1<=n:=by omega
 go_enter Tryz.func77,Tryz.ntmps77;go_wp2_with fail;refine nW ?_;refine Gp 0 rfl Z1 Z1 Z1 (λ_ _ _ h=>h) Z1 (λw=>by go_simp;rfl) ?_;refine Gp 1 rfl Z1 Z1 Z1 (λ_ _ _ h=>h) Z1 (λw=>by go_simp;rfl) ?_;refine Gp 2 rfl Z1 Z1 Z1 (λ_ _ _ h=>h) Z1 (λw=>by have:=s1 w;go_simp;rfl) ?_;refine Gp 3 rfl Z1 Z1 Z1 (λ_ _ _ h=>h) Z1 (λw=>by go_simp;rfl) ?_;refine Gp 4 rfl Z1 Z1 Z1 (λ_ _ _ h=>h) Z1 (λw=>by go_simp;rfl) ?_;refine Gp 5 rfl Z1 Z1 Z1 (λ_ _ _ h=>h) Z1 (λw=>by have:=s2 w;go_simp;rfl) ?_;refine ronly 6 Z1 rfl Z1 (λK F=>?_);refine qd0 (.tmp 22) (.tmp 25) 86 rfl _ _ _ rfl rfl E ?_;go_simp;refine F _ _ ?_;clear F K;refine ronly 7 Z1 rfl Z1 (λK F=>?_);go_simp;refine F _ _ ?_;clear F K;refine wpAny_done Z1 ?_ _;have:=s3 I;go_wp2_with fail;go_ret;exact G.o
def mrV(x:AW):S2:=DD x.m x.A x.n x.k
def Rp:AW:=⟨⟨0,0,0,0,0,⟨0,0,0,[]⟩⟩,B0,0,0⟩
def Qp:(Tryz.prog.info? 116).map (·.size)=Bs 9:=by kernel_rfl
def ret_mr{f:Func}{p u:Tmp}(h:f.results=#[.cell p 116,.tmp u])(tmps:Array S2)(w:D0)(g:Nat)(x:AW)(i:tmps.getD p Yl=ZW (Bs ⟨g,0,B0⟩))(k:Ae w g 116 (BF x.m x.A x.n x.k)) :
  (results f tmps).run Tryz.prog w=.ok (ZZ #[mrV x,tmps.getD u Yl]) w:=by
 rw[results_cell_tmp h,i];simp only[asAddr,Sem.run_pure,W8];rw[run_loadVar_row w g 116 116 (BF x.m x.A x.n x.k) (0,0) _ k Tryz.underlying116 rfl Qp];rfl
def q8s:∀(l:List AW)(k:Nat),(l.flatMap CQ).take (k*9)=(l.take k).flatMap CQ
 |[],k=>Z3
 |x::l,0=>Z3
 |x::l,k+1=>by
  have e:(k+1)*9=9+k*9:=by omega
  rw[VH,WZ,VH,e,<- q8s l k];rw[List.take_append,q2w,Nat.add_sub_cancel_left,VS (by rw[q2w];omega)]
def qcw:∀(l:List AW)(k:Nat),(l.flatMap CQ).drop (k*9)=(l.drop k).flatMap CQ
 |[],k=>Z3
 |x::l,0=>Z3
 |x::l,k+1=>by
  have e:(k+1)*9=9+k*9:=by omega
  rw[VH,Xj,e,<- qcw l k];rw[List.drop_append,q2w,Nat.add_sub_cancel_left,Yj (by rw[q2w];omega),WN]
def K9(l:List AW)(k:Nat):(l.flatMap CQ).take (k*9)++(l.flatMap CQ).drop ((k+1)*9)=(l.eraseIdx k).flatMap CQ:=by rw[q8s,qcw,<- Wq,List.eraseIdx_eq_take_drop_succ]
def TV(w:D0)(g:Nat)(x:AW):D0:=
 ((((((((w.setCell ⟨g,0,B0⟩ (Wm eQ x.m.aj)).setCell ⟨g,1,B0⟩ (Wm eQ x.m.ar)).setCell ⟨g,2,B0⟩ (Wm eQ x.m.a8)).setCell ⟨g,3,B0⟩ (Wm eQ x.m.ad)).setCell ⟨g,4,B0⟩ (Wm eQ x.m.n)).setCell ⟨g,5,B0⟩ (Wm eQ x.m.aY.aj)).setCell ⟨g,6,B0⟩ (Wm eQ x.m.aY.tx)).setCell ⟨g,7,B0⟩ (Wm eQ x.m.aY.ah)).setCell ⟨g,8,B0⟩ (WK x.A x.n x.k)
def Ld(w:D0)(g:Nat)(x:AW):Fr (λi=>i=g) w (TV w g x):=
 (((((((((Fr.refl (λi=>i=g) w).setCell (p:=⟨g,0,B0⟩) (.inl rfl) _).setCell (p:=⟨g,1,B0⟩) (.inl rfl) _).setCell (p:=⟨g,2,B0⟩) (.inl rfl) _).setCell (p:=⟨g,3,B0⟩) (.inl rfl) _).setCell (p:=⟨g,4,B0⟩) (.inl rfl) _).setCell (p:=⟨g,5,B0⟩) (.inl rfl) _).setCell (p:=⟨g,6,B0⟩) (.inl rfl) _).setCell (p:=⟨g,7,B0⟩) (.inl rfl) _).setCell (p:=⟨g,8,B0⟩) (.inl rfl) _
def G1{w:D0}{g:Nat}{x0:AW}(h:Ae w g 116 (BF x0.m x0.A x0.n x0.k))(x:AW):Ae (TV w g x) g 116 (BF x.m x.A x.n x.k):=by have:=((((((((h.aZ 0 (Wm eQ x.m.aj)).aZ 1 (Wm eQ x.m.ar)).aZ 2 (Wm eQ x.m.a8)).aZ 3 (Wm eQ x.m.ad)).aZ 4 (Wm eQ x.m.n)).aZ 5 (Wm eQ x.m.aY.aj)).aZ 6 (Wm eQ x.m.aY.tx)).aZ 7 (Wm eQ x.m.aY.ah)).aZ 8 (WK x.A x.n x.k);unfold TV;simpa [BF]using this
def TakeYes(base g off nd:Nat)(T:VR)(cs:Array S2)(V:S2)(D:Option Nat)(L:List AW)(dead:Int->Bool)(lost:Int)(k:Nat)(w:D0)(e:WE)(w':D0):Prop:=
 ∃V' x,L[k]? = Bs x/\e=ZY (ZZ #[mrV x,ZS])/\AO w' base g off T (cs.setIfInBounds off V') V' D nd (L.eraseIdx k) dead lost/\Et w' base x/\Fr (B7 g V D) w w'/\V'.ownBlock=V.ownBlock
def net_cut{w:D0}{base g nd:Nat}{T:VR}{cs:Array S2}{V:S2}{D:Option Nat}{L:List AW}{dead:Int->Bool}{lost:Int}{cap:Nat}{x:AW}
  (hI:AO w base g n T cs V D nd L dead lost) (Z:V=WK (Bs ⟨s,0,B0⟩) L.length cap) (O:L[k]? = Bs x) (U:Fr (λk=>w.heap.size<=k) w w2)
  (E:w'.ownsRow base 116 9 (WK (Bs ⟨s,0,B0⟩) (L.length-1) cap) (L.length-1) ((L.eraseIdx k).flatMap CQ)) (u:Fr (λk=>k=s) w2 w') :
  AO (w'.setCell ⟨g,n,B0⟩ (WK (Bs ⟨s,0,B0⟩) (L.length-1) cap)) base g n T (cs.setIfInBounds n (WK (Bs ⟨s,0,B0⟩) (L.length-1) cap)) (WK (Bs ⟨s,0,B0⟩) (L.length-1) cap) D nd (L.eraseIdx k) dead lost/\
   Et (w'.setCell ⟨g,n,B0⟩ (WK (Bs ⟨s,0,B0⟩) (L.length-1) cap)) base x/\Fr (B7 g V D) w (w'.setCell ⟨g,n,B0⟩ (WK (Bs ⟨s,0,B0⟩) (L.length-1) cap))/\Ae w' g T cs:=by
 have Y:k<L.length:=(ZC.1 O).1;have v:V.ownBlock=Bs s:=by rw[Z];rfl
 have X:=hI.vlt v;have f:AO w2 base g n T cs V D nd L dead lost:=hI.fr U (λh=>Z4 hI.al.lt) (λb q h=>Z4 (hI.vlt q)) (λb q h=>by have:=hI.down;rw[q]at this;have:=this.lt;omega) (λb t cs q _ h=>Z4 q.lt);have J:¬g=s:=λe=>Bh f.row f.al (λe=>hI.ne.1 e.symm) (by rw[v,e])
 have z:Ae w' g T cs:=u.al f.al J;have p:Fr (λk=>k=g) w' (w'.setCell ⟨g,n,B0⟩ (WK (Bs ⟨s,0,B0⟩) (L.length-1) cap)):=Fr.aL g w' n _;have F:∀y∈L,Et (w'.setCell ⟨g,n,B0⟩ (WK (Bs ⟨s,0,B0⟩) (L.length-1) cap)) base y:=λy I=>by
  have M:=f.own y I;have W:=u.own M.1 (λb q e=>by subst e;exact EX f.row M.1 Z2 v q);exact⟨p.own W (λb q e=>by subst e;exact Bh W z (λe=>hI.ne.2 e.symm) q),M.2⟩
 have G:n<cs.size:=by
  obtain h|h:=Xd n cs.size;exact h;have:=hI.c0;rw[Xa h]at this;cases this
 have H:(L.eraseIdx k).length=L.length-1:=by rw[List.length_eraseIdx_of_lt Y]
 refine⟨⟨z.aZ _ _,by simp[G],?_,?_,?_,λy I=>F y (List.mem_of_mem_eraseIdx I),?_,by rw[H];have:=hI.len;omega,hI.ne,?_⟩,F x (N2 O),?_,z⟩;rw[Wj Z0];exact hI.c1;rw[Wj Z0];exact hI.c2;rw[H];exact p.own E (λb q e=>by subst e;exact Bh E z (λe=>hI.ne.1 e.symm) q);refine(f.down.fr u (λb q e=>?_)).fr p (λb q e=>?_);subst e;exact f.down.bn f.row q v;subst e;exact f.down.aV f.al q;exact VK f.bg (VK u.size p.size);refine(U.mono (T:=B7 g V D) (λi R (h:w.heap.size<=i)=>ZB R Z0)).trans' ((u.mono (T:=λk=>k=s\/k=g) (λi _ h=>eR h)).trans' p (λi _ h=>eS h)) (λi R h=>?_);obtain rfl|rfl:=h;exact eS (eR v.symm);exact eR rfl
def MU{w:D0}{base e size:Nat}(h:w.ownsRow base e size v n xs)(k:0<n):∃g cap,v=WK (Bs ⟨g,0,B0⟩) n cap/\base<=g/\g<w.heap.size:=by obtain⟨g,cap,i,p,f⟩:=h.form k;exact⟨g,cap,i,p,f⟩
def JQ(base g off nd:Nat)(T:VR)(cs:Array S2)(V:S2)(D:Option Nat)(L:List AW)(dead:Int->Bool)(lost:Int)(k:Nat)(w:D0)
  (hI:AO w base g off T cs V D nd L dead lost) (hk:k<L.length):VX Tryz.prog 48 #[ZW (Bs ⟨g,off,B0⟩),Wm eQ k] w (TakeYes base g off nd T cs V D L dead lost k w):=by
 obtain⟨I,cap,R,af,ab⟩:=MU hI.row Z0;have M:=Rd.a7 (by rw[<- R];exact hI.row:w.ownsRow base 116 9 (WK (Bs ⟨I,0,B0⟩) L.length cap) L.length (L.flatMap CQ));obtain⟨g',o',x,hA,_,Y,h0,h1,h2,h3,h4,h5,h6,h7,h8⟩:=M.cO rfl hk;simp only[VN,Xe,and_true]at hA;obtain⟨rfl,rfl⟩:=hA;rw[Wk]at h0 h1 h2 h3 h4 h5 h6 h7 h8;have c0:=(hI.al.cell off).trans hI.c0;rw[R]at c0;have Z:=hI.len;have ae:=hI.al.lt;have HI:=LH hI;clear hI;have U:=LH R;clear R M;have HX:=LH Y;clear Y;have ac:(k:Int)<L.length:=by omega
 have ad:¬(k:Int)<0:=by omega
 have a9:¬(L.length:Int)<=k:=by omega
 go_enter Tryz.func48,Tryz.ntmps48;go_wp2_with fail;have y:Fr (λk=>w.heap.size<=k) w ((w.alloc (eT (BF Rp.m B0 0 0) 116)).alloc (eT (BF x.m x.A x.n x.k) 116)):=((Fr.refl _ _).alloc _).alloc _;have H:Ae ((w.alloc (eT (BF Rp.m B0 0 0) 116)).alloc (eT (BF x.m x.A x.n x.k) 116)) w.heap.size 116 (BF Rp.m B0 0 0):=(Ae.b4 w _ _).alloc _;have G:Ae ((w.alloc (eT (BF Rp.m B0 0 0) 116)).alloc (eT (BF x.m x.A x.n x.k) 116)) (w.heap.size+1) 116 (BF x.m x.A x.n x.k):=by
  have:=Ae.b4 (w.alloc (eT (BF Rp.m B0 0 0) 116)) 116 (BF x.m x.A x.n x.k);simpa using this
 have p:=y.own HI.o.row (λb F (h:w.heap.size<=b)=>Z4 (HI.o.vlt F));rw[U.o]at p;unfold BF Rp at y H G p;generalize ((w.alloc _).alloc _)=w2 at *;refine(ND base I L.length cap k _ w2 p hk Z0 (mrs_one L)).mono ?_;rintro e w3 ⟨rfl,s,z⟩;rw[K9]at s;obtain⟨hN,hO,hF,E⟩:=net_cut HI.o U.o HX.o y s z;have z0:=E.cell off;have z1:=E.frozen off;rw[HI.o.c0,U.o]at z0;have W:¬g=w.heap.size:=by omega
 have v:Fr (λk=>k=g) w3 (w3.setCell ⟨g,off,B0⟩ (WK (Bs ⟨I,0,B0⟩) (L.length-1) cap)):=Fr.aL g w3 off _;have f:=v.al (z.al H (λh:w.heap.size=I=>Z0)) (λh:w.heap.size=g=>Z0);have q:=v.al (z.al G (λh:w.heap.size+1=I=>Z0)) (λh:w.heap.size+1=g=>Z0);have aa:=E.lt;have HN:=LH hN;clear hN;have X:=LH hO;clear hO;have HF:=LH hF;clear hF;clear v E s z p y H G h0 h1 h2 h3 h4 h5 h6 h7 h8 c0;go_upto_region 5 with (fail)
 generalize w3.setCell ⟨g,off,B0⟩ (WK (Bs ⟨I,0,B0⟩) (L.length-1) cap)=w4 at *;have a0:=f.cell 0;have a1:=f.cell 1;have a2:=f.cell 2;have a3:=f.cell 3;have a4:=f.cell 4;have a5:=f.cell 5;have a6:=f.cell 6;have a7:=f.cell 7;have a8:=f.cell 8;have f0:=f.frozen 0;have f1:=f.frozen 1;have f2:=f.frozen 2;have f3:=f.frozen 3;have f4:=f.frozen 4;have f5:=f.frozen 5;have f6:=f.frozen 6;have f7:=f.frozen 7;have f8:=f.frozen 8;have b0:=q.cell 0;have b1:=q.cell 1;have b2:=q.cell 2;have b3:=q.cell 3;have b4:=q.cell 4;have b5:=q.cell 5;have b6:=q.cell 6;have b7:=q.cell 7;have b8:=q.cell 8;simp only[NW,O0,Ft]at a0 a1 a2 a3 a4 a5 a6 a7 a8 b0 b1 b2 b3 b4 b5 b6 b7 b8;have J:=LH f;clear f;go_wp2_with fail;have u:=Ld w4 w.heap.size x;refine Zu (ret_mr rfl _ _ w.heap.size x rfl (G1 (x0:=Rp) J.o x)) rfl ⟨_,x,HX.o,rfl,HN.o.fr u (λh=>W h) (λb F h=>?_) (λb F h=>?_) (λb t cs F ht h=>?_),⟨u.own X.o.1 (λb F h=>?_),X.o.2⟩,HF.o.trans' u (λi hi (h:i=w.heap.size)=>ZB hi Z0),by rw[U.o];rfl⟩;have e:I=b:=by simpa [Wa]using F
 have O:b=w.heap.size:=h;omega;have O:b=w.heap.size:=h;have:=HI.o.down;rw[F]at this;have:=this.lt;omega;have O:b=w.heap.size:=h;subst O;exact ZB rfl (Ae.ne_ J.o F (by rw[ht];decide));have O:b=w.heap.size:=h;subst O;exact Bh X.o.1 J.o Z2 F
def GJ:(Tryz.prog.info? 116).map (·.size)=Bs 9:=by kernel_rfl
def msgP(m:Ms)(w:D0)(e:WE)(w':D0):Prop:=e=ZY (DD m B0 0 0)/\VI w.heap.size w w'
def q7t(h:BT w base g C V L d)(kind b k:Int)(R:0<=d.aN+b)(O:d.aN+b<d.aI.length) :
  VX Tryz.prog 79 #[ZW (Bs ⟨g,0,B0⟩),Wm eQ kind,Wm eQ b,Wm eQ k] w (msgP (d.b9 kind b k) w):=by
 obtain⟨c0,c1,c2,c3,_,_,X⟩:=h.cells;obtain⟨A,c,rfl⟩:=h.eC;obtain⟨j,y⟩:∃j:Nat,d.aN+b=j:=⟨(d.aN+b).toNat,Z0⟩
 have H:(j:Int)<d.aI.length:=by omega
 obtain⟨Z,W,u,rfl,I,s,cu⟩:=(Rd.a7 h.cz).dg (k:=j) Z0;rw[VQ]at s;have J:=h.cd;have q:d.aI[j]? = Bs d.aI[j]:=K0 Z0;rw[q]at s;obtain rfl:=Wn s;have p:d.a8 b=d.aI[j]:=by unfold Nd.a8;rw[y];simp[q]
 have f:∀z,VI w.heap.size w z->msgP (d.b9 kind b k) w (ZY (.agg #[Wm eQ kind,Wm eQ d.id,Wm eQ d.aI[j],Wm eQ d.ad,Wm eQ k,Wm eQ 0,Wm eQ 0,Wm eQ 0,WK B0 0 0])) z:=λz M=>⟨by unfold Nd.b9 DD cm0;rw[p],M⟩
 have U:=LH f;clear f;have Y:IntKind.i64.wrap (d.aN+b)=(j:Int):=by rw[V4 _ ⟨Z0,Z0⟩,y]
 have E:(0:Int)<=(j:Int):=by omega
 generalize d.aI[j]=F at *;have G:d.aI.length<=6:=J;generalize v:d.aI.length=n at *;generalize d.aN=a at *;generalize d.id=i at *;generalize d.ad=ep at *;clear h q p y R O v;go_enter Tryz.func79,Tryz.ntmps79;go_wp2_with fail;refine X2 25 Z1 Z1 ?_;change wpStill _ _ (YC _) _ _ _;simp only[WZ,X3,Xj,YG]
 repeat still_step
 refine wpStill_nil ?_;change Yk _ _ _ _ _ (YC _);go_wp2_with fail;refine Zu (results_cell_row rfl _ _ w.heap.size 116 _ (0,0) _ rfl (show _ from Ae.b4 w _ _) Tryz.underlying116 rfl GJ) rfl ?_;exact U.o _ ((VC _ _).alloc (Hi _) _).drew
def fwdP(m:Ms)(n:Nat)(w:D0)(e:WE)(w':D0):Prop:=∃A k,e=ZY (DD m A n k)/\w'.ownsRow w.heap.size 45 3 (WK A n k) n (m.aY.ae.flatMap Dj)/\VI w.heap.size w w'
def rd4{w:D0}{l:List BI}(h:Rd w B 4 A n (l.flatMap El))(hl:l.length=n)(v:j<n):∃g off x,A=Bs ⟨g,off,B0⟩/\g<B/\l[j]? = Bs x/\
  w.cell? ⟨g,off+j*4,B0⟩=Bs (Wm eQ x.c.aj)/\w.cell? ⟨g,off+j*4+1,B0⟩=Bs (Wm eQ x.c.tx)/\w.cell? ⟨g,off+j*4+2,B0⟩=Bs (Wm eQ x.c.ah)/\w.cell? ⟨g,off+j*4+3,B0⟩=Bs (WK x.A x.n x.k):=by
 obtain⟨g,off,e,k,f⟩:=h.2 Z0;have i:l[j]? = Bs l[j]:=K0 Z0;obtain⟨u,s,q,p⟩:=flat4 l j _ i;exact⟨g,off,l[j],e,k,i,f _ _ u,f _ _ s,f _ _ q,f _ _ p⟩
def Fh.bB{x:BI}(h:Fh w base x):Gr w w.heap.size x.A x.n x.c.ae:=⟨h.2.1,Rd.a7 h.1⟩
def Fh.bo{x:BI}(h:Fh w base x):x.A=B0->x.k=0:=λe=>by
 obtain⟨f,_⟩|⟨k,cap,i,f,_⟩:=h.1.2;injection f;rw[e]at f;injection f with f;cases f
def qb8(h:BT w base g C V L d)(k:Nat)(x:BI)(hx:L[k]? = Bs x)(h0:0<=d.aN)(h1:d.aN+1<d.aI.length) :
  VX Tryz.prog 80 #[ZW (Bs ⟨g,0,B0⟩),.int eQ k] w (fwdP (d.a6 k) x.n w):=by
 have aj:=(ZC.1 hx).1;have ap:=h.len;have ac:d.a6 k=⟨3,d.id,d.a8 1,d.ad,k,x.c⟩:=by
  unfold Nd.a6;rw[<- h.a4,AQ,VQ,hx];rfl
 rw[ac];have I:VI w.heap.size w (w.alloc (eT (BF Rp.m B0 0 0) 116)):=(VC _ _).alloc (Hi _) _;have J:=h.aW I;have HC:=LH (q7t J 3 1 k Z0 h1);have u:Ae (w.alloc (eT (BF Rp.m B0 0 0) 116)) w.heap.size 116 (BF Rp.m B0 0 0):=Ae.b4 w _ _;unfold BF Rp at HC u I J;have X:=LH u;clear u;have ag:=LH J;clear J;have Z:=LH I;clear I;have HX:=LH hx;clear hx;clear h ac;go_enter Tryz.func80,Tryz.ntmps80;go_wp2_with fail;refine HC.o.mono ?_;rintro e p ⟨rfl,G⟩;have s:=ag.o.aW G;have u:=X.o.below G X.o.lt;have ai:=LH (Z.o.trans (G.mono Z.o.size));clear HC ag X Z G;unfold Nd.b9 cm0 DD;have y:=s.aW ((VC p.heap.size p).alloc (Hi _) (eT #[.int eQ 3,.int eQ d.id,.int eQ (d.a8 1),.int eQ d.ad,.int eQ k,.int eQ 0,.int eQ 0,.int eQ 0,WK B0 0 0] 116));obtain⟨A,c,rfl⟩:=s.dL;obtain⟨gl,ol,x',rfl,av,U,l0,l1,l2,l3⟩:=rd4 (Rd.a7 s.row) rfl aj;rw[HX.o]at U;obtain rfl:=Wn U;obtain⟨_,_,_,_,c4,_,kl⟩:=s.cells;clear U;have ak:=LH y;clear y;have HN:=LH s;clear s;have HA:=LH u;clear u;go_upto_region 3 with (fail)
 have i:Ae (p.alloc (eT #[.int eQ 3,.int eQ d.id,.int eQ (d.a8 1),.int eQ d.ad,.int eQ k,.int eQ x.c.aj,.int eQ x.c.tx,.int eQ x.c.ah,WK x.A x.n x.k] 116)) p.heap.size 116 #[.int eQ 3,.int eQ d.id,.int eQ (d.a8 1),.int eQ d.ad,.int eQ k,.int eQ x.c.aj,.int eQ x.c.tx,.int eQ x.c.ah,WK x.A x.n x.k]:=Ae.b4 p _ _;have q:VI p.heap.size p (p.alloc (eT #[.int eQ 3,.int eQ d.id,.int eQ (d.a8 1),.int eQ d.ad,.int eQ k,.int eQ x.c.aj,.int eQ x.c.tx,.int eQ x.c.ah,WK x.A x.n x.k] 116)):=(VC _ _).alloc (Hi _) _;have y:=HN.o.aW q;have ae:=HA.o.below q HA.o.lt;have au:p.heap.size<(p.alloc (eT #[.int eQ 3,.int eQ d.id,.int eQ (d.a8 1),.int eQ d.ad,.int eQ k,.int eQ x.c.aj,.int eQ x.c.tx,.int eQ x.c.ah,WK x.A x.n x.k] 116)).heap.size:=by simp
 have ao:w.heap.size<p.heap.size:=HA.o.lt;have ab:w.heap.size≠p.heap.size:=by omega
 have Y:=LH (ai.o.trans (q.mono ai.o.size));clear q;clear HN HA ak l0 l1 l2 l3 c4;generalize (p.alloc _)=w2 at *;generalize p.heap.size=O at *;have F:=y.own x (N2 HX.o);have ah:=LH (qbk w.heap.size w2.heap.size x.n x.k x.A x.c.ae w2 F.bB (Hi _) Y.o.size F.2.2 F.bo);have e8:=i.cell 8;simp only[NW,Ft,O0]at e8;have a9:=LH ae;clear ae;have W:=LH i;clear i;clear F y;go_wp2_with fail;refine ah.o.mono ?_;rintro e w3 ⟨R,M,rfl,v,H⟩;clear ah e8;have i:=W.o.below H W.o.lt;have f:=a9.o.below H a9.o.lt;have al:=LH (Y.o.trans (H.mono Y.o.size));clear H W a9;have a0:=f.cell 0;have a1:=f.cell 1;have a2:=f.cell 2;have a3:=f.cell 3;have a4:=f.cell 4;have a5:=f.cell 5;have a6:=f.cell 6;have a7:=f.cell 7;have a8:=f.cell 8;have f0:=f.frozen 0;have f1:=f.frozen 1;have f2:=f.frozen 2;have f3:=f.frozen 3;have f4:=f.frozen 4;have f5:=f.frozen 5;have f6:=f.frozen 6;have f7:=f.frozen 7;have f8:=f.frozen 8;have b0:=i.cell 0;have b1:=i.cell 1;have b2:=i.cell 2;have b3:=i.cell 3;have b4:=i.cell 4;have b5:=i.cell 5;have b6:=i.cell 6;have b7:=i.cell 7;have b8:=i.cell 8;have z8:=i.frozen 8;simp only[NW,O0,Ft]at a0 a1 a2 a3 a4 a5 a6 a7 a8 b0 b1 b2 b3 b4 b5 b6 b7 b8;have ad:=(Fr.aL O w3 8 (WK R x.n M)).al f (λh:w.heap.size=O=>ab h);have am:=LH ad;clear ad;have E:=LH v;clear v;have aq:=i.lt;have ar:=f.lt;have aa:∀b,(WK R x.n M).ownBlock=Bs b->b≠O/\b≠w.heap.size:=λb hb=>⟨λe=>Bh E.o i Z2 (e▸hb),λe=>Bh E.o f Z2 (e▸hb)⟩
 have af:=LH aa;clear aa;clear i f;have an:¬O=w.heap.size:=λe=>ab e.symm
 go_wp2_with fail;refine Zu (results_cell_row rfl _ _ w.heap.size 116 _ (0,0) _ rfl (G1 (x0:=Rp) am.o ⟨⟨3,d.id,d.a8 1,d.ad,k,x.c⟩,R,x.n,M⟩) Tryz.underlying116 rfl GJ) rfl ?_;have z:=Ld (w3.setCell ⟨O,8,B0⟩ (WK R x.n M)) w.heap.size ⟨⟨3,d.id,d.a8 1,d.ad,k,x.c⟩,R,x.n,M⟩;refine⟨R,M,rfl,z.own ((Fr.aL O w3 8 (WK R x.n M)).own E.o (λb hb=>(af.o b hb).1)) (λb hb=>(af.o b hb).2),?_⟩;exact al.o.trans ((((Fr.aL O w3 8 (WK R x.n M)).below (B:=w.heap.size) (λb (e:b=O)=>by rw[e];omega) Z0)).trans (z.below (λb (e:b=w.heap.size)=>Z0) (by simp[YB];omega)))
def BM(B:Nat)(ms:List Ms)(V:S2)(w':D0):Prop:=
 ∃A k M,V=WK A ms.length k/\w'.ownsRow B 116 9 V M.length (M.flatMap CQ)/\AI M=ms/\∀x∈M,Et w' B x/\x.n<=100000
def BM.nil(B:Nat)(w':D0):BM B [] (WK B0 0 0) w':=⟨B0,0,[],rfl,VW _ _ _ _,rfl,λ_ h=>(nomatch h)⟩
def qaq{m:Ms}(f:w'.ownsRow B 116 9 v 1 (BF m A n k).toList)(h:w'.ownsRow B 45 3 (WK A n k) n (m.aY.ae.flatMap Dj))(hl:m.aY.ae.length=n)(p:n<=100000):BM B [m] v w':=by obtain⟨q,c,rfl,_,_⟩:=AM f;refine⟨q,c,[⟨m,A,n,k⟩],rfl,by simpa [CQ]using f,rfl,λx i=>?_⟩;rw[VU]at i;subst i;exact⟨⟨h,hl⟩,p⟩
def BM.aW{w:D0}{ms:List Ms}{V:S2}(h:BM B ms V w)(s:VI w.heap.size w w'):BM B ms V w':=by
 obtain⟨A,k,M,e,p,y,u⟩:=h;have v:Fr (λb=>w.heap.size<=b) w w':=⟨s.os,s.tape,s.output,s.size,λi _ E=>s.block i Z0⟩
 exact⟨A,k,M,e,v.own p (λb q z=>Z4 ((p.lt b q).2)),y,λx f=>⟨⟨v.own (u x f).1.1 (λb q z=>Z4 (((u x f).1.1.lt b q).2)),(u x f).1.2⟩,(u x f).2⟩⟩
def BM.de{w:D0}{B':Nat}{ms:List Ms}{V:S2}(h:BM B ms V w)(q:B'<=B):BM B' ms V w:=by obtain⟨A,k,M,e,i,s,p⟩:=h;exact⟨A,k,M,e,MJ i q,s,λx f=>⟨⟨MJ (p x f).1.1 q,(p x f).1.2⟩,(p x f).2⟩⟩
def BT.di(h:BT w base g C V L d){b:Nat}(f:C.ownBlock=Bs b\/V.ownBlock=Bs b\/∃x∈L,(WK x.A x.n x.k).ownBlock=Bs b):b≠g:=by rintro rfl;obtain f|f|⟨x,i,f⟩:=f;exact Bh h.cz h.al Z2 f;exact Bh h.row h.al Z2 f;exact Bh (h.own x i).1 h.al Z2 f
def BT.cH(h:BT w base g C V L d){k:Int}(s:0<=k)(q:k<=500):BT (w.setCell ⟨g,5,B0⟩ (Wm eQ k)) base g C V L {d with ao:=k}:=by have p:=Fr.aL g w 5 (Wm eQ k);refine⟨h.al.aZ 5 _,p.own h.cz (λb f e=>h.di (eR f) e),p.own h.row (λb f e=>h.di (eS (eR f)) e),λx i=>⟨p.own (h.own x i).1 (λb f e=>h.di (eS (eS ⟨x,i,f⟩)) e),(h.own x i).2⟩,h.a4,h.len,h.cd,h.at0,h.dg,s,q,h.lo⟩
def Df(base g:Nat)(C V:S2)(L:List BI)(d:Nd)(w:D0)(e:WE)(w':D0):Prop:=
 ∃f,e=ZY f/\BM w.heap.size d.aD.2 f w'/\BT w' base g C V L d.aD.1/\Fr (λb=>b=g) w w'
def Df.of{h:Nd}{ms:List Ms}{f:S2}(i:d.aD=(h,ms))(k:BM w.heap.size ms f w')(p:BT w' base g C V L h)(q:Fr (λb=>b=g) w w'):Df base g C V L d w (ZY f) w':=by unfold Df;rw[i];exact⟨f,rfl,k,p,q⟩
def q99(h:BT w base g C V L d):VX Tryz.prog 55 #[ZW (Bs ⟨g,0,B0⟩)] w (Df base g C V L d w):=by
 by_cases ha:d.aN<0
 ·have f:Df base g C V L d w (ZY (WK B0 0 0)) w:=Df.of (by unfold Nd.aD;rw[Z8 ha]) (BM.nil _ _) h (Fr.refl _ _);obtain⟨_,_,_,c3,_,_,kl⟩:=h.cells;have U:=LH f;clear f h;go_enter Tryz.func55,Tryz.ntmps55;go_wp2_with fail;go_ret;exact U.o
 cases G:d.tail
 ·
  have q:d.aD=(d,[d.b9 1 1 d.a4.length]):=by unfold Nd.aD;rw[Z7 ha,G];rfl
  have a2:d.aN+1<d.aI.length:=by
   have:=h.dg;obtain h1|h1:=(show d.aN+1<d.aI.length\/d.aN=(d.aI.length:Int)-1 by omega)
   exact h1;exfalso;unfold Nd.tail at G;rw[ZA (show d.aN>=0 by omega),YQ]at G;rw[h1]at G;simp at G
  obtain⟨_,_,_,c3,_,_,kl⟩:=h.cells;have R:=LH (q9b h);rw[G]at R;have H:=LH h;clear h;go_enter Tryz.func55,Tryz.ntmps55;go_wp2_with fail;refine R.o.mono ?_;rintro e w1 ⟨rfl,y⟩;have p:=H.o.aW y;obtain⟨A,c,rfl⟩:=p.dL;obtain⟨_,_,_,_,c4,_,X⟩:=p.cells;have Z:=p.len;have E:=p.c9;clear R c3;have HM:=LH (q7t p 1 1 L.length Z0 a2);have a0:=LH p;clear p;have W:=LH y;clear y;go_wp2_with fail;refine HM.o.mono ?_;rintro e w2 ⟨rfl,O⟩;have s:=a0.o.aW O;have F:=LH (W.o.trans (O.mono W.o.size));clear HM O a0 W c4;have I:=LH s;clear s;unfold DD;go_wp2_with (at_builtin;refine stop ?_)
  refine CD ?_;refine Oq _ _ rfl (.tmp 36) (.tmp 44) 86 rfl w2.heap.size 116 _ 9 88 Tryz.underlying86 q7v rfl Z2 _ 0 [] #[.int eQ 1,.int eQ d.id,.int eQ (d.a8 1),.int eQ d.ad,.int eQ L.length,.int eQ 0,.int eQ 0,.int eQ 0,WK B0 0 0] rfl (VW _ _ _ _) 1 rfl _ rfl rfl (by simp[Wx]) Zx Z0 (Hi _) ?_;intro v' w3 u z;have v:Fr (λ_=>False) w2 w3:=z.1.mono (λi hi e=>by cases e);have f:Df base g (C) (WK A L.length c) L d w (ZY v') w3:=by
   refine Df.of q (qaq (A:=B0) (n:=0) (k:=0) (m:=d.b9 1 1 d.a4.length) ?_ (VW _ _ _ _) rfl Z0) (I.o.aW v.bH) ((Below.fr F.o _).trans (v.mono (λ_ _ h=>h.elim)));rw[E];exact MJ u F.o.size
  have U:=LH f;clear f u z v;go_wp2_with fail;go_ret;exact U.o
 obtain⟨_,_,_,c3,_,_,kl⟩:=h.cells;have R:=LH (q9b h);rw[G]at R;have H:=LH h;clear h;go_enter Tryz.func55,Tryz.ntmps55;go_wp2_with fail;refine R.o.mono ?_;rintro e w1 ⟨rfl,y⟩;have p:=H.o.aW y;obtain⟨A,c,rfl⟩:=p.dL;obtain⟨_,_,_,a3,c4,c5,X⟩:=p.cells;have f5:=p.al.frozen 5;have Z:=p.len;have E:=p.c9;have s:=p.cH (k:=L.length) Z0 Z0;have F:=LH ((Below.fr y (λb=>b=g)).trans (Fr.aL g w1 5 (.int eQ L.length)));clear R c3 p H y;by_cases J:d.aN > 0
 ·have q:d.aD=({d with ao:=d.a4.length},[d.b9 4 (-1) d.a4.length]):=by unfold Nd.aD;rw[Z7 Z0,G,Z8 rfl,Z8 J]
  have HM:=LH (q7t s 4 (-1) L.length (show 0<=d.aN + -1 by omega) (show d.aN + -1<d.aI.length by have:=s.dg;simp only at this;omega));have d5:=s.cells.2.2.2.2.2.1;have a5:=s.cells.2.2.2.2.2.2;have I:=LH s;clear s;go_wp2_with fail;clear a3 c4 c5 f5 X;generalize (w1.setCell _ _)=w2 at *;refine HM.o.mono ?_;rintro e w3 ⟨rfl,M⟩;have Y:=I.o.aW M;have a1:=LH (F.o.trans (Below.fr M _));clear HM M I;have a4:=LH Y;clear Y;unfold DD;go_wp2_with (at_builtin;refine stop ?_)
  refine CD ?_;refine Oq _ _ rfl (.tmp 17) (.tmp 24) 86 rfl w3.heap.size 116 _ 9 88 Tryz.underlying86 q7v rfl Z2 _ 0 [] #[.int eQ 4,.int eQ d.id,.int eQ (d.a8 (-1)),.int eQ d.ad,.int eQ L.length,.int eQ 0,.int eQ 0,.int eQ 0,WK B0 0 0] rfl (VW _ _ _ _) 1 rfl _ rfl rfl (by simp[Wx]) Zx Z0 (Hi _) ?_;intro v' w4 u z;have v:Fr (λ_=>False) w3 w4:=z.1.mono (λi hi e=>by cases e);have f:Df base g (C) (WK A L.length c) L d w (ZY v') w4:=by
   refine Df.of q (qaq (A:=B0) (n:=0) (k:=0) (m:=d.b9 4 (-1) d.a4.length) ?_ (VW _ _ _ _) rfl Z0) ?_ (a1.o.trans (v.mono (λ_ _ h=>h.elim)));rw[E];exact MJ u a1.o.size;rw[E];exact a4.o.aW v.bH
  have U:=LH f;clear f u z v;go_wp2_with fail;go_ret;exact U.o
 have q:d.aD=({d with ao:=d.a4.length},[]):=by unfold Nd.aD;rw[Z7 Z0,G,Z8 rfl,Z7 J]
 have f:Df base g C (WK A L.length c) L d w (ZY (WK B0 0 0)) (w1.setCell ⟨g,5,B0⟩ (.int eQ L.length)):=Df.of q (BM.nil _ _) (by rw[E];exact s) F.o;have U:=LH f;clear f s;go_wp2_with fail;go_ret;exact U.o
def G8:(Tryz.prog.info? 69).map (λi=>(i.zero,i.size,i.bytes))=Bs (Bs (.agg #[Wm eQ 0,Wm eQ 0,Wm eQ 0,WK B0 0 0]),4,48):=by kernel_rfl
def QJ:(Tryz.prog.info? 3).map (λi=>(i.zero,i.size,i.bytes))=Bs (Bs (Wm eQ 0),1,8):=by kernel_rfl
def crs_one(l:List BI):∀u∈l.flatMap El,u.oneCell'=VD:=λu h=>by
 obtain⟨p,_,f⟩:=ZK.1 h;unfold El at f;simp only[Ye,X9,or_false]at f;obtain rfl|rfl|rfl|rfl:=f<;> rfl
def TD(l:List Int):∀u∈l.map (Wm eQ),u.oneCell'=VD:=λu f=>by
 obtain⟨p,_,rfl⟩:=List.mem_map.1 f;rfl
def I6(base:Nat)(n:Nat)(l:List BI)(w:D0)(e:WE)(w':D0):Prop:=
 ∃A k,e=ZY (WK A n k)/\w'.ownsRow base 69 4 (WK A n k) n (l.flatMap El)/\VI w.heap.size w w'/\(∀b,Wa (WK A n k)=Bs b->w.heap.size<=b)
def NK(base n:Nat)(V:S2)(l:List BI)(w:D0)(h:w.ownsRow base 69 4 V n (l.flatMap El))(i:base<=w.heap.size)(I:n<=100000) :
  VX Tryz.prog 76 #[V] w (I6 base n l w):=by
 obtain⟨rfl,s⟩|⟨g,cap,G,rfl,_⟩:=h.2
 ·subst s;have p:I6 base 0 l w (ZY (WK B0 0 0)) w:=⟨B0,0,rfl,h,VC _ _,λb i=>by simp[Wa]at i⟩
  have y:=LH p;clear p h;have k:=X8 w 66 _ B0 0 0 0 0 Tryz.underlying66;go_enter Tryz.func76,Tryz.ntmps76;go_wp2_with fail;go_ret;exact y.o
 have H:=LH h;clear h;have k:=X8 w 66 _ (Bs ⟨g,0,B0⟩) n cap 0 0 Tryz.underlying66;go_enter Tryz.func76,Tryz.ntmps76;go_wp2_with (at_builtin;refine stop ?_)
 refine CD ?_;have hs:VI w.heap.size w (w.alloc (eT #[] 69)):=(VC _ _).alloc (Hi _) _;have q:=(Rd.a7 H.o).below hs;refine q1o _ rfl (.tmp 5) (.tmp 6) 66 rfl base 69 _ 4 48 Tryz.underlying66 G8 rfl Z2 _ 0 [] rfl (qao w base _ _ i) w.heap.size _ n cap (l.flatMap El) rfl q.bB (crs_one l) Zx Z0 Zz ?_;intro v' w' f u;rw[Wk,WN]at f;obtain⟨z,c,rfl,_,_⟩:=AM f;have p:I6 base n l w (ZY (WK z n c)) w':=⟨z,c,rfl,f,hs.trans (u.below (λg E=>by have e:Bs w.heap.size=Bs g:=E;injection e with e;omega) Z3),λb i=>by
  obtain e|⟨J,e,v⟩:=u.2;have F:Wa (WK z n c)=Bs w.heap.size:=e;rw[F]at i;injection i with i;omega;rw[e]at i;injection i with i;simp at v;omega⟩
 have y:=LH p;clear p f u hs;go_wp2_with fail;go_ret;exact y.o
def I5(base:Nat)(n:Nat)(l:List Int)(w:D0)(e:WE)(w':D0):Prop:=
 ∃A k,e=ZY (WK A n k)/\w'.ownsRow base 3 1 (WK A n k) n (l.map (Wm eQ))/\VI w.heap.size w w'/\(∀b,Wa (WK A n k)=Bs b->w.heap.size<=b)
def NJ(base n:Nat)(V:S2)(l:List Int)(w:D0)(h:w.ownsRow base 3 1 V n (l.map (Wm eQ)))(i:base<=w.heap.size)(I:n<=100000) :
  VX Tryz.prog 105 #[V] w (I5 base n l w):=by
 obtain⟨rfl,s⟩|⟨g,cap,G,rfl,_⟩:=h.2
 ·subst s;have p:I5 base 0 l w (ZY (WK B0 0 0)) w:=⟨B0,0,rfl,h,VC _ _,λb i=>by simp[Wa]at i⟩
  have y:=LH p;clear p h;have k:=X8 w 26 _ B0 0 0 0 0 Tryz.underlying26;go_enter Tryz.func105,Tryz.ntmps105;go_wp2_with fail;go_ret;exact y.o
 have H:=LH h;clear h;have k:=X8 w 26 _ (Bs ⟨g,0,B0⟩) n cap 0 0 Tryz.underlying26;go_enter Tryz.func105,Tryz.ntmps105;go_wp2_with (at_builtin;refine stop ?_)
 refine CD ?_;have hs:VI w.heap.size w (w.alloc (eT #[] 3)):=(VC _ _).alloc (Hi _) _;have q:=(Rd.a7 H.o).below hs;refine q1o _ rfl (.tmp 5) (.tmp 6) 26 rfl base 3 _ 1 8 Tryz.underlying26 QJ rfl Z2 _ 0 [] rfl (qao w base _ _ i) w.heap.size _ n cap (l.map (Wm eQ)) rfl q.bB (TD l) Zx Z0 Zz ?_;intro v' w' f u;rw[Wk,WN]at f;obtain⟨z,c,rfl,_,_⟩:=AM f;have p:I5 base n l w (ZY (WK z n c)) w':=⟨z,c,rfl,f,hs.trans (u.below (λg E=>by have e:Bs w.heap.size=Bs g:=E;injection e with e;omega) Z3),λb i=>by
  obtain e|⟨J,e,v⟩:=u.2;have F:Wa (WK z n c)=Bs w.heap.size:=e;rw[F]at i;injection i with i;omega;rw[e]at i;injection i with i;simp at v;omega⟩
 have y:=LH p;clear p f u hs;go_wp2_with fail;go_ret;exact y.o
def LogP(base:Nat)(L:List BI)(w:D0)(e:WE)(w':D0):Prop:=∃A k,e=ZY (WK A L.length k)/\w'.ownsRow base 69 4 (WK A L.length k) L.length (L.flatMap El)/\VI w.heap.size w w'/\(∀b,Wa (WK A L.length k)=Bs b->w.heap.size<=b)
def qaz(h:BT w base g C V L d):VX Tryz.prog 46 #[ZW (Bs ⟨g,0,B0⟩)] w (LogP base L w):=by obtain⟨_,_,_,_,z,_,y⟩:=h.cells;have u:=h.lo;have q:=LH (NK base L.length V L w h.row Z0 (Z4 h.len));clear h;go_enter Tryz.func46,Tryz.ntmps46;go_wp2_with fail;refine q.o.mono ?_;rintro e s ⟨A,k,rfl,p,i,f⟩;have v:=LH (show LogP base L w (ZY (WK A L.length k)) s from⟨A,k,rfl,p,i,f⟩);clear q p i f;go_wp2_with fail;go_ret;exact v.o
variable {w3:D0}
def BT.push(h:BT w base g C V L d)(F:Fr (λk=>w.heap.size<=k) w w3){x:BI}(M:Fh w3 w.heap.size x)(G:Am w3 w4 V.ownBlock V2.ownBlock)
  (z:w4.ownsRow base 69 4 V2 (L.length+1) (L.flatMap El++El x)) (R:L.length<500) :
  BT (w4.setCell ⟨g,4,B0⟩ V2) base g C V2 (L++[x]) (d.push x.c)/\Fr (CZ g C V L) w (w4.setCell ⟨g,4,B0⟩ V2)/\(∀b,CZ g C V2 (L++[x]) b->CZ g C V L b\/w.heap.size<=b):=by
 have E:base<=w.heap.size:=Z5 h.lo h.al.lt;have u:=h.fr F (λb f O=>Z4 ((h.a9 f).2));have J:¬Bs g=V.ownBlock:=λe=>Bh u.row u.al Z2 e.symm
 have v:=G.1.al u.al J;have q:=Fr.aL g w4 4 V2;have U:∀b,(WK x.A x.n x.k).ownBlock=Bs b->w.heap.size<=b/\b<w3.heap.size:=λb f=>M.1.lt b f
 have s:∀y:BI,Fh w3 base y->Fh (w4.setCell ⟨g,4,B0⟩ V2) base y:=λy p=>
  ⟨q.own (G.1.own p.1 (λb f e=>EX p.1 u.row Z2 f e.symm)) (λb f (e:b=g)=>Bh (G.1.own p.1 (λb f e=>EX p.1 u.row Z2 f e.symm)) v Z2 (e▸f)),p.2⟩
 refine⟨⟨?_,?_,?_,?_,?_,?_,h.cd,h.at0,h.dg,h.st0,h.cp,h.lo⟩,?_,?_⟩;have:=v.aZ 4 V2;unfold Nd.push;simpa using this;have H:=G.1.own u.cz (λb f e=>EX u.cz u.row Z2 f e.symm);exact q.own H (λb f (e:b=g)=>Bh H v Z2 (e▸f));have H:=q.own z (λb f (e:b=g)=>Bh z v Z2 (e▸f));rw[VJ,Wq];simpa using H;intro y p;obtain p|p:=XA.1 p;exact s y (u.own y p);rw[VU]at p;subst p;exact s y ⟨MJ M.1 E,M.2⟩;unfold AQ Nd.push;rw[WQ];simp only;rw[<- h.a4];rfl;simp;omega
 ·refine((F.mono (T:=λb=>CZ g C V L b\/w.heap.size<=b) (λi I O=>ZB I Z0)).trans' G.1 (λi _ e=>eR (eS (eS (eR e.symm))))).trans' q (λi _ (e:i=g)=>eR (eR e)) |>.mono (λi I O=>O.elim id (λu=>ZB I Z0))
 intro b f;obtain f|f|f|⟨y,p,f⟩:=f;exact eR (eR f);exact eR (eS (eR f));obtain e|⟨W,e,hl⟩:=G.2;rw[e]at f;exact eR (eS (eS (eR f)));rw[e]at f;injection f with f;exact eS (Z4 F.size);obtain p|p:=XA.1 p;exact eR (eS (eS (eS ⟨y,p,f⟩)));rw[VU]at p;subst p;exact eS (U b f).1
def UG(base g:Nat)(C V:S2)(L:List BI)(d:Nd)(c:Cm)(w:D0)(e:WE)(w':D0):Prop:=
 ∃f V2 x,e=ZY f/\x.c=c/\BM w.heap.size (d.aP c).2 f w'/\BT w' base g C V2 (L++[x]) (d.aP c).1/\Fr (CZ g C V L) w w'/\∀b,CZ g C V2 (L++[x]) b->CZ g C V L b\/w.heap.size<=b
def Iq(w:D0)(cs:Array S2)(T:VR)(size:Nat)(hs:cs.size=size):(w.alloc (eT cs T)).ownsRow w.heap.size T size (WK (Bs ⟨w.heap.size,0,B0⟩) 1 1) 1 cs.toList:=
 ⟨by simp[hs],eS ⟨w.heap.size,1,cs,rfl,Hi _,by simpa [Ae]using Ae.b4 w T cs,Hi _,Z2,by simp[hs],VS (by simp[hs])⟩⟩
def Qf(d:Nd)(c:Cm):(d.push c).tail=d.tail:=rfl
def KT(h:BT w base g C V L d)(x:BI)(hR:Gr w w.heap.size x.A x.n x.c.ae)(hk:x.A=B0->x.k=0)(hn:x.n<=100000)(ah:L.length<500)(ha:0<=d.aN) :
  VX Tryz.prog 81 #[ZW (Bs ⟨g,0,B0⟩),.agg #[.int eQ x.c.aj,.int eQ x.c.tx,.int eQ x.c.ah,WK x.A x.n x.k]] w (UG base g C V L d x.c w):=by
 have Y:VI w.heap.size w (w.alloc (eT #[.int eQ x.c.aj,.int eQ x.c.tx,.int eQ x.c.ah,WK x.A x.n x.k] 69)):=(VC _ _).alloc (Hi _) _;have av:=LH (qbk w.heap.size w.heap.size x.n x.k x.A x.c.ae (w.alloc (eT #[.int eQ x.c.aj,.int eQ x.c.tx,.int eQ x.c.ah,WK x.A x.n x.k] 69)) ⟨hR.1,hR.2.below Y⟩ Y.size Y.size hn hk);have ad:=LH (Ae.b4 w 69 #[.int eQ x.c.aj,.int eQ x.c.tx,.int eQ x.c.ah,WK x.A x.n x.k]);have ac:=LH Y;clear Y;have ap:=LH hR.1;clear hR;have H:=LH h;clear h;go_enter Tryz.func81,Tryz.ntmps81;go_wp2_with fail;refine av.o.mono ?_;rintro e w2 ⟨A2,k2,rfl,z,X⟩;have Z:=LH (ad.o.below X ad.o.lt);have aC:=LH (ac.o.trans (X.mono ac.o.size));clear av X ad ac;have z3:=Z.o.frozen 3;have y3:=Z.o.cell 3;have yl:=Z.o.lt;simp only[NW,Ft,O0]at y3;have M:=Fr.aL w.heap.size w2 3 (WK A2 x.n k2);have O:=M.own z (λb hb (e:b=w.heap.size)=>Bh z Z.o Z2 (e▸hb));have u:=Z.o.aZ 3 (WK A2 x.n k2);simp only[List.setIfInBounds_toArray,XY,List.set_cons_zero]at u;have a8:Fr (λk=>w.heap.size<=k) w (w2.setCell ⟨w.heap.size,3,B0⟩ (WK A2 x.n k2)):=((Below.fr aC.o (λk=>w.heap.size<=k))).trans (M.mono (λi _ e=>Nat.le_of_eq e.symm));go_upto_region 2 with (fail)
 clear z3 y3 yl M z;generalize (w2.setCell _ _)=w3 at *;have h3:=H.o.fr a8 (λb hb h2=>Z4 ((H.o.a9 hb).2));obtain⟨A,cc,rfl⟩:=h3.dL;obtain⟨_,_,_,_,n4,_,kl⟩:=h3.cells;have b0:=u.cell 0;have b1:=u.cell 1;have b2:=u.cell 2;have b3:=u.cell 3;have bl:=u.lt;simp only[NW,Ft,O0]at b0 b1 b2 b3;have hO:Fh w3 w.heap.size ⟨x.c,A2,x.n,k2⟩:=⟨O,ap.o,hn⟩
 have HO:=LH hO;clear hO O;have aE:=LH a8;clear a8;have ar:=LH u;clear u;have aa:=LH h3.row;have af:=h3.lo;have ab:=LH h3;clear h3;refine nW ?_;refine CR (λw'=>w'.cell? ⟨g,4,B0⟩=Bs (WK A L.length cc)/\w'.cell? ⟨w.heap.size,0,B0⟩=Bs (.int eQ x.c.aj)/\w'.cell? ⟨w.heap.size,1,B0⟩=Bs (.int eQ x.c.tx)/\w'.cell? ⟨w.heap.size,2,B0⟩=Bs (.int eQ x.c.ah)/\w'.cell? ⟨w.heap.size,3,B0⟩=Bs (WK A2 x.n k2)) 8 (λ_ _ _ _ _ h=>h) (λF=>?_);have G:w3.drew.cell? ⟨g,4,B0⟩=Bs (WK A L.length cc)/\w3.drew.cell? ⟨w.heap.size,0,B0⟩=Bs (.int eQ x.c.aj)/\w3.drew.cell? ⟨w.heap.size,1,B0⟩=Bs (.int eQ x.c.tx)/\w3.drew.cell? ⟨w.heap.size,2,B0⟩=Bs (.int eQ x.c.ah)/\w3.drew.cell? ⟨w.heap.size,3,B0⟩=Bs (WK A2 x.n k2):=⟨n4,b0,b1,b2,b3⟩
 refine nF 0 F G ?_;refine nF 1 F G ?_;refine nF 2 F G ?_;refine nF 3 F G ?_;refine nB 4 rfl rfl F G (λw' a4=>by obtain⟨q0,q1,q2,q3,q4⟩:=a4;go_simp;rfl) ?_;refine nB 5 rfl rfl F G (λw' a4=>by obtain⟨q0,q1,q2,q3,q4⟩:=a4;go_simp;rfl) ?_;have f:∀o q p,q<w3.heap.size->(w3.alloc o).cell? ⟨q,p,B0⟩=w3.cell? ⟨q,p,B0⟩:=λo q p hq=>WT w3 o ⟨q,p,B0⟩ hq
 refine nG 6 (λK J=>?_);go_simp;refine J _ _ (λ_=>⟨(f _ _ _ kl).trans n4,(f _ _ _ bl).trans b0,(f _ _ _ bl).trans b1,(f _ _ _ bl).trans b2,(f _ _ _ bl).trans b3⟩) ?_;clear J K G f;refine nG 7 (λK J=>?_);refine SX w3.drew w3.heap.size rfl _ (.tmp 13) (.tmp 15) 66 rfl base 69 _ 4 48 Tryz.underlying66 G8 rfl Z2 _ _ _ #[.int eQ x.c.aj,.int eQ x.c.tx,.int eQ x.c.ah,WK A2 x.n k2] rfl aa.o 1 rfl _ rfl rfl (by simp[Wx]) Zx Z0 (by show base<=w3.heap.size;omega) ?_;intro V2 w4 y E;obtain⟨A4,c4,rfl,_,_⟩:=AM y;have I:Am w3 w4 (Wa (WK A L.length cc)) (Wa (WK A4 (L.length+1) c4)):=⟨⟨E.1.os,E.1.tape,E.1.output,E.1.size,E.1.block⟩,E.2⟩
 obtain⟨al,am,a3⟩:=BT.push H.o aE.o HO.o I y ah;have ai:¬Bs g=Wa (WK A L.length cc):=λe=>Bh aa.o ab.o.al Z2 e.symm
 have ae:¬Bs w.heap.size=Wa (WK A L.length cc):=λe=>by have:=(H.o.row.lt w.heap.size e.symm).2;omega
 have a0:=I.1.al ab.o.al ai;have U:=I.1.al ar.o ae;have y0:=a0.cell 4;have y1:=a0.frozen 4;have yl:=a0.lt;simp only[NW,Ft,O0]at y0;have an:=Wo y0 (Wo (U.cell 0) (Wo (U.cell 1) (Wo (U.cell 2) (U.cell 3))));have aw:=LH an;clear an;have aq:=LH al;clear al;have au:=LH am;clear am;have ao:=LH a3;clear a3 y E I ai ae a0 U;go_simp;refine J _ _ (λ_=>aw.o) ?_;clear J K;refine nG 8 (λK J=>?_);go_simp;refine J _ _ nZ ?_;clear J K;refine nG 9 (λK J=>?_);go_simp;refine J _ _ nZ ?_;clear J K;refine nG 10 (λK J=>?_);go_simp;refine J _ _ nZ ?_;clear J K;refine nX ?_;clear F y0 y1 yl aw ar ab aa n4 b0 b1 b2 b3 bl kl af;generalize (w4.setCell _ _)=w5 at *;have a9:=LH (q9b aq.o);rw[Qf]at a9;go_wp2_with fail;refine a9.o.mono ?_;rintro e w6 ⟨rfl,a6⟩;have R:=aq.o.aW a6;have a2:=LH (au.o.trans (Below.fr a6 _));clear a9 au a6;cases ht:d.tail
 ·have aB:d.aN+1<d.aI.length:=by
   have:=H.o.dg;obtain h1|h1:=(show d.aN+1<d.aI.length\/d.aN=(d.aI.length:Int)-1 by omega)
   exact h1;exfalso;unfold Nd.tail at ht;rw[ZA (show d.aN>=0 by omega),YQ,h1]at ht;simp at ht
  have aj:=qb8 R L.length ⟨x.c,A2,x.n,k2⟩ Z3 (show 0<=d.aN from ha) aB;have ag:d.a4.length=L.length:=H.o.c9;obtain⟨_,_,_,_,n4,_,kl⟩:=R.cells;have hW:=LH aj;clear aj;have aD:=LH R;clear R;go_wp2_with fail;refine hW.o.mono ?_;rintro e w7 ⟨A7,k7,rfl,v,a5⟩;have W:d.aP x.c=(d.push x.c,[(d.push x.c).a6 L.length]):=by unfold Nd.aP;rw[ht,ag];rfl
  have ak:(d.push x.c).a6 L.length=⟨3,d.id,d.a8 1,d.ad,L.length,x.c⟩:=by
   unfold Nd.a6 Nd.push;rw[<- ag];simp;rfl
  rw[ak]at v ⊢;unfold DD;have a1:VI w7.heap.size w7 (w7.alloc (eT (BF ⟨3,d.id,d.a8 1,d.ad,L.length,x.c⟩ A7 x.n k7) 116)):=(VC _ _).alloc (Hi _) _;have a7:=a2.o.trans (Below.fr a5 (CZ g C (WK A L.length cc) L));have s:UG base g C (WK A L.length cc) L d x.c w (ZY (WK (Bs ⟨w7.heap.size,0,B0⟩) 1 1)) (w7.alloc (eT (BF ⟨3,d.id,d.a8 1,d.ad,L.length,x.c⟩ A7 x.n k7) 116)):=by
   refine⟨_,_,⟨x.c,A2,x.n,k2⟩,rfl,rfl,?_,?_,a7.trans (Below.fr a1 _),ao.o⟩;rw[W,ak];refine qaq (A:=A7) (n:=x.n) (k:=k7) (MJ (Iq w7 _ _ 9 rfl) a7.size) ?_ ap.o hn;have ax:=(Below.fr a1 (λ_=>False)).own v (λ_ _ h=>h);exact MJ ax a2.o.size;rw[W];exact(aD.o.aW a5).aW a1
  unfold BF at s;have HF:=LH s;clear s n4 v a5 a1 a7;go_wp2_with fail;go_ret;exact HF.o
 have HK:=LH (q99 R);go_wp2_with fail;refine HK.o.mono ?_;rintro e w7 ⟨V1,rfl,ay,az,aA⟩;have W:d.aP x.c=(d.push x.c).aD:=by unfold Nd.aP;rw[ht,Z8 rfl]
 have s:UG base g C (WK A L.length cc) L d x.c w (ZY V1) w7:=⟨V1,_,⟨x.c,A2,x.n,k2⟩,rfl,rfl,by rw[W];exact ay.de a2.o.size,by rw[W];exact az,a2.o.trans (aA.mono (λ_ _ e=>eR e)),ao.o⟩
 have HF:=LH s;clear s;go_wp2_with fail;go_ret;exact HF.o
section
variable {C:D0->Prop}
def ntwo(i j:Nat){s q:XE}{fuel:Nat}{a:Act}{w:D0}(E:Ws md ops f=[i,j])(H:ops[i]? = Bs s)(G:ops[j]? = Bs q)
  (v:Wu s (Xx ops a.tmps)=VD) (u:Wu q (Xx ops a.tmps)=VD)
  (J:∀h:Act->D0->Prop,(∀a w,(i<N->C w)->Ci P md ops Q N C fuel (f.setIfInBounds i VD) a w->h a w)->Yp P s a w h Q)
  (I:∀h:Act->D0->Prop,(∀a w,(j<N->C w)->Ci P md ops Q N C fuel (f.setIfInBounds j VD) a w->h a w)->Yp P q a w h Q):Ci P md ops Q N C (fuel+1) f a w:=
 ⟨(λF=>by rw[E]at F;cases F),λk p=>by
  rw[E]at p;obtain rfl|p:=Ye.1 p
  ·exact wpOp_step H (λh z=>by rw[Z8 v];exact J h (λa w hs y=>z a w ⟨hs,y⟩))
  obtain rfl:k=j:=Z6 p;exact wpOp_step G (λh z=>by rw[Z8 u];exact I h (λa w hs y=>z a w ⟨hs,y⟩))⟩
end
def IM(k:Int):S2:=if k=0 then ZS else .iface 79 (Wm eQ k)
def Fv(base g:Nat)(C V:S2)(L:List BI)(d:Nd)(c:Cm)(w:D0)(e:WE)(w':D0):Prop:=
 ∃f V2 h b,e=ZY (ZZ #[Wm eQ (d.add c b).2.1,f,IM (d.add c b).2.2])/\BM w.heap.size (d.add c b).1.2 f w'/\BT w' base g C V2 h (d.add c b).1.1/\Fr (CZ g C V L) w w'/\∀q,CZ g C V2 h q->CZ g C V L q\/w.heap.size<=q
def Fv.of{c:Cm}{b:Bool}{nd:Nd}{ms:List Ms}{k p:Int}{h:S2}{i:List BI}(f:d.add c b=((nd,ms),k,p))(u:BM w.heap.size ms h w')(v:BT w' base g C v' i nd)(y:Fr (CZ g C V L) w w')(s:∀q,CZ g C v' i q->CZ g C V L q\/w.heap.size<=q) :
  Fv base g C V L d c w (ZY (ZZ #[Wm eQ k,h,IM p])) w':=⟨h,v',i,b,by rw[f],by rw[f];exact u,by rw[f];exact v,y,s⟩
def add_any(h:BT w base g C V L d)(x:BI)(hR:Gr w w.heap.size x.A x.n x.c.ae)(hk:x.A=B0->x.k=0)(hn:x.n<=100000) :
  VX Tryz.prog 120 #[ZW (Bs ⟨g,0,B0⟩),.agg #[.int eQ x.c.aj,.int eQ x.c.tx,.int eQ x.c.ah,WK x.A x.n x.k]] w (Fv base g C V L d x.c w):=by
 have H:VI w.heap.size w (w.alloc (eT #[.int eQ x.c.aj,.int eQ x.c.tx,.int eQ x.c.ah,WK x.A x.n x.k] 69)):=(VC _ _).alloc (Hi _) _;have Y:=h.aW H;have W:=h.c9;have a7:=h.len;have Z:=LH (qdz Y);obtain⟨A,c,rfl⟩:=Y.dL;obtain⟨_,_,_,_,n4,_,kl⟩:=Y.cells;have X:Ae (w.alloc (eT #[.int eQ x.c.aj,.int eQ x.c.tx,.int eQ x.c.ah,WK x.A x.n x.k] 69)) w.heap.size 69 #[.int eQ x.c.aj,.int eQ x.c.tx,.int eQ x.c.ah,WK x.A x.n x.k]:=Ae.b4 w _ _;have y:=LH X;clear X;have a5:=LH (show Gr (w.alloc (eT #[.int eQ x.c.aj,.int eQ x.c.tx,.int eQ x.c.ah,WK x.A x.n x.k] 69)).drew (w.alloc (eT #[.int eQ x.c.aj,.int eQ x.c.tx,.int eQ x.c.ah,WK x.A x.n x.k] 69)).drew.heap.size x.A x.n x.c.ae from(⟨hR.1,(hR.2.below H).more H.size⟩:Gr _ _ _ _ _));clear hR;have J:=LH H;clear H;have R:=LH Y;clear Y;have a0:=LH (λq (I:CZ g C (WK A L.length c) L q)=>h.a9 I);clear h;cases O:d.head
 ·rw[O]at Z;have f:Fv base g C (WK A L.length c) L d x.c w (ZY (ZZ #[.int eQ 0,WK B0 0 0,IM 6])) (w.alloc (eT #[.int eQ x.c.aj,.int eQ x.c.tx,.int eQ x.c.ah,WK x.A x.n x.k] 69)):=
   Fv.of (b:=L1) (by unfold Nd.add;rw[O];rfl) (BM.nil _ _) R.o (Below.fr J.o _) (λq h=>eR h)
  have U:=LH f;clear f;go_enter Tryz.func120,Tryz.ntmps120;go_wp2_with fail;refine Z.o.mono ?_;rintro e F ⟨rfl,rfl⟩;go_wp2_with fail;go_ret3;exact U.o
 rw[O]at Z;have a8:d.aN=0:=by unfold Nd.head at O;simpa using O
 by_cases h5:L.length=500
 ·have f:Fv base g C (WK A L.length c) L d x.c w (ZY (ZZ #[.int eQ 0,WK B0 0 0,IM 4])) (w.alloc (eT #[.int eQ x.c.aj,.int eQ x.c.tx,.int eQ x.c.ah,WK x.A x.n x.k] 69)):=
   Fv.of (b:=L1) (by unfold Nd.add;rw[O,W,h5];rfl) (BM.nil _ _) R.o (Below.fr J.o _) (λq h=>eR h)
  have U:=LH f;clear f;have a4:(L.length:Int)=500:=by omega
  generalize L.length=n at *;subst h5;go_enter Tryz.func120,Tryz.ntmps120;go_wp2_with fail;refine Z.o.mono ?_;rintro e F ⟨rfl,rfl⟩;go_wp2_with fail;go_ret3;exact U.o
 have a4:¬(L.length:Int)=500:=by omega
 have M:∀b,d.add x.c b=(d.aP x.c,if b then(L.length:Int)+1 else L.length,0):=λb=>by unfold Nd.add;rw[O,W];simp[h5]
 have a1:=LH M;clear M;have HG:=LH (KT (w:=(w.alloc (eT #[.int eQ x.c.aj,.int eQ x.c.tx,.int eQ x.c.ah,WK x.A x.n x.k] 69)).drew) (R.o.aW (VC _ _).drew) x a5.o hk hn Z0 Z0);go_enter Tryz.func120,Tryz.ntmps120;go_wp2_with fail;refine Z.o.mono ?_;rintro e F ⟨rfl,rfl⟩;go_wp2_with fail;have a6:(w.alloc (eT #[.int eQ x.c.aj,.int eQ x.c.tx,.int eQ x.c.ah,WK x.A x.n x.k] 69)).heap.size=w.heap.size+1:=by simp
 generalize (w.alloc _)=F at *;have b0:=y.o.cell 0;have b1:=y.o.cell 1;have b2:=y.o.cell 2;have b3:=y.o.cell 3;have bl:=y.o.lt;simp only[NW,Ft,O0]at b0 b1 b2 b3;refine nW ?_;refine CR (λw'=>w'.cell? ⟨w.heap.size,0,B0⟩=Bs (.int eQ x.c.aj)/\w'.cell? ⟨w.heap.size,1,B0⟩=Bs (.int eQ x.c.tx)/\w'.cell? ⟨w.heap.size,2,B0⟩=Bs (.int eQ x.c.ah)/\w'.cell? ⟨w.heap.size,3,B0⟩=Bs (WK x.A x.n x.k)) 9 (λ_ _ _ _ _ h=>h) (λs=>?_);have z:F.drew.cell? ⟨w.heap.size,0,B0⟩=Bs (.int eQ x.c.aj)/\F.drew.cell? ⟨w.heap.size,1,B0⟩=Bs (.int eQ x.c.tx)/\F.drew.cell? ⟨w.heap.size,2,B0⟩=Bs (.int eQ x.c.ah)/\F.drew.cell? ⟨w.heap.size,3,B0⟩=Bs (WK x.A x.n x.k):=⟨b0,b1,b2,b3⟩
 refine nF 0 s z ?_;refine nF 1 s z ?_;refine nF 2 s z ?_;refine nF 5 s z ?_;refine nB 6 rfl rfl s z (λw' a3=>by obtain⟨q0,q1,q2,q3⟩:=a3;go_simp;rfl) ?_;refine ntwo 3 7 Z1 rfl rfl Z1 Z1 (λK i=>?_) (λK i=>?_)
 ·go_simp;refine i _ _ (λ_=>z) ?_;clear i K;refine nF 4 s z ?_;refine nG 7 (λK i=>?_);go_simp;refine HG.o.mono ?_;rintro e w7 ⟨V1,V2,x2,rfl,a2,G,u,v,p⟩;have k:=v.al (show Ae F.drew w.heap.size _ _ from y.o) (λI=>Z4 ((a0.o _ I).2));have f:Fv base g C (WK A L.length c) L d x.c w (ZY (ZZ #[.int eQ (L.length:Int),V1,IM 0])) w7:=
   Fv.of (b:=L1) (by rw[a1.o];rfl) (G.de (by show w.heap.size<=F.heap.size;omega)) u ((Below.fr J.o _).drew.trans v) (λq I=>(p q I).elim eR (λh=>eS (by have h':F.heap.size<=q:=h;omega)))
  have U:=LH f;clear f G u v p;have E:=Wo (k.cell 0) (Wo (k.cell 1) (Wo (k.cell 2) (k.cell 3)));go_simp;refine i _ _ (λ_=>E) ?_;clear i K;refine nG 8 (λK i=>?_);go_simp;refine i _ _ (λ_=>E) ?_;clear i K;refine nG 9 (λK i=>?_);go_simp;refine i _ _ nZ ?_;clear i K;refine nG 10 (λK i=>?_);go_simp;refine i _ _ nZ ?_;clear i K;refine nX ?_;clear s;go_wp2_with fail;go_ret3;exact U.o
 go_simp;refine HG.o.mono ?_;rintro e w7 ⟨V1,V2,x2,rfl,a2,G,u,v,p⟩;have k:=v.al (show Ae F.drew w.heap.size _ _ from y.o) (λI=>Z4 ((a0.o _ I).2));obtain⟨A7,c7,rfl⟩:=u.dL;obtain⟨_,_,_,_,m4,_,ml⟩:=u.cells;rw[VJ]at m4;have f:Fv base g C (WK A L.length c) L d x.c w (ZY (ZZ #[.int eQ ((L.length:Int)+1),V1,IM 0])) w7:=
  Fv.of (b:=VD) (by rw[a1.o];rfl) (G.de (by show w.heap.size<=F.heap.size;omega)) u ((Below.fr J.o _).drew.trans v) (λq I=>(p q I).elim eR (λh=>eS (by have h':F.heap.size<=q:=h;omega)))
 have U:=LH f;clear f G u v p;have E:=Wo (k.cell 0) (Wo (k.cell 1) (Wo (k.cell 2) (k.cell 3)));go_simp;refine i _ _ (λ_=>E) ?_;clear i K;simp only[Wi,List.length_nil,Wk]at m4;refine nG 3 (λK i=>?_);go_simp;refine i _ _ (λ_=>E) ?_;clear i K;refine nG 4 (λK i=>?_);go_simp;refine i _ _ (λ_=>E) ?_;clear i K;refine nG 8 (λK i=>?_);go_simp;refine i _ _ (λ_=>E) ?_;clear i K;refine nG 9 (λK i=>?_);go_simp;refine i _ _ nZ ?_;clear i K;refine nG 10 (λK i=>?_);go_simp;refine i _ _ nZ ?_;clear i K;refine nX ?_;clear s;go_wp2_with fail;go_ret3;exact U.o
def DS(x:Int)(l:List Int):Int:=match l.findIdx? (λy=>x == y)with|some i=>(i:Int)|none=>-1
def IxRel(x:Int)(L:List Int)(n:Nat)(w:D0)(v:S2)(wr:D0):Prop:=∃j:Nat,v=Wm eQ j/\j<=n/\(∀y∈L.take j,(x == y)=L1)/\w=wr
def rd1{w:D0}{l:List Int}(h:Rd w B 1 A n (l.map (Wm eQ)))(k:j<n):∃g off x,A=Bs ⟨g,off,B0⟩/\g<B/\l[j]? = Bs x/\w.cell? ⟨g,off+j,B0⟩=Bs (Wm eQ x):=by obtain⟨g,off,u,s,p,f,q⟩:=h.dg k;rw[VQ]at f;rcases i:l[j]? with _|x;rw[i]at f;cases f;rw[i]at f;obtain rfl:=Wn f;exact⟨g,off,x,s,p,rfl,q⟩
def No(x:Int)(A:Option Xo)(n k:Nat)(L:List Int)(w:D0)(M:Rd w w.heap.size 1 A n (L.map (Wm eQ)))(hl:L.length=n)(Y:n<=100000) :
  VX Tryz.prog 106 #[WK A n k,Wm eQ x] w λe w'=>e=ZY (Wm eQ (DS x L))/\w=w':=by
 have W:=LH M;clear M;go_enter Tryz.func106,Tryz.ntmps106;go_wp2_with fail;go_loopw [8] (IxRel x L n w) (λv _=>n-(intOf v).toNat)
 case atStart=>exact⟨0,rfl,VG _,(λy O=>by simp at O),rfl⟩
 obtain⟨j,rfl,Z,u,rfl⟩:=hrel;by_cases R:(j:Int)<n
 ·obtain⟨g',X,y,rfl,U,J,h0⟩:=rd1 W.o (j:=j) Z0;have F:j<L.length:=by omega
  have s:(x == y)=VD->DS x L=j:=λG=>by
   have:L.findIdx? (λy=>x == y)=Bs j:=by
    rw[VP];refine⟨F,?_,λi hi=>?_⟩;rw[<- Wn ((K0 F).symm.trans J)]at G;exact G;simp only[Yc];exact u _ (by rw[XF];exact⟨i,Z0,rfl⟩)
   unfold DS;rw[this]
  have f:(x == y)=L1->∀z∈L.take (j+1),(x == z)=L1:=λG z q=>by
   rw[VV,J]at q;obtain q|q:=XA.1 q;exact u z q;rw[Option.toList_some,VU]at q;rw[q];exact G
  have H:=LH s;clear s;have I:=LH f;clear f;cases E:(x == y)
  ·have hs:=I.o E;have p:=LH hs;clear hs I H;go_wp2_with fail;go_roundw
   case rel=>exact⟨j+1,rfl,Z0,p.o,rfl⟩
   case measure=>simp[intOf];omega
  have hs:=H.o E;have p:=LH hs;clear hs I H;go_wp2_with fail;go_ret;exact⟨by rw[p.o];rfl,rfl⟩
 have h:DS x L = -1:=by
  have:L.findIdx? (λy=>x == y)=B0:=by
   rw[Wp];intro z q;exact u z (by rw[VS Z0];exact q)
  unfold DS;rw[this]
 have p:=LH h;clear h;go_wp2_with fail;go_ret;exact⟨by rw[p.o];rfl,rfl⟩
def entersC{f:FuncId}{i:Func}{c:Code}(k:P.funcs[f]? = Bs i)(h:(i.name == "runtime.NumGoroutine")=L1) (p:i.body=Bs c):∀(args:Array S2)(w:D0),(callFunc f args).run P w=.ok (.enter f args) w:=by
 intro args w;have q:i.name ≠ "runtime.NumGoroutine" := by simpa using h
 simp[callFunc,k,q,p,mark]
def Dc(l:List Int):Int->Option S2:=λi=>if i∈l then Bs (ZX VD)else B0
def PS(l:List Int)(x:Int):AY (Dc l) x (Bs (ZX VD))=Dc (l++[x]):=by funext t;unfold AY Dc;by_cases e:t=x;subst e;simp;simp[e]
def TwP(f n:Nat)(l:List Int)(x:Int)(w:D0)(e:WE)(w':D0):Prop:=e=ZY (ZX L1)/\Ab BP w' f (n+1) (Dc (l++[x]))/\Fr (λk=>k=f) w w'
def Vu(x:Int)(c k n:Nat)(l:List Int)(w:D0)(v:w.cell? ⟨c,0,B0⟩=Bs (.map (Bs k)))(q:Ab BP w k n (Dc l))(u:FB x)(G:n<1000000)(p:x ∉ l) :
  VX Tryz.prog 125 #[Wm eQ x,ZW (Bs ⟨c,0,B0⟩)] w (TwP k n l x w):=by
 have s:(Yh 4).run Tryz.prog w=.ok (ZX L1) w:=by kernel_rfl
 have h:=(q.cn Tryz.underlying60 s (x:=x) u).2;rw[show Dc l x=B0 from Z7 p,show BP.val x=Wm eQ x from rfl]at h;simp only[Option.getD_none]at h;have z:=V5 w _ v;have E:=LH q;clear q;clear s;go_enter Tryz.func125,Tryz.ntmps125;go_wp2_with (at_mapUpdate;refine stop ?_)
 refine CD ?_;refine U1 (C:=BP) rfl 60 4 Tryz.underlying60 (.tmp 8) (.tmp 9) _ rfl rfl E.o Zx x (ZX VD) rfl rfl u ?_;intro y f i;rw[PS]at f;have F:=LH (show TwP k n l x w (ZY (ZX L1)) y from⟨rfl,f,i⟩);clear f i h v;go_wp2_with fail;go_ret;exact F.o
def Uq(L:List Int)(n c f:Nat)(w:D0)(v:S2)(wr:D0):Prop:=∃j:Nat,v=Wm eQ j/\j<=n/\Ab BP wr f j (Dc (L.take j))/\Fr (λk=>k=f) w wr
def Vq(A:Option Xo)(n k c q:Nat)(L:List Int)(w:D0)(hr:Rd w w.heap.size 1 A n (L.map (Wm eQ)))(hl:L.length=n)(hn:n<=1000)(hc:w.cell? ⟨c,0,B0⟩=Bs (.map (Bs q)))(z:Ab BP w q 0 (Dc []))(G:L.Nodup)(E:∀x∈L,FB x)(hA:∀g o,A=Bs ⟨g,o,B0⟩->0<n->g≠q)(W:c≠q) :
  VX Tryz.prog 143 #[WK A n k,.func (.func 125) #[] #[ZW (Bs ⟨c,0,B0⟩)]] w λe w'=>e=ZY (Wm eQ (-1))/\Fr (λk=>k=q) w w':=by
 have HR:=LH hr;clear hr;have R:=LH (show Uq L n c q w (Wm eQ (0:Nat)) w from⟨0,rfl,VG _,Z6 z,Fr.refl _ _⟩);have eg:=entersC Tryz.func125 Z1 rfl;have Z:=LH E;clear E;have a0:=LH G;clear G;have HA:=LH hA;clear hA;have HC:=LH hc;clear hc;clear z;go_enter Tryz.func143,Tryz.ntmps143;go_wp2_with fail;go_loopw [8] (Uq L n c q w) (λv _=>n-(intOf v).toNat)
 case atStart=>exact R.o
 clear R;obtain⟨j,rfl,hj,z,s⟩:=hrel;by_cases a1:(j:Int)<n
 ·obtain⟨Y,o',y,rfl,I,U,h0⟩:=rd1 HR.o (j:=j) Z0;have a2:Y<wr.heap.size:=VF I s.size;have X:=(s.cell (p:=⟨Y,o'+j,B0⟩) I (HA.o Y o' rfl Z0)).trans h0;have M:=V5 w _ HC.o;have O:=(s.cell (p:=⟨c,0,B0⟩) M W).trans HC.o;have F:y ∉ L.take j:=λhy=>by
   have h1:(L.take (j+1)).Nodup:=a0.o.sublist (List.take_sublist _ _);rw[VV,U]at h1;exact(List.nodup_append.1 h1).2.2 y hy y Z3 rfl
  have h:=Vu y c q j (L.take j) wr O z (Z.o y (N2 U)) Z0 F;have i:=LH h;clear h h0 O M;have HX:=LH U;clear U F;have u:=LH s;clear s z;go_wp2_with fail;refine i.o.mono ?_;rintro e w2 ⟨rfl,H,J⟩;have f:Uq L n c q w (Wm eQ ((j+1:Nat):Int)) w2:=⟨j+1,rfl,Z0,by rw[VV,HX.o];exact H,u.o.trans J⟩
  have HF:=LH f;clear f H J X i;go_wp2_with fail;go_roundw;exact HF.o;simp[intOf];omega
 have u:=LH s;clear s z;go_wp2_with fail;go_ret;exact⟨rfl,u.o⟩
def Vs(A:Option Xo)(n k c f:Nat)(L:List Int)(w:D0)(s:Rd w w.heap.size 1 A n (L.map (Wm eQ)))(hl:L.length=n)(z:n<=1000)(v:w.cell? ⟨c,0,B0⟩=Bs (.map (Bs f)))(u:Ab BP w f 0 (Dc []))(i:L.Nodup)(h:∀x∈L,FB x)(y:∀g o,A=Bs ⟨g,o,B0⟩->0<n->g≠f)(p:c≠f) :
  VX Tryz.prog 124 #[WK A n k,.func (.func 125) #[] #[ZW (Bs ⟨c,0,B0⟩)]] w λe w'=>e=ZY (ZX L1)/\Fr (λk=>k=f) w w':=by
 have E:=LH (Vq A n k c f L w s hl z v u i h y p);clear s v u i h y;go_enter Tryz.func124,Tryz.ntmps124;go_wp2_with fail;refine E.o.mono ?_;rintro e w2 ⟨rfl,q⟩;go_wp2_with fail;go_ret;exact⟨rfl,q⟩
def PB(A:Option Xo)(n k:Nat)(L:List Int)(w:D0)(E:Rd w w.heap.size 1 A n (L.map (Wm eQ)))(hl:L.length=n)(H:n<=1000)(q:L.Nodup)(p:∀x∈L,FB x) :
  VX Tryz.prog 104 #[WK A n k] w λe w'=>e=ZY (ZX L1)/\VI w.heap.size w w':=by
 have I:=@run_makeMap Tryz.prog;have G:∀g o,A=Bs ⟨g,o,B0⟩->0<n->g≠w.heap.size:=λg o e J=>by obtain⟨R,O,z,h,_⟩:=E.2 J;rw[e]at z;injection z with z;injection z with e1 e2;omega
 have f:VI w.heap.size w ((w.alloc (.map #[] 0)).alloc (eT #[.map (Bs w.heap.size)] 60)):=((VC _ _).alloc (Hi _) _).alloc Z3 _;have s:Ab BP ((w.alloc (.map #[] 0)).alloc (eT #[.map (Bs w.heap.size)] 60)) w.heap.size 0 (Dc []):=by
  have:=(Ab.cT BP w).alloc (eT #[.map (Bs w.heap.size)] 60);rw[show Dc []=λ_=>B0 from by funext i;simp[Dc]];exact this
 have u:Ae ((w.alloc (.map #[] 0)).alloc (eT #[.map (Bs w.heap.size)] 60)) (w.heap.size+1) 60 #[.map (Bs w.heap.size)]:=by
  have:=Ae.b4 (w.alloc (.map #[] 0)) 60 #[.map (Bs w.heap.size)];rw[show(w.alloc (.map #[] 0)).heap.size=w.heap.size+1 by simp]at this;exact this
 have M:=LH (Vs A n k (w.heap.size+1) w.heap.size L _ ((E.below f).more f.size) hl H (u.cell 0) s q p G Z0);have y:=LH f;clear f s u G q p E;go_enter Tryz.func104,Tryz.ntmps104;go_wp2_with fail;refine M.o.mono ?_;rintro e w3 ⟨rfl,v⟩;have F:=LH (y.o.trans (v.below (λb (e:b=w.heap.size)=>Z0) y.o.size));clear v;go_wp2_with fail;go_ret;exact⟨rfl,F.o⟩
def Nd.fresh(id:Int):Nd:=⟨id,0,[],-1,[],0⟩
def new_any(base:Nat)(id:Int)(w:D0)(i:base<=w.heap.size):VX Tryz.prog 44 #[Wm eQ id] w λe w'=>e=ZY (ZW (Bs ⟨w.heap.size,0,B0⟩))/\BT w' base w.heap.size (WK B0 0 0) (WK B0 0 0) [] (Nd.fresh id)/\VI w.heap.size w w'/\w'.heap.size=w.heap.size+1:=by
 have f:BT (w.alloc (eT #[Wm eQ id,Wm eQ 0,WK B0 0 0,Wm eQ (-1),WK B0 0 0,Wm eQ 0] 150)) base w.heap.size (WK B0 0 0) (WK B0 0 0) [] (Nd.fresh id):=
  ⟨Ae.b4 w _ _,VW _ _ _ _,VW _ _ _ _,λ_ h=>(nomatch h),rfl,VG _,VG _,WH _,(show(-1:Int)<((0:Nat):Int) by decide),WH _,(show(0:Int)<=500 by decide),i⟩
 have k:=LH f;clear f;have p:=LH (show VI w.heap.size w (w.alloc (eT #[Wm eQ id,Wm eQ 0,WK B0 0 0,Wm eQ (-1),WK B0 0 0,Wm eQ 0] 150))from(VC _ _).alloc (Hi _) _);go_enter Tryz.func44,Tryz.ntmps44;go_wp2_with fail;go_ret;exact⟨rfl,k.o,p.o,Z3⟩
structure FF(w:D0)(base g:Nat)(C V:S2)(L:List BI)(d:Nd):Prop where
 al:Ae w g 150 #[Wm eQ d.id,Wm eQ d.ad,C,Wm eQ d.aN,V,Wm eQ d.ao]
 cz:w.ownsRow base 3 1 C d.aI.length (d.aI.map (Wm eQ))
 row:w.ownsRow base 69 4 V L.length (L.flatMap El)
 own:∀x∈L,Fh w base x
 a4:AQ L=d.a4
 len:L.length<=500
 cd:d.aI.length<=6
 st0:0<=d.ao
 cp:d.ao<=500
 lo:base<=g
variable {C':S2}
def BT.toJ(h:BT w base g C V L d):FF w base g C V L d:=⟨h.al,h.cz,h.row,h.own,h.a4,h.len,h.cd,h.st0,h.cp,h.lo⟩
def FF.toI(h:FF w base g C V L d)(i:-1<=d.aN)(f:d.aN<d.aI.length):BT w base g C V L d:=⟨h.al,h.cz,h.row,h.own,h.a4,h.len,h.cd,i,f,h.st0,h.cp,h.lo⟩
def FF.fr(h:FF w base g C V L d)(k:Fr S w w')(i:∀b,CZ g C V L b->¬S b):FF w' base g C V L d:=
 ⟨k.al h.al (i g (eR rfl)),k.own h.cz (λb f=>i b (eS (eR f))),k.own h.row (λb f=>i b (eS (eS (eR f)))),
  λx p=>⟨k.own (h.own x p).1 (λb f=>i b (eS (eS (eS ⟨x,p,f⟩)))),(h.own x p).2⟩,h.a4,h.len,h.cd,h.st0,h.cp,h.lo⟩
def FF.a9(h:FF w base g C V L d){b:Nat}(f:CZ g C V L b):base<=b/\b<w.heap.size:=by obtain rfl|f|f|⟨x,i,f⟩:=f;exact⟨h.lo,h.al.lt⟩;exact h.cz.lt b f;exact h.row.lt b f;exact(h.own x i).1.lt b f
def FF.aW(h:FF w base g C V L d)(f:VI w.heap.size w w'):FF w' base g C V L d:=
 h.fr (S:=λb=>w.heap.size<=b) ⟨f.os,f.tape,f.output,f.size,λi _ p=>f.block i Z0⟩ (λb k q=>Z4 ((h.a9 k).2))
def FF.di(h:FF w base g C V L d){b:Nat}(f:C.ownBlock=Bs b\/V.ownBlock=Bs b\/∃x∈L,(WK x.A x.n x.k).ownBlock=Bs b):b≠g:=by rintro rfl;obtain f|f|⟨x,i,f⟩:=f;exact Bh h.cz h.al Z2 f;exact Bh h.row h.al Z2 f;exact Bh (h.own x i).1 h.al Z2 f
def FF.conf_(h:FF w base g C V L d)(e:Int)(i:List Int)(s:w.ownsRow base 3 1 C' i.length (i.map (Wm eQ)))(u:i.length<=6) :
  FF ((w.setCell ⟨g,1,B0⟩ (Wm eQ e)).setCell ⟨g,2,B0⟩ C') base g C' V L {d with ad:=e,aI:=i}:=by
 have q:Fr (λk=>k=g) w ((w.setCell ⟨g,1,B0⟩ (Wm eQ e)).setCell ⟨g,2,B0⟩ C'):=(Fr.aL g w 1 _).trans (Fr.aL g _ 2 _);refine⟨Z6 ((h.al.aZ 1 (Wm eQ e)).aZ 2 C'),q.own s (λb f e=>Bh s h.al Z2 (e▸f)),q.own h.row (λb f e=>h.di (eS (eR f)) e),λx p=>⟨q.own (h.own x p).1 (λb f e=>h.di (eS (eS ⟨x,p,f⟩)) e),(h.own x p).2⟩,h.a4,h.len,u,h.st0,h.cp,h.lo⟩
def FF.at'(h:FF w base g C V L d)(a:Int):FF (w.setCell ⟨g,3,B0⟩ (Wm eQ a)) base g C V L {d with aN:=a}:=by have k:=Fr.aL g w 3 (Wm eQ a);refine⟨Z6 (h.al.aZ 3 (Wm eQ a)),k.own h.cz (λb f e=>h.di (eR f) e),k.own h.row (λb f e=>h.di (eS (eR f)) e),λx i=>⟨k.own (h.own x i).1 (λb f e=>h.di (eS (eS ⟨x,i,f⟩)) e),(h.own x i).2⟩,h.a4,h.len,h.cd,h.st0,h.cp,h.lo⟩
def FF.clear_(h:FF w base g C V L d):FF ((w.setCell ⟨g,4,B0⟩ (WK B0 0 0)).setCell ⟨g,5,B0⟩ (Wm eQ 0)) base g C (WK B0 0 0) [] {d with a4:=[],ao:=0}:=by have i:Fr (λk=>k=g) w ((w.setCell ⟨g,4,B0⟩ (WK B0 0 0)).setCell ⟨g,5,B0⟩ (Wm eQ 0)):=(Fr.aL g w 4 _).trans (Fr.aL g _ 5 _);refine⟨Z6 ((h.al.aZ 4 (WK B0 0 0)).aZ 5 (Wm eQ 0)),i.own h.cz (λb p e=>h.di (eR p) e),VW _ _ _ _,λx f=>(nomatch f),rfl,VG _,h.cd,WH _,(show(0:Int)<=500 by decide),h.lo⟩
def Nd.bS(d:Nd)(e:Int)(f:List Int):Nd:=if d.aN<0 then⟨d.id,e,f,DS d.id f,[],0⟩else⟨d.id,e,f,DS d.id f,d.a4,d.ao⟩
def idxI_in{x:Int}{l:List Int}(h:x∈l):0<=DS x l/\DS x l<l.length:=by unfold DS;rcases f:l.findIdx? (λy=>x == y)with _|i;rw[Wp]at f;have:=f x h;simp at this;rw[VP]at f;obtain⟨hl,_⟩:=f;simp only;omega
def BecP(base g:Nat)(C V:S2)(L:List BI)(d:Nd)(e:Int)(f:List Int)(w:D0)(p:WE)(w':D0):Prop:=
 ∃h k V2 i,p=ZY (ZZ #[h,ZS])/\BM w.heap.size (d.bS e f).aD.2 h w'/\BT w' base g k V2 i (d.bS e f).aD.1/\Fr (CZ g C V L) w w'/\∀q,CZ g k V2 i q->CZ g C V L q\/w.heap.size<=q
def NN(h:BT w base g C V L d)(e:Int)(p:List Int)(A:Option Xo)(k:Nat)(hc:w.ownsRow base 3 1 (WK A p.length k) p.length (p.map (Wm eQ)))(he:d.ad<e)(aR:p.length<=6)(ay:p.Nodup)(aw:∀x∈p,FB x)(ag:d.id∈p) :
  VX Tryz.prog 75 #[ZW (Bs ⟨g,0,B0⟩),.agg #[.int eQ e,WK A p.length k]] w (BecP base g C V L d e p w):=by
 have b2:0<p.length:=by obtain _|⟨a,l⟩:=p;cases ag;simp
 have ac:VI w.heap.size w (w.alloc (eT #[.int eQ e,WK A p.length k] 148)):=(VC _ _).alloc (Hi _) _;have h1:=h.aW ac;have aA:=(Below.fr ac (λ_=>False)).own hc (λ_ _ h=>h);have a0:Ae (w.alloc (eT #[.int eQ e,WK A p.length k] 148)) w.heap.size 148 #[.int eQ e,WK A p.length k]:=Ae.b4 w _ _;obtain⟨c0,c1,c2,c3,_,_,kl⟩:=h1.cells;have y0:=a0.cell 0;have J:=a0.cell 1;have yl:=a0.lt;simp only[NW,Ft,O0]at y0 J;have aS:decide (e<=d.ad)=L1:=Z9 Z0;have aW:=LH (λq (I:CZ g C V L q)=>h.a9 I);clear h;have ap:=LH a0;clear a0;have aO:=LH aA;clear aA hc;have av:=LH ac;clear ac;have aG:=LH h1;clear h1;have aU:=LH ay;clear ay;have aT:=LH aw;clear aw;have aV:=LH ag;clear ag;have aQ:(w.alloc (eT #[.int eQ e,WK A p.length k] 148)).heap.size=w.heap.size+1:=by simp
 generalize ax:p.length=n at *;have H:=LH ax;clear ax;have b0:¬(n:Int)=0:=by omega
 have b1:¬(n:Int) > 6:=by omega
 go_enter Tryz.func75,Tryz.ntmps75;go_upto_region 1 with (fail)
 generalize (w.alloc _)=w1 at *;go_quiet (fail);have a3:VI w1.heap.size w1 (w1.drewN nq):=CI (VC _ _) _;have az:=aG.o.aW a3;have a9:=ap.o.below a3 ap.o.lt;have aj:=(Below.fr a3 (λ_=>False)).own aO.o (λ_ _ h=>h);have au:=LH (av.o.trans (a3.mono av.o.size));clear c0 c1 c2 c3 y0 J yl kl ap aO aG av aS a3;generalize w1.drewN nq=w2 at *;clear aQ;have aC:=LH (PB A n k p w2 (Rd.a7 aj) H.o Z0 aU.o aT.o);have J:=a9.cell 1;have yl:=a9.lt;simp only[NW,Ft,O0]at J;have aF:=LH az;clear az;have ao:=LH a9;clear a9;have aN:=LH aj;clear aj;go_wp2_with fail;refine aC.o.mono ?_;rintro en w3 ⟨rfl,a4⟩;have a7:=aF.o.aW a4;have Z:=ao.o.below a4 ao.o.lt;have ai:=(Below.fr a4 (λ_=>False)).own aN.o (λ_ _ h=>h);have ar:=LH (au.o.trans (a4.mono au.o.size));clear J yl aC aF ao aN au a4;obtain⟨_,_,_,c3,_,_,kl⟩:=a7.cells;have y0:=Z.cell 0;have J:=Z.cell 1;have yl:=Z.lt;simp only[NW,Ft,O0]at y0 J;have aK:=LH (NJ base n (WK A n k) p w3.drew ((Below.fr (VC w3.heap.size w3).drew (λ_=>False)).own ai (λ_ _ h=>h)) (show base<=w3.heap.size by have:=a7.lo;omega) Z0);have aE:=LH a7;clear a7;have an:=LH Z;clear Z;have aM:=LH ai;clear ai;go_wp2_with fail;refine nW ?_;refine CR (λw'=>w'.cell? ⟨w.heap.size,0,B0⟩=Bs (.int eQ e)/\w'.cell? ⟨w.heap.size,1,B0⟩=Bs (WK A n k)) 7 (λ_ _ _ _ _ h=>h) (λs=>?_);have f:w3.drew.cell? ⟨w.heap.size,0,B0⟩=Bs (.int eQ e)/\w3.drew.cell? ⟨w.heap.size,1,B0⟩=Bs (WK A n k):=⟨y0,J⟩
 refine nF 0 s f ?_;refine nF 1 s f ?_;refine nB 2 rfl rfl s f (λw' G=>by obtain⟨q0,q1⟩:=G;go_simp;rfl) ?_;refine nF 3 s f ?_;refine nB 4 rfl rfl s f (λw' G=>by obtain⟨q0,q1⟩:=G;go_simp;rfl) ?_;refine nG 5 (λF u=>?_);go_simp;refine aK.o.mono ?_;rintro en w4 ⟨A4,k4,rfl,O,aB,X⟩;have E:VI w3.heap.size w3 w4:=(VC _ _).drew.trans aB;have y:=aE.o.toJ.aW E;have a8:=an.o.below E an.o.lt;have ah:=(Below.fr E (λ_=>False)).own aM.o (λ_ _ h=>h);have aX:=LH (ar.o.trans (E.mono ar.o.size));have M:=LH (y.conf_ e p (by rw[H.o];exact O) (by rw[H.o];exact aR));have z1:=y.al.cell 1;have z2:=y.al.cell 2;have v1:=y.al.frozen 1;have v2:=y.al.frozen 2;have zl:=y.al.lt;simp only[NW,Ft,O0]at z1 z2;have ab:Fr (λk=>k=g) w4 ((w4.setCell ⟨g,1,B0⟩ (.int eQ e)).setCell ⟨g,2,B0⟩ (WK A4 n k4)):=(Fr.aL g w4 1 _).trans (Fr.aL g _ 2 _);have aP:w.heap.size≠g:=Z4 ((aW.o g (eR rfl)).2);have am:=LH (ab.al a8 aP);have aL:=LH (ab.own ah (λb hb (e:b=g)=>Bh ah y.al Z2 (e▸hb)));have aJ:=LH ((Below.fr aX.o (CZ g C V L)).trans (ab.mono (λi _ e=>eR e)));have W:∀b,(WK A4 n k4).ownBlock=Bs b->w.heap.size<=b:=λb hb=>by have h1:w3.heap.size<=b:=X b hb;have:=ar.o.size;omega
 have aD:=LH W;have ak:=Wo (a8.cell 0) (a8.cell 1);clear y ab X W aB E O ah a8 aK f;go_simp;refine u _ _ (λ_=>ak) ?_;clear u F;refine nG 6 (λF u=>?_);go_simp;refine u _ _ (λ_=>ak) ?_;clear u F;refine nG 7 (λF u=>?_);go_simp;refine u _ _ nZ ?_;clear u F;refine nG 8 (λF u=>?_);go_simp;refine u _ _ nZ ?_;clear u F;refine nG 9 (λF u=>?_);go_simp;refine u _ _ nZ ?_;clear u F;refine nX ?_;clear s z1 z2 v1 v2 zl c3 kl y0 J yl aE an aM ak;go_wp2_with fail;generalize ((w4.setCell _ _).setCell _ _)=w5 at *;have g0:=M.o.al.cell 0;have J:=am.o.cell 1;have yl:=am.o.lt;have kl:=M.o.al.lt;simp only[NW,Ft,O0]at g0 J;have aH:=LH (No d.id A n k p w5.drew (show Rd w5 w5.heap.size 1 A n (p.map (Wm eQ))from Rd.a7 aL.o) H.o Z0);have aa:=idxI_in aV.o;rw[H.o]at aa;refine nW ?_;refine CR (λw'=>w'.cell? ⟨g,0,B0⟩=Bs (.int eQ d.id)/\w'.cell? ⟨w.heap.size,1,B0⟩=Bs (WK A n k)) 8 (λ_ _ _ _ _ h=>h) (λs=>?_);have f:w5.drew.cell? ⟨g,0,B0⟩=Bs (.int eQ d.id)/\w5.drew.cell? ⟨w.heap.size,1,B0⟩=Bs (WK A n k):=⟨g0,J⟩
 refine nF 0 s f ?_;refine nF 1 s f ?_;refine nB 2 rfl rfl s f (λw' G=>by obtain⟨q0,q1⟩:=G;go_simp;rfl) ?_;refine nF 3 s f ?_;refine nF 4 s f ?_;refine nF 5 s f ?_;refine nB 6 rfl rfl s f (λw' G=>by obtain⟨q0,q1⟩:=G;go_simp;rfl) ?_;refine nG 7 (λF u=>?_);go_simp;refine aH.o.mono ?_;rintro en w6 ⟨rfl,rfl⟩;go_simp;refine u _ _ (λ_=>f) ?_;clear u F;have z3:=M.o.al.cell 3;have v3:=M.o.al.frozen 3;simp only[NW,Ft,O0]at z3;refine nG 8 (λF u=>?_);go_simp;refine u _ _ nZ ?_;clear u F;refine nG 9 (λF u=>?_);go_simp;refine u _ _ nZ ?_;clear u F;refine nG 10 (λF u=>?_);go_simp;refine u _ _ nZ ?_;clear u F;refine nX ?_;clear s f aH g0 J yl am aL;have v:=LH ((M.o.at' (DS d.id p)).aW (VC _ _).drew);have aq:=LH ((aJ.o.trans ((Fr.aL g w5 3 (.int eQ (DS d.id p))).mono (λi _ e=>eR e))).drew);clear M aJ z3 v3 kl;generalize ae:DS d.id p=ix at *;have af:=LH ae;clear ae;have R:∀q (V2:S2) (L2:List BI),(V2=V/\L2=L\/V2=WK B0 0 0/\L2=[])->CZ g (WK A4 n k4) V2 L2 q->CZ g C V L q\/w.heap.size<=q:=by
  rintro q V2 L2 hv (I|I|I|⟨x,hx,I⟩);exact eR (eR I);exact eS (aD.o q I);obtain⟨rfl,rfl⟩|⟨rfl,rfl⟩:=hv;exact eR (eS (eS (eR I)));cases I;obtain⟨rfl,rfl⟩|⟨rfl,rfl⟩:=hv;exact eR (eS (eS (eS ⟨x,hx,I⟩)));cases hx
 have a5:=LH R;clear R;generalize (YB w5 _ _).drew=w6 at *;have z3:=v.o.al.cell 3;have z4:=v.o.al.cell 4;have z5:=v.o.al.cell 5;have v4:=v.o.al.frozen 4;have v5:=v.o.al.frozen 5;have kl:=v.o.al.lt;simp only[NW,Ft,O0]at z3 z4 z5;have aZ:ix>=0:=aa.1;have aY:¬ix<0:=by omega
 by_cases ad:d.aN<0
 ·have a1:d.bS e p=⟨d.id,e,p,ix,[],0⟩:=by unfold Nd.bS;rw[Z8 ad,af.o]
  have a6:=LH (v.o.clear_.toI (show -1<=ix by omega) (show ix<p.length by rw[H.o];exact aa.2));have aI:=LH (aq.o.trans (((Fr.aL g w6 4 (WK B0 0 0)).trans (Fr.aL g _ 5 (.int eQ 0))).mono (λi _ e=>eR e)));go_upto_region 10 with (fail)
  clear z3 z4 z5 v4 v5 kl v;generalize ((w6.setCell _ _).setCell _ _)=w7 at *;have z3:=a6.o.al.cell 3;have kl:=a6.o.al.lt;simp only[NW,Ft,O0]at z3;have al:=LH (q99 a6.o);go_wp2_with fail;refine al.o.mono ?_;rintro en w8 ⟨V1,rfl,U,Y,a2⟩;have z:BecP base g C V L d e p w (ZY (ZZ #[V1,ZS])) w8:=⟨V1,_,_,_,rfl,by rw[a1];exact U.de aI.o.size,by rw[a1];exact Y,aI.o.trans (a2.mono (λi _ e=>eR e)),λq I=>a5.o q _ _ (eS ⟨rfl,rfl⟩) I⟩
  have HF:=LH z;clear z U Y a2;go_wp2_with fail;go_ret2;exact HF.o
 have a1:d.bS e p=⟨d.id,e,p,ix,d.a4,d.ao⟩:=by unfold Nd.bS;rw[Z7 ad,af.o]
 have a6:=LH (v.o.toI (show -1<=ix by omega) (show ix<p.length by rw[H.o];exact aa.2));have al:=LH (q99 a6.o);go_wp2_with fail;refine al.o.mono ?_;rintro en w8 ⟨V1,rfl,U,Y,a2⟩;have z:BecP base g C V L d e p w (ZY (ZZ #[V1,ZS])) w8:=⟨V1,_,_,_,rfl,by rw[a1];exact U.de aq.o.size,by rw[a1];exact Y,aq.o.trans (a2.mono (λi _ e=>eR e)),λq I=>a5.o q _ _ (eR ⟨rfl,rfl⟩) I⟩
 have HF:=LH z;clear z U Y a2;go_wp2_with fail;go_ret2;exact HF.o
def B9(base g:Nat)(C V:S2)(L:List BI)(d:Nd)(m:Ms)(w:D0)(e:WE)(w':D0):Prop:=
 ∃f V2 h,e=ZY f/\BM w.heap.size (d.step m).2 f w'/\BT w' base g C V2 h (d.step m).1/\Fr (CZ g C V L) w w'/\∀q,CZ g C V2 h q->CZ g C V L q\/w.heap.size<=q
def B9.of{m:Ms}{nd:Nd}{ms:List Ms}{f:S2}{h:List BI}(i:d.step m=(nd,ms))(p:BM w.heap.size ms f w')(s:BT w' base g C v h nd)(u:Fr (CZ g C V L) w w')(k:∀q,CZ g C v h q->CZ g C V L q\/w.heap.size<=q) :
  B9 base g C V L d m w (ZY f) w':=⟨f,v,h,rfl,by rw[i];exact p,by rw[i];exact s,u,k⟩
def BM.cR{B A n k:_}{ms:List Ms}{M:List AW}{V:S2}{w:D0}{m:Ms}(u:AI M=ms)(i:∀x∈M,Et w B x/\x.n<=100000)(p:w.ownsRow B 116 9 V M.length (M.flatMap CQ))(s:w.ownsRow B 45 3 (WK A n k) n (m.aY.ae.flatMap Dj))(hl:m.aY.ae.length=n)(E:n<=100000)
  (q:w2.ownsRow B 116 9 v' (M.length+1) (M.flatMap CQ++(BF m A n k).toList)) (z:Am w w2 V.ownBlock v'.ownBlock):BM B (ms++[m]) v' w2:=by
 obtain⟨G,c,rfl,_,_⟩:=AM q;have v:(ms++[m]).length=M.length+1:=by rw[<- u];simp[AI]
 have f:∀x:AW,Et w B x->Et w2 B x:=λx i=>⟨z.1.own i.1 (λb F e=>EX i.1 p Z2 F e.symm),i.2⟩
 refine⟨G,c,M++[⟨m,A,n,k⟩],by rw[v],?_,by rw[<- u];simp[AI],λx y=>?_⟩;rw[VJ,Wq];simpa [CQ]using q;obtain h|h:=XA.1 y;exact⟨f x (i x h).1,(i x h).2⟩;rw[VU]at h;subst h;exact⟨f _ ⟨s,hl⟩,E⟩
def FwRel(d:Nd)(a:Nat)(w3:D0)(B:Nat)(h f:S2)(wr:D0):Prop:=∃j:Nat,f=Wm eQ ((a+j:Nat):Int)/\(j=0\/a+j<=d.a4.length)/\BM B ((Wh a j).map d.a6) h wr/\VI w3.heap.size w3 wr
def fw_snoc(d:Nd)(a j:Nat):(Wh a (j+1)).map d.a6=(Wh a j).map d.a6++[d.a6 (a+j)]:=by rw[List.range'_concat,WQ];simp
def OD(h:BT w base g C V L d)(i:0<=d.aN)(f:d.tail=L1):d.aN+1<d.aI.length:=by
 have:=h.dg;obtain h1|h1:=(show d.aN+1<d.aI.length\/d.aN=(d.aI.length:Int)-1 by omega)
 exact h1;exfalso;unfold Nd.tail at f;rw[ZA (show d.aN>=0 by omega),YQ,h1]at f;simp at f
def Nd.ahead(d:Nd)(f:Int):Bool:=decide (d.aN > 0) && f == d.a8 (-1)
def Nd.next(d:Nd)(f:Int):Bool:=!d.tail && f == d.a8 1
def qdc(d:Nd)(m:Ms):d.step m=if d.aN<0\/m.ad≠d.ad\/m.a8≠d.id then(d,[])else
 if m.aj=1/\d.ahead m.ar=VD then(d,[d.b9 2 (-1) d.a4.length])else
 if m.aj=2/\d.next m.ar=VD/\0<=m.n then(d,(Wh m.n.toNat (d.a4.length-m.n.toNat)).map d.a6)else
 if m.aj=3/\d.ahead m.ar=VD/\m.n=d.a4.length/\m.n<500 then d.aP m.aY else
 if m.aj=4/\d.next m.ar=VD/\0<=m.n/\m.n<=d.a4.length then
  ({d with ao:=max d.ao m.n},if d.aN > 0 then [d.b9 4 (-1) (max d.ao m.n)]else [])else(d,[]):=rfl
def nbr(h:BT w base g C V L d)(b:Int)(z:0<=d.aN+b)(y:d.aN+b<d.aI.length):∃f i c j,C=WK (Bs ⟨f,i,B0⟩) d.aI.length c/\(d.aN+b=(j:Nat))/\(j:Int)<d.aI.length/\f<w.heap.size/\w.cell? ⟨f,i+j,B0⟩=Bs (Wm eQ (d.a8 b))/\IntKind.i64.wrap (d.aN+b)=(j:Int):=by
 obtain⟨A,c,rfl⟩:=h.eC;have v:=h.cd;obtain⟨j,p⟩:∃j:Nat,d.aN+b=j:=⟨(d.aN+b).toNat,Z0⟩
 obtain⟨f,i,x,rfl,q,u,s⟩:=rd1 (Rd.a7 h.cz) (j:=j) Z0;have k:d.a8 b=x:=by unfold Nd.a8;rw[p];simp[u]
 exact⟨f,i,c,j,rfl,p,Z0,q,by rw[k];exact s,by rw[V4 _ ⟨Z0,Z0⟩,p]⟩
def qdd{d:Nd}{m:Ms}{h f:Bool}{q p k i:Nd×List Ms}(y:¬(m.aj=1/\h=VD))(v:¬(m.aj=2/\f=VD/\0<=m.n))(u:¬(m.aj=3/\h=VD/\m.n=d.a4.length/\m.n<500))(s:¬(m.aj=4/\f=VD/\0<=m.n/\m.n<=d.a4.length)) :
  (if m.aj=1/\h=VD then q else if m.aj=2/\f=VD/\0<=m.n then p else if m.aj=3/\h=VD/\m.n=d.a4.length/\m.n<500 then k else if m.aj=4/\f=VD/\0<=m.n/\m.n<=d.a4.length then i else(d,[]))=(d,[]):=by
 rw[Z7 y,Z7 v,Z7 u,Z7 s]
def St(h:BT w base g C V L d)(m:Ms)(A:Option Xo)(n k:Nat)(hR:Gr w w.heap.size A n m.aY.ae)(hk:A=B0->k=0)(hn:n<=100000) :
  VX Tryz.prog 51 #[ZW (Bs ⟨g,0,B0⟩),.agg #[.int eQ m.aj,.int eQ m.ar,.int eQ m.a8,.int eQ m.ad,.int eQ m.n,.int eQ m.aY.aj,.int eQ m.aY.tx,.int eQ m.aY.ah,WK A n k]] w (B9 base g C V L d m w):=by
 have au:VI w.heap.size w (w.alloc (eT (BF m A n k) 116)):=(VC _ _).alloc (Hi _) _;have y:=h.aW au;have aH:Ae (w.alloc (eT (BF m A n k) 116)) w.heap.size 116 (BF m A n k):=Ae.b4 w _ _;have ag:∀F,VI w.heap.size w F/\Ae F w.heap.size 116 (BF m A n k)->BT F base g C V L d/\F.cell? ⟨w.heap.size,0,B0⟩=Bs (.int eQ m.aj)/\F.cell? ⟨w.heap.size,1,B0⟩=Bs (.int eQ m.ar)/\F.cell? ⟨w.heap.size,2,B0⟩=Bs (.int eQ m.a8)/\F.cell? ⟨w.heap.size,3,B0⟩=Bs (.int eQ m.ad)/\F.cell? ⟨w.heap.size,4,B0⟩=Bs (.int eQ m.n)/\
   F.cell? ⟨w.heap.size,5,B0⟩=Bs (.int eQ m.aY.aj)/\F.cell? ⟨w.heap.size,6,B0⟩=Bs (.int eQ m.aY.tx)/\F.cell? ⟨w.heap.size,7,B0⟩=Bs (.int eQ m.aY.ah)/\F.cell? ⟨w.heap.size,8,B0⟩=Bs (WK A n k)/\w.heap.size<F.heap.size:=λF ⟨hW,hB⟩=>⟨h.aW hW,hB.cell 0,hB.cell 1,hB.cell 2,hB.cell 3,hB.cell 4,hB.cell 5,hB.cell 6,hB.cell 7,hB.cell 8,hB.lt⟩
 have W:=LH ag;clear ag;have b0:=LH (λF (hW:VI w.heap.size w F)=>(⟨hR.1,(hR.2.below hW).more hW.size⟩:Gr F F.heap.size A n m.aY.ae));clear hR;have aL:=LH h;have a2:=LH (show VI w.heap.size w (w.alloc (eT (BF m A n k) 116))/\Ae (w.alloc (eT (BF m A n k) 116)) w.heap.size 116 (BF m A n k)from⟨au,aH⟩);clear au aH y;have a9:=h.c9;have bc:=h.len;have ba:=h.dg;have bb:=h.lo;have bd:=h.al.lt;clear h;unfold BF at a2 W;obtain⟨Z,e0,e1,e2,e3,e4,_,_,_,_,el⟩:=W.o _ a2.o;obtain⟨c0,c1,_,c3,_,_,kl⟩:=Z.cells;clear Z;by_cases G:d.aN<0\/m.ad≠d.ad\/m.a8≠d.id
 ·have u:d.step m=(d,[]):=by rw[qdc,Z8 G]
  have HF:=LH (λF (hW:VI w.heap.size w F)=>(B9.of u (BM.nil _ _) (aL.o.aW hW) (Below.fr hW _) (λ_ h=>eR h):B9 base g C V L d m w (ZY (WK B0 0 0)) F));clear u;have av:=LH a2.o.1;by_cases b1:d.aN<0
  ·have d1:decide (d.aN<0)=VD:=ZA b1;go_enter Tryz.func51,Tryz.ntmps51;go_upto_region 1 with (fail)
   go_quiet (fail);go_wp2_with fail;go_ret;exact HF.o _ (CI av.o _)
  have d1:decide (d.aN<0)=L1:=Z9 b1;by_cases b2:m.ad=d.ad
  ·have d2:(m.ad != d.ad)=L1:=Z6 b2;have b3:m.a8≠d.id:=by obtain h|h|h:=G;exact ZB h b1;exact ZB b2 h;exact h
   have d3:(m.a8 != d.id)=VD:=Z6 b3;clear b2;go_enter Tryz.func51,Tryz.ntmps51;go_upto_region 1 with (fail)
   go_quiet (fail);go_wp2_with fail;go_ret;exact HF.o _ (CI av.o _)
  have d2:(m.ad != d.ad)=VD:=Z6 b2;go_enter Tryz.func51,Tryz.ntmps51;go_upto_region 1 with (fail)
  go_quiet (fail);go_wp2_with fail;go_ret;exact HF.o _ (CI av.o _)
 obtain⟨b1,b2,b3⟩:¬d.aN<0/\m.ad=d.ad/\m.a8=d.id:=⟨λh=>G (eR h),Wc λh=>G (eS (eR h)),Wc λh=>G (eS (eS h))⟩
 have u:=qdc d m;rw[Z7 G]at u;have E:=LH u;clear u G;have d1:decide (d.aN<0)=L1:=Z9 b1;have d2:(m.ad != d.ad)=L1:=Z6 b2;have d3:(m.a8 != d.id)=L1:=Z6 b3;have aa:0<=d.aN:=by omega
 clear b2 b3;go_enter Tryz.func51,Tryz.ntmps51;go_upto_region 1 with (fail)
 go_quiet (fail);go_upto_region 3 with (fail)
 have aD:VI w.heap.size w ((w.alloc (eT #[.int eQ m.aj,.int eQ m.ar,.int eQ m.a8,.int eQ m.ad,.int eQ m.n,.int eQ m.aY.aj,.int eQ m.aY.tx,.int eQ m.aY.ah,WK A n k] 116)).drewN nq)/\Ae ((w.alloc (eT #[.int eQ m.aj,.int eQ m.ar,.int eQ m.a8,.int eQ m.ad,.int eQ m.n,.int eQ m.aY.aj,.int eQ m.aY.tx,.int eQ m.aY.ah,WK A n k] 116)).drewN nq) w.heap.size 116 #[.int eQ m.aj,.int eQ m.ar,.int eQ m.a8,.int eQ m.ad,.int eQ m.n,.int eQ m.aY.aj,.int eQ m.aY.tx,.int eQ m.aY.ah,WK A n k]:=⟨CI a2.o.1 _,a2.o.2⟩
 clear e0 e1 e2 e3 e4 el c0 c1 c3 kl a2 d1 d2 d3;generalize ((w.alloc _).drewN nq)=w2 at *;have a4:=LH aD;clear aD;go_cut [5] (λv5 wx=>v5=ZX (d.ahead m.ar)/\(VI w.heap.size w wx/\Ae wx w.heap.size 116 #[.int eQ m.aj,.int eQ m.ar,.int eQ m.a8,.int eQ m.ad,.int eQ m.n,.int eQ m.aY.aj,.int eQ m.aY.tx,.int eQ m.aY.ah,WK A n k]))
 case first=>
  obtain⟨Z,_,e1,_,_,_,_,_,_,_,el⟩:=W.o _ a4.o;by_cases hp:d.aN > 0
  ·obtain⟨gc,oc,c,j,rfl,hj,aV,aW,aX,aj⟩:=nbr Z (-1) Z0 Z0;obtain⟨_,_,c2,c3,_,_,kl⟩:=Z.cells;have d1:decide (0<d.aN)=VD:=ZA hp;have ay:=LH (show d.ahead m.ar=(m.ar == d.a8 (-1)) by unfold Nd.ahead;rw[ZA hp,YQ]);have b8:IntKind.i64.wrap (d.aN-1)=(j:Int):=aj;clear Z aj hj;go_quiet (fail);go_wp2_with fail;go_meet;exact⟨by rw[ay.o],CI a4.o.1 _,a4.o.2⟩
  have d1:decide (0<d.aN)=L1:=Z9 hp;obtain⟨_,_,_,c3,_,_,kl⟩:=Z.cells;have ay:=LH (show d.ahead m.ar=L1 by unfold Nd.ahead;rw[Z9 hp,Bool.false_and]);clear Z;go_quiet (fail);go_wp2_with fail;go_meet;exact⟨by rw[ay.o],CI a4.o.1 _,a4.o.2⟩
 obtain⟨rfl,aC⟩:=hcut;clear a4;rename D0=>w3
 have a3:=LH aC;clear aC;go_upto_region 4 with (fail)
 go_cut [6] (λv6 wx=>v6=ZX (d.next m.ar)/\(VI w.heap.size w wx/\Ae wx w.heap.size 116 #[.int eQ m.aj,.int eQ m.ar,.int eQ m.a8,.int eQ m.ad,.int eQ m.n,.int eQ m.aY.aj,.int eQ m.aY.tx,.int eQ m.aY.ah,WK A n k]))
 case first=>
  obtain⟨Z,_,e1,_,_,_,_,_,_,_,el⟩:=W.o _ a3.o;have ab:=LH (λnq=>Sg (Z.aW (CI (VC w3.heap.size w3) nq)));cases ht:d.tail
  ·have be:=OD Z aa ht;rw[ht]at ab;obtain⟨gc,oc,c,j,rfl,hj,aV,aW,aX,aj⟩:=nbr Z 1 Z0 Z0;obtain⟨_,_,c2,c3,_,_,kl⟩:=Z.cells;have ax:=LH (show d.next m.ar=(m.ar == d.a8 1) by unfold Nd.next;rw[ht];rfl);clear Z ht hj;go_quiet ((go_at_call 58;exact Calls.quiet_of (ab.o _)));go_wp2_with fail;go_meet;exact⟨by rw[ax.o],CI a3.o.1 _,a3.o.2⟩
  rw[ht]at ab;have ax:=LH (show d.next m.ar=L1 by unfold Nd.next;rw[ht];rfl);clear Z ht;go_quiet ((go_at_call 58;exact Calls.quiet_of (ab.o _)));go_wp2_with fail;go_meet;exact⟨by rw[ax.o],CI a3.o.1 _,a3.o.2⟩
 obtain⟨rfl,f⟩:=hcut;clear a3;rename D0=>w4
 obtain⟨a7,e0,e1,e2,e3,e4,e5,e6,e7,e8,el⟩:=W.o _ f;have ac:=LH f;have aY:d.ahead m.ar=VD->d.aN > 0:=λh=>by unfold Nd.ahead at h;simp only[Wl,decide_eq_true_eq]at h;exact h.1
 have aS:d.next m.ar=VD->d.aN+1<d.aI.length:=λh=>OD a7 aa (by unfold Nd.next at h;simp only[Wl,XQ]at h;exact h.1)
 generalize d.ahead m.ar=ah at *;generalize d.next m.ar=nx at *;have z:=LH (λF (hW:VI w.heap.size w F) (u:d.step m=(d,[]))=>(B9.of u (BM.nil _ _) (aL.o.aW hW) (Below.fr hW _) (λ_ h=>eR h):B9 base g C V L d m w (ZY (WK B0 0 0)) F));obtain⟨_,_,c2,c3,c4,c5,kl⟩:=a7.cells;obtain⟨AL,cL,rfl⟩:=a7.dL;have O:=LH a7;clear a7;have f:=ac.o;clear w2;by_cases k1:m.aj=1
 ·rw[k1]at e0;cases ah
  ·have HH:=LH f;clear f;have f:=HH.o;go_wp2_with fail;go_quiet (fail);go_wp2_with fail;go_quiet (fail);go_wp2_with fail;go_ret;exact z.o _ (CI (CI (f.1) _) _) (by rw[E.o];exact qdd Zy Zy Zy Zy)
  have b9:=aY rfl;have HM:=LH (q7t O.o 2 (-1) L.length Z0 Z0);go_wp2_with fail;refine HM.o.mono ?_;rintro e w5 ⟨rfl,H⟩;have u:d.step m=(d,[d.b9 2 (-1) d.a4.length]):=by rw[E.o];simp[k1]
  unfold DD;have ar:VI w5.heap.size w5 (w5.alloc (eT (BF (d.b9 2 (-1) d.a4.length) B0 0 0) 116)):=(VC _ _).alloc (Hi _) _;have U:=f.1.trans (H.mono f.1.size);have s:B9 base g C (WK AL L.length cL) L d m w (ZY (WK (Bs ⟨w5.heap.size,0,B0⟩) 1 1)) (w5.alloc (eT (BF (d.b9 2 (-1) d.a4.length) B0 0 0) 116)):=
   B9.of u (qaq (A:=B0) (n:=0) (k:=0) (MJ (Iq w5 _ _ 9 rfl) U.size) (VW _ _ _ _) rfl Z0) ((O.o.aW H).aW ar) (Below.fr (U.trans (ar.mono U.size)) _) (λ_ h=>eR h)
  unfold BF at s;rw[a9]at s;have HF:=LH s;clear s ar U H u;go_wp2_with fail;go_ret;exact HF.o
 have f1:(m.aj == 1)=L1:=Z6 k1;by_cases k2:m.aj=2
 ·rw[k2]at e0;cases nx
  ·have f:=f;go_wp2_with fail;go_quiet (fail);go_wp2_with fail;go_quiet (fail);go_wp2_with fail;go_ret;exact z.o _ (CI (CI (f.1) _) _) (by rw[E.o];exact qdd Zy Zy Zy Zy)
  by_cases r1:0<=m.n
  ·obtain⟨a,ha⟩:∃a:Nat,m.n=a:=⟨m.n.toNat,Z0⟩
   have d1:decide (0<=m.n)=VD:=ZA r1;have u:d.step m=(d,(Wh a (d.a4.length-a)).map d.a6):=by
    rw[E.o,Z7 (λh=>Z4 h.1),Z8 (by refine⟨k2,?_,r1⟩;simp),show m.n.toNat=a by omega]
   have a1:=LH u;clear u;rw[ha]at e4 d1;clear c2 c5 e1 e2 e3 e5 e6 e7 e8;go_wp2_with fail;go_loopw [7,8] (FwRel d a w4 w4.heap.size) (λ_ v _=>d.a4.length-(intOf v).toNat)
   case atStart=>exact⟨0,rfl,eR rfl,BM.nil _ _,VC _ _⟩
   obtain⟨j,rfl,hj,a0,hb⟩:=hrel;have Y:=O.o.aW hb;obtain⟨_,_,_,_,c4,_,kl⟩:=Y.cells;obtain⟨q,hq⟩:∃q:Nat,a+j=q:=⟨_,rfl⟩
   rw[hq]at hj ⊢;by_cases aT:q<L.length
   ·have dl:decide ((q:Int)<(L.length:Int))=VD:=ZA Z0;have HX:=LH (show L[q]? = Bs L[q]from K0 aT);have aM:=LH (qb8 Y q _ HX.o aa (aS trivial));have aK:=LH (Y.own _ (N2 HX.o));have b6:=LH (show(d.a6 q).aY=L[q].c by unfold Nd.a6;rw[<- Y.a4,AQ,VQ,HX.o];rfl);have ai:=LH a0;clear a0;have ae:=LH hb;clear hb Y;have aN:=LH (fw_snoc d a j);rw[hq]at aN;generalize L[q]=x at *;generalize d.a6 q=fm at *;go_wp2_with fail;refine aM.o.mono ?_;rintro e w5 ⟨A1,aQ,rfl,I,H⟩;have U:=ae.o.trans (H.mono ae.o.size);have aR:w4.heap.size<=w5.heap.size:=U.size;obtain⟨A7,c7,M,rfl,a5,al,az⟩:=ai.o.aW H;have an:((Wh a j).map d.a6).length=M.length:=by rw[<- al];simp[AI]
    have bf:M.length<=500:=by rw[<- an];simp;omega
    have I:=MJ I ae.o.size;rw[an]at a5 ⊢;have a8:=LH a5;clear a5;have aZ:=LH az;clear az;have b5:=LH al;clear al an;have aJ:=LH I;clear I;have aP:=LH U;clear U H aM ai ae;unfold DD;go_wp2_with (at_builtin;refine stop ?_)
    refine CD ?_;refine Oq w5 _ rfl (.tmp 113) (.tmp 117) 86 rfl w4.heap.size 116 _ 9 88 Tryz.underlying86 q7v rfl Z2 _ _ _ (BF fm A1 x.n aQ) rfl a8.o 1 rfl _ rfl rfl (by unfold BF;simp[Wx]) Zx Z0 aR ?_;intro v' w9 aE am;have aB:=BM.cR b5.o aZ.o a8.o aJ.o (by rw[b6.o];exact aK.o.2.1) aK.o.2.2 aE am;have a6:FwRel d a w4 w4.heap.size v' (.int eQ ((q+1:Nat):Int)) w9:=by
     refine⟨j+1,by rw[show a+(j+1)=q+1 by omega],eS Z0,by rw[aN.o];exact aB,aP.o.trans (am.below (λb hb=>?_) aP.o.size)⟩;exact(a8.o.lt b hb).1
    have HR:=LH a6;clear a6 aB aE am;clear dl;go_wp2_with fail;go_roundw;exact HR.o;simp[intOf];omega
   have dl:decide ((q:Int)<(L.length:Int))=L1:=Z9 Z0;have s:B9 base g C (WK AL L.length cL) L d m w (ZY u7) wr:=by
    refine B9.of a1.o ?_ Y ?_ (λ_ h=>eR h);rw[show d.a4.length-a=j by omega];exact a0.de ac.o.1.size;exact Below.fr (ac.o.1.trans (hb.mono ac.o.1.size)) _
   have HF:=LH s;clear s hb a0 Y;go_wp2_with fail;go_ret;exact HF.o
  have d1:decide (0<=m.n)=L1:=Z9 Z0;go_wp2_with fail;go_quiet (fail);go_wp2_with fail;go_quiet (fail);go_wp2_with fail;go_ret;exact z.o _ (CI (CI (f.1) _) _) (by rw[E.o,Z7 (λh=>Z4 h.1),Z7 (λh=>Z4 h.2.2),Z7 (λh=>Z4 h.1),Z7 (λh=>Z4 h.1)])
 by_cases k3:m.aj=3
 ·rw[k3]at e0;cases ah
  ·have f:=f;go_wp2_with fail;go_quiet (fail);go_wp2_with fail;go_quiet (fail);go_wp2_with fail;go_ret;exact z.o _ (CI (CI (f.1) _) _) (by rw[E.o];exact qdd Zy Zy Zy Zy)
  by_cases q1:m.n=d.a4.length
  ·by_cases q2:m.n<500
   ·have d2:decide (m.n<500)=VD:=ZA q2;have d3:(m.n == (L.length:Int))=VD:=by rw[q1,a9];simp
    go_wp2_with fail;go_quiet (fail);have aU:L.length<500:=by omega
    have HG:=LH (KT (O.o.aW (CI (VC w4.heap.size w4) nq)) ⟨m.aY,A,n,k⟩ (b0.o _ (CI f.1 nq)) hk hn aU aa);go_wp2_with fail;refine HG.o.mono ?_;rintro e w5 ⟨V1,V2,x2,rfl,_,ho,X,aI,af⟩;have u:d.step m=((d.aP m.aY).1,(d.aP m.aY).2):=by
     rw[E.o,Z7 (λh=>Z4 h.1),Z7 (λh=>Z4 h.1),Z8 (by refine⟨k3,?_,q1,q2⟩;simp)]
    have s:B9 base g C (WK AL L.length cL) L d m w (ZY V1) w5:=B9.of u (ho.de f.1.size) X ((Below.fr (CI f.1 nq) _).trans aI) (λq hq=>(af q hq).imp id (λh=>VK f.1.size h));have HF:=LH s;clear s ho X aI af u;go_wp2_with fail;go_ret;exact HF.o
   have d2:decide (m.n<500)=L1:=Z9 q2;have d3:(m.n == (L.length:Int))=VD:=by rw[q1,a9];simp
   go_wp2_with fail;go_quiet (fail);go_wp2_with fail;go_quiet (fail);go_wp2_with fail;go_ret;exact z.o _ (CI (CI (f.1) _) _) (by rw[E.o,Z7 (λh=>Z4 h.1),Z7 (λh=>Z4 h.1),Z7 (λh=>Z4 h.2.2.2),Z7 (λh=>Z4 h.1)])
  have d3:(m.n == (L.length:Int))=L1:=by rw[<- a9];simpa using q1
  go_wp2_with fail;go_quiet (fail);go_wp2_with fail;go_quiet (fail);go_wp2_with fail;go_ret;exact z.o _ (CI (CI (f.1) _) _) (by rw[E.o,Z7 (λh=>Z4 h.1),Z7 (λh=>Z4 h.1),Z7 (λh=>Z4 h.2.2.1),Z7 (λh=>Z4 h.1)])
 by_cases k4:m.aj=4
 ·rw[k4]at e0;cases nx
  ·have f:=f;go_wp2_with fail;go_quiet (fail);go_wp2_with fail;go_quiet (fail);go_wp2_with fail;go_ret;exact z.o _ (CI (CI (f.1) _) _) (by rw[E.o,Z7 (λh=>Z4 h.1),Z7 (λh=>Z4 h.1),Z7 (λh=>Z4 h.1),Z7 (λh=>by have:=h.2.1;simp at this)])
  by_cases r1:0<=m.n
  ·by_cases r2:m.n<=d.a4.length
   ·
    have d1:decide (0<=m.n)=VD:=ZA r1;have d2:decide (m.n<=(L.length:Int))=VD:=ZA Z0;go_wp2_with fail;go_quiet (fail);go_wp2_with fail;go_quiet (fail);have f5:=O.o.al.frozen 5;have aF:=O.o.cH (k:=max d.ao m.n) (Z4 O.o.st0) (Z4 O.o.cp);have b4:=LH aF;clear aF;go_upto_region 17 with (fail)
    refine nW ?_;refine CR (λw'=>w'.cell? ⟨g,5,B0⟩=Bs (.int eQ d.ao)/\w'.cell? ⟨w.heap.size,4,B0⟩=Bs (.int eQ m.n)) 8 (λ_ _ _ _ _ h=>h) (λJ=>?_);have R:=Wo c5 e4;refine nF 0 J R ?_;refine nF 1 J R ?_;refine nF 2 J R ?_;refine nF 3 J R ?_;refine nB 4 rfl rfl J R (λw' ak=>by obtain⟨q0,q1⟩:=ak;go_simp;rfl) ?_;refine nF 5 J R ?_;refine nB 6 rfl rfl J R (λw' ak=>by obtain⟨q0,q1⟩:=ak;go_simp;rfl) ?_;refine nF 7 J R ?_;refine nG 8 (λKK hK=>?_);go_simp;refine hK _ _ nZ ?_;clear hK KK;refine nG 9 (λKK hK=>?_);go_simp;refine hK _ _ nZ ?_;clear hK KK;refine nG 10 (λKK hK=>?_);go_simp;refine hK _ _ nZ ?_;clear hK KK;refine nX ?_;clear J R;have aG:(if d.ao<m.n then m.n else d.ao)=max d.ao m.n:=by split<;>omega
    try rw[aG]
    have u:d.step m=({d with ao:=max d.ao m.n},if d.aN > 0 then [d.b9 4 (-1) (max d.ao m.n)]else []):=by
     rw[E.o,Z7 (λh=>Z4 h.1),Z7 (λh=>Z4 h.1),Z7 (λh=>Z4 h.1),Z8 (by refine⟨k4,?_,r1,r2⟩;simp)]
    have a1:=LH u;clear u aG;generalize aA:w4.drewN _=w5;have H:VI w4.heap.size w4 w5:=aA▸CI (VC _ _) _;have X:=O.o.aW H;have ad:=LH (X.cH (k:=max d.ao m.n) (Z4 X.st0) (Z4 X.cp));have b7:=LH (f.1.trans (H.mono f.1.size));have aO:=LH ((Below.fr b7.o (CZ g C (WK AL L.length cL) L)).trans ((Fr.aL g w5 5 (.int eQ (max d.ao m.n))).mono (λi _ e=>eR e)));clear aA X H f c2 c3 c4 c5 kl f5 b4 e0 e1 e2 e3 e4 e5 e6 e7 e8 el;generalize max d.ao m.n=ks at *;generalize (w5.setCell _ _)=w7 at *;obtain⟨_,_,_,c3,_,c5,kl⟩:=ad.o.cells;by_cases hp:d.aN > 0
    ·have HM:=LH (q7t ad.o 4 (-1) ks (show 0<=d.aN + -1 by omega) (show d.aN + -1<d.aI.length by omega));go_wp2_with fail;refine HM.o.mono ?_;rintro e w8 ⟨rfl,aq⟩;unfold DD;have ap:VI w8.heap.size w8 (w8.alloc (eT (BF (d.b9 4 (-1) ks) B0 0 0) 116)):=(VC _ _).alloc (Hi _) _;have aw:=aO.o.trans (Below.fr aq (CZ g C (WK AL L.length cL) L));have s:B9 base g C (WK AL L.length cL) L d m w (ZY (WK (Bs ⟨w8.heap.size,0,B0⟩) 1 1)) (w8.alloc (eT (BF (d.b9 4 (-1) ks) B0 0 0) 116)):=
      B9.of (by rw[a1.o,Z8 hp]) (qaq (A:=B0) (n:=0) (k:=0) (MJ (Iq w8 _ _ 9 rfl) aw.size) (VW _ _ _ _) rfl Z0) ((ad.o.aW aq).aW ap) (aw.trans (Below.fr ap _)) (λ_ h=>eR h)
     unfold BF at s;have HF:=LH s;clear s ap aw aq;go_wp2_with fail;go_ret;exact HF.o
    have s:B9 base g C (WK AL L.length cL) L d m w (ZY (WK B0 0 0)) w7:=B9.of (by rw[a1.o,Z7 hp]) (BM.nil _ _) ad.o aO.o (λ_ h=>eR h);have HF:=LH s;clear s;go_wp2_with fail;go_ret;exact HF.o
   have d1:decide (0<=m.n)=VD:=ZA r1;have d2:decide (m.n<=(L.length:Int))=L1:=Z9 Z0;go_wp2_with fail;go_quiet (fail);go_wp2_with fail;go_quiet (fail);go_wp2_with fail;go_ret;exact z.o _ (CI (CI (f.1) _) _) (by rw[E.o,Z7 (λh=>Z4 h.1),Z7 (λh=>Z4 h.1),Z7 (λh=>Z4 h.1),Z7 (λh=>Z4 h.2.2.2)])
  have d1:decide (0<=m.n)=L1:=Z9 r1;go_wp2_with fail;go_quiet (fail);go_wp2_with fail;go_quiet (fail);go_wp2_with fail;go_ret;exact z.o _ (CI (CI (f.1) _) _) (by rw[E.o,Z7 (λh=>Z4 h.1),Z7 (λh=>Z4 h.1),Z7 (λh=>Z4 h.1),Z7 (λh=>Z4 h.2.2.1)])
 have f2:(m.aj == 2)=L1:=Z6 k2;have f3:(m.aj == 3)=L1:=Z6 k3;have f4:(m.aj == 4)=L1:=Z6 k4;go_wp2_with fail;go_quiet (fail);go_wp2_with fail;go_quiet (fail);go_wp2_with fail;go_ret;exact z.o _ (CI (CI (f.1) _) _) (by rw[E.o];exact qdd Zy Zy Zy Zy)
section
variable (base g off nd:Nat)(T:VR)(cs:Array S2)(V:S2)(D:Option Nat)(L:List AW)(dead:Int->Bool)(lost:Int)(w:D0)
def Ku(hI:AO w base g off T cs V D nd L dead lost):VX Tryz.prog 39 #[ZW (Bs ⟨g,off,B0⟩)] w λe w'=>e=ZY (Wm eQ L.length)/\w=w':=by obtain⟨q,p,f,h,i⟩:=AM hI.row;have k:=(hI.al.cell off).trans hI.c0;rw[f]at k;clear hI f;go_enter Tryz.func39,Tryz.ntmps39;go_wp2_with fail;go_ret;exact⟨rfl,rfl⟩
def Pg(base g off nd:Nat)(T:VR)(cs:Array S2)(V:S2)(D:Option Nat)(L:List AW)(dead:Int->Bool)(lost:Int)(k:Nat)(w:D0)(e:WE)(w':D0):Prop:=
 ∃V' lost',e=ZY ZS/\AO w' base g off T ((cs.setIfInBounds off V').setIfInBounds (off+2) (Wm eQ lost')) V' D nd (L.eraseIdx k) dead lost'/\Fr (B7 g V D) w w'/\V'.ownBlock=V.ownBlock
def Kk{w:D0}{base g nd:Nat}{T:VR}{V:S2}{D:Option Nat}{L:List AW}{dead:Int->Bool}{lost:Int}(hI:AO w base g B T U V D nd L dead lost)(n:Int) :
  AO (w.setCell ⟨g,B+2,B0⟩ (Wm eQ n)) base g B T (U.setIfInBounds (B+2) (Wm eQ n)) V D nd L dead n:=by
 have f:=Fr.aL g w (B+2) (Wm eQ n);have p:B+2<U.size:=by
  have:=hI.c2;obtain h|h:=Xd (B+2) U.size;exact h;rw[Xa (Z6 h)]at this;cases this
 refine⟨hI.al.aZ _ _,?_,?_,by simp[p],f.own hI.row (λb i e=>by subst e;exact Bh hI.row hI.al (λe=>hI.ne.1 e.symm) i),λx k=>⟨f.own (hI.own x k).1 (λb i e=>by subst e;exact Bh (hI.own x k).1 hI.al (λe=>hI.ne.2 e.symm) i),(hI.own x k).2⟩,hI.down.fr f (λb i e=>by subst e;exact hI.down.aV hI.al i),hI.len,hI.ne,VK hI.bg f.size⟩;rw[Wj Z0];exact hI.c0;rw[Wj Z0];exact hI.c1
def Tr(k:Nat)(hI:AO w base g off T cs V D nd L dead lost)(G:k<L.length) :
  VX Tryz.prog 53 #[ZW (Bs ⟨g,off,B0⟩),Wm eQ k] w (Pg base g off nd T cs V D L dead lost k w):=by
 have HI:=LH hI;clear hI;go_enter Tryz.func53,Tryz.ntmps53;go_wp2_with fail;refine(JQ base g off nd T cs V D L dead lost k w HI.o G).mono ?_;rintro e s ⟨V',x,F,rfl,v,H,y,u⟩;have i:∀o,AO (s.alloc o) base g off T (cs.setIfInBounds off V') V' D nd (L.eraseIdx k) dead lost:=λo=>v.fr ((Fr.refl (λ_=>False) _).alloc _) (λh=>h) (λ_ _ h=>h) (λ_ _ h=>h) (λ_ _ _ _ _ h=>h)
 have E:=λo=>((i o).al.cell (off+2)).trans (i o).c2
 have z:=λo=>(i o).al.frozen (off+2)
 have f:∀o,Pg base g off nd T cs V D L dead lost k w (ZY ZS) ((s.alloc o).setCell ⟨g,off+2,B0⟩ (Wm eQ (Xt (lost+1)))):=λo=>
  ⟨V',_,rfl,Kk (i o) (Xt (lost+1)),(y.alloc o).setCell (p:=⟨g,off+2,B0⟩) (.inl (.inl rfl)) _,u⟩
 have q:=LH f;clear f i v H y u F HI;unfold mrV DD;have J:=E (eT #[Wm eQ x.m.aj,Wm eQ x.m.ar,Wm eQ x.m.a8,Wm eQ x.m.ad,Wm eQ x.m.n,Wm eQ x.m.aY.aj,Wm eQ x.m.aY.tx,Wm eQ x.m.aY.ah,WK x.A x.n x.k] 116);have I:=z (eT #[Wm eQ x.m.aj,Wm eQ x.m.ar,Wm eQ x.m.a8,Wm eQ x.m.ad,Wm eQ x.m.n,Wm eQ x.m.aY.aj,Wm eQ x.m.aY.tx,Wm eQ x.m.aY.ah,WK x.A x.n x.k] 116);clear E z;go_wp2_with fail;go_ret;exact q.o _
end
def TX(k:Int):S2:=.iface 79 (Wm eQ k)
def LA(base g off nd:Nat)(T:VR)(cs:Array S2)(V:S2)(D:Option Nat)(L:List AW)(dead:Int->Bool)(lost:Int)(x:AW)(w:D0)(e:WE)(w':D0):Prop:=
 ∃V' L' lost',e=ZY ZS/\(∀y∈L',y∈L\/LK w.heap.size y)/\AO w' base g off T ((cs.setIfInBounds off V').setIfInBounds (off+2) (Wm eQ lost')) V' D nd L' dead lost'/\AR ⟨AI L,dead⟩ x.m=⟨AI L',dead⟩/\Fr (B7 g V D) w w'/\(V'.ownBlock=V.ownBlock\/∃b,V'.ownBlock=Bs b/\w.heap.size<=b)
section
variable (base g off nd:Nat)(T:VR)(cs:Array S2)(V:S2)(D:Option Nat)(L:List AW)(dead:Int->Bool)(lost:Int)(w:D0)
def Mg(k:Nat)(hI:AO w base g off T cs V D nd L dead lost)(u:k<L.length)(i:L.length=200) :
  VX Tryz.prog 54 #[ZW (Bs ⟨g,off,B0⟩),Wm eQ k] w λe w'=>e=ZY (TX 4)/\w=w':=by
 obtain⟨z,y,f,h,v⟩:=AM hI.row;have p:=(hI.al.cell off).trans hI.c0;rw[f]at p;clear hI f;rw[i]at p u;unfold TX;have s:¬(k:Int)<0:=by omega
 have q:(k:Int)<200:=by omega
 clear i h;go_enter Tryz.func54,Tryz.ntmps54;go_wp2_with fail;go_ret;exact⟨rfl,rfl⟩
def PA(k:Nat)(x:AW)(hI:AO w base g off T cs V D nd L dead lost)(W:L[k]? = Bs x)(hL:L.length<200)(u:FB x.m.ar/\FB x.m.a8/\x.n<=100000) :
  VX Tryz.prog 54 #[ZW (Bs ⟨g,off,B0⟩),Wm eQ k] w (LA base g off nd T cs V D L dead lost x w):=by
 have hk:k<L.length:=(ZC.1 W).1;obtain⟨gv,cap,Y,a4,a1⟩:=MU hI.row Z0;have M:=Rd.a7 (by rw[<- Y];exact hI.row:w.ownsRow base 116 9 (WK (Bs ⟨gv,0,B0⟩) L.length cap) L.length (L.flatMap CQ));obtain⟨g',o',x',hA,_,H,h0,h1,h2,h3,h4,h5,h6,h7,h8⟩:=M.cO rfl hk;simp only[VN,Xe,and_true]at hA;obtain⟨rfl,rfl⟩:=hA;rw[W]at H;obtain rfl:=Wn H;rw[Wk]at h0 h1 h2 h3 h4 h5 h6 h7 h8;have c0:=(hI.al.cell off).trans hI.c0;rw[Y]at c0;have a0:((L.length:Int) == 200)=L1:=by simpa using (by omega:¬(L.length:Int)=200)
 have q:Fr (λ_=>False) w (w.alloc (eT (BF x.m x.A x.n x.k) 116)):=(Fr.refl _ _).alloc _;have s:=hI.fr q (λh=>h) (λ_ _ h=>h) (λ_ _ h=>h) (λ_ _ _ _ _ h=>h);have J:=Rd.lit w (BF x.m x.A x.n x.k) 116 1 9 rfl;have v:=hI.own x (N2 W);have f:=q.own v.1 (λ_ _ h=>h);have I:N6 (w.alloc (eT (BF x.m x.A x.n x.k) 116)) (B7 g V D) (Bs ⟨w.heap.size,0,B0⟩) 1 [x]:=by
  refine⟨rfl,by have:=J.more (B':=(w.alloc (eT (BF x.m x.A x.n x.k) 116)).heap.size) Z3;simpa [CQ]using this,λb o e _=>?_,λy F=>?_⟩;simp only[VN,Xe,and_true]at e;obtain⟨rfl,rfl⟩:=e;rintro (h|h|h);have:=hI.al.lt;omega;have:=hI.vlt h.symm;omega;have:=hI.down;rw[<- h]at this;have:=this.lt;omega;rw[VU.1 F];refine⟨⟨v.2,Rd.a7 f⟩,λb o e _=>?_⟩;have E:Wa (WK x.A x.n x.k)=Bs b:=by rw[e];rfl
  rintro (h|h|h);subst h;exact Bh f s.al (λe=>hI.ne.2 e.symm) E;exact EX f s.row Z2 E h.symm;exact s.down.bn f h.symm E
 have G:x.A=B0->x.k=0:=λe=>by
  obtain⟨h,_⟩|⟨_,_,_,h,_⟩:=v.1.2;injection h;rw[e]at h;cases h
 have p:=J0 base g off nd 1 1 T cs V D L dead lost (Bs ⟨w.heap.size,0,B0⟩) [x] _ s I Z0 (λy F=>by rw[VU.1 F];exact⟨u.1,u.2.1,u.2.2,G⟩);unfold BF at p q;have HS:=LH p;clear p;have Z:=LH q;clear q;have a2:(k:Int)<L.length:=by omega
 have a3:¬(k:Int)<0:=by omega
 clear hI s I J v f G M Y u W;go_enter Tryz.func54,Tryz.ntmps54;go_wp2_with fail;refine HS.o.mono ?_;rintro e w2 ⟨V',L',lost',d,rfl,O,hN,hs,hF,R⟩;have z:LA base g off nd T cs V D L dead lost x w (ZY ZS) w2:=⟨V',L',lost',rfl,(λy F=>(O y F).imp id (λh b X=>VK Z.o.size (h b X))),hN,hs,(Z.o.mono (T:=B7 g V D) (λi _ h=>h.elim)).trans' hF (λi _ h=>h),by
  obtain h|⟨b,h,X⟩:=R;exact eR h;exact eS ⟨b,h,VK Z.o.size X⟩⟩
 have U:=LH z;clear z hN hs hF R O;go_wp2_with fail;go_ret;exact U.o
end
def DJ(b:Nat):S2:=.func (.func 110) #[] #[ZW (Bs ⟨b,0,B0⟩)]
def KW(b:Nat)(id:Int)(x:AW)(w:D0)(v:w.cell? ⟨b,0,B0⟩=Bs (Wm eQ id)) :
  VX Tryz.prog 110 #[mrV x,ZW (Bs ⟨b,0,B0⟩)] w λe w'=>e=ZY (ZX (gone id x.m))/\VI w.heap.size w w':=by
 have u:=V5 w _ v;have k:∀o,VI w.heap.size w (w.alloc o):=λo=>(VC _ _).alloc (Hi _) _
 have p:=LH k;clear k;unfold mrV DD;have q:gone id x.m=(decide (x.m.ar=id) || decide (x.m.a8=id)):=rfl;by_cases i:x.m.ar=id
 ·have y:(x.m.ar == id)=VD:=Z6 i;have f:gone id x.m=VD:=by rw[q,ZA i];rfl
  have s:=LH f;clear f q i;go_enter Tryz.func110,Tryz.ntmps110;go_wp2_with fail;go_ret;rw[s.o];exact⟨rfl,p.o _⟩
 have y:(x.m.ar == id)=L1:=Z6 i;have f:gone id x.m=(x.m.a8 == id):=by rw[q,Z9 i];by_cases h:x.m.a8=id<;>simp[h]
 have s:=LH f;clear f q i;go_enter Tryz.func110,Tryz.ntmps110;go_wp2_with fail;go_ret;rw[s.o];exact⟨rfl,p.o _⟩
def EK(p:Ms->Bool)(L:List AW):Int:=match L.findIdx? (λx=>p x.m)with|some i=>(i:Int)|none=>-1
def ixRel(p:Ms->Bool)(L:List AW)(n:Nat)(w:D0)(v:S2)(wr:D0):Prop:=∃j:Nat,v=Wm eQ j/\j<=n/\(∀x∈L.take j,p x.m=L1)/\VI w.heap.size w wr
def QL(b g off k n:Nat)(id:Int)(L:List AW)(w:D0)(R:w.cell? ⟨b,0,B0⟩=Bs (Wm eQ id))(Y:Rd w w.heap.size 9 (Bs ⟨g,off,B0⟩) n (L.flatMap CQ))(hl:L.length=n)(hn:n<=100000) :
  VX Tryz.prog 128 #[WK (Bs ⟨g,off,B0⟩) n k,DJ b] w λe w'=>e=ZY (Wm eQ (EK (gone id) L))/\VI w.heap.size w w':=by
 unfold DJ;have HR:=LH Y;clear Y;go_enter Tryz.func128,Tryz.ntmps128;go_wp2_with fail;go_loopw [8] (ixRel (gone id) L n w) (λv _=>n-(intOf v).toNat)
 case atStart=>exact⟨0,rfl,VG _,(λx F=>by simp at F),VC _ _⟩
 obtain⟨j,rfl,hj,f,h⟩:=hrel;by_cases a0:(j:Int)<n
 ·obtain⟨g',o',x,Z,U,F,h0,h1,h2,h3,h4,h5,h6,h7,h8⟩:=(HR.o.below h).cO hl (j:=j) Z0;simp only[VN,Xe,and_true]at Z;obtain⟨rfl,rfl⟩:=Z;have a1:g<wr.heap.size:=VF U h.size;have u:=KW b id x wr ((h.cell (p:=⟨b,0,B0⟩) (V5 w _ R)).trans R);have J:j<L.length:=by omega
  have E:gone id x.m=VD->EK (gone id) L=j:=λz=>by
   have:L.findIdx? (λx=>gone id x.m)=Bs j:=by
    rw[VP];refine⟨J,?_,λi hi=>?_⟩;rw[<- Wn ((K0 J).symm.trans F)]at z;exact z;simp only[Yc];exact f _ (by rw[XF];exact⟨i,Z0,rfl⟩)
   unfold EK;rw[this]
  have q:gone id x.m=L1->∀y∈L.take (j+1),gone id y.m=L1:=λz y H=>by
   rw[VV,F]at H;obtain H|H:=XA.1 H;exact f y H;simp at H;rw[H];exact z
  have M:=LH E;clear E;have I:=LH q;clear q;have a2:=LH f;clear f;have HC:=LH u;clear u;have HX:=LH F;clear F;clear R;unfold mrV DD at HC;go_wp2_with fail;refine HC.o.mono ?_;rintro e w2 ⟨rfl,W⟩;have G:=h.trans (W.mono h.size);have O:=LH G;clear G;rcases z:gone id x.m with _|_
  ·have X:=LH z;clear z;go_wp2_with fail;go_roundw
   case rel=>exact⟨j+1,rfl,Z0,I.o X.o,O.o⟩
   case measure=>simp[intOf];omega
  have X:=LH z;clear z;go_wp2_with fail;go_ret;exact⟨by rw[M.o X.o];rfl,O.o⟩
 obtain rfl:j=n:=by omega
 have s:EK (gone id) L = -1:=by
  have:L.findIdx? (λx=>gone id x.m)=B0:=by
   rw[Wp];intro x F;exact f x (by rw[VS Z0];exact F)
  unfold EK;rw[this]
 have HN:=LH s;clear s f R;go_wp2_with fail;go_ret;rw[HN.o];exact⟨rfl,h⟩
def OZ(w:D0)(g o:Nat)(x:AW):D0:=
 ((((((((w.setCell ⟨g,o,B0⟩ (Wm eQ x.m.aj)).setCell ⟨g,o+1,B0⟩ (Wm eQ x.m.ar)).setCell ⟨g,o+2,B0⟩ (Wm eQ x.m.a8)).setCell ⟨g,o+3,B0⟩ (Wm eQ x.m.ad)).setCell ⟨g,o+4,B0⟩ (Wm eQ x.m.n)).setCell ⟨g,o+5,B0⟩ (Wm eQ x.m.aY.aj)).setCell ⟨g,o+6,B0⟩ (Wm eQ x.m.aY.tx)).setCell ⟨g,o+7,B0⟩ (Wm eQ x.m.aY.ah)).setCell ⟨g,o+8,B0⟩ (WK x.A x.n x.k)
def TU(w:D0)(g o:Nat)(x:AW):Fr (λi=>i=g) w (OZ w g o x):=
 (((((((((Fr.refl (λi=>i=g) w).setCell (p:=⟨g,o,B0⟩) (.inl rfl) _).setCell (p:=⟨g,o+1,B0⟩) (.inl rfl) _).setCell (p:=⟨g,o+2,B0⟩) (.inl rfl) _).setCell (p:=⟨g,o+3,B0⟩) (.inl rfl) _).setCell (p:=⟨g,o+4,B0⟩) (.inl rfl) _).setCell (p:=⟨g,o+5,B0⟩) (.inl rfl) _).setCell (p:=⟨g,o+6,B0⟩) (.inl rfl) _).setCell (p:=⟨g,o+7,B0⟩) (.inl rfl) _).setCell (p:=⟨g,o+8,B0⟩) (.inl rfl) _
def set9:∀(M:List AW)(i:Nat)(x:AW),i<M.length->
  (((((((((M.flatMap CQ).set (i*9) (Wm eQ x.m.aj)).set (i*9+1) (Wm eQ x.m.ar)).set (i*9+2) (Wm eQ x.m.a8)).set (i*9+3) (Wm eQ x.m.ad)).set (i*9+4) (Wm eQ x.m.n)).set (i*9+5) (Wm eQ x.m.aY.aj)).set (i*9+6) (Wm eQ x.m.aY.tx)).set (i*9+7) (Wm eQ x.m.aY.ah)).set (i*9+8) (WK x.A x.n x.k)=(M.set i x).flatMap CQ
 |[],i,x,h=>by simp at h
 |y::M,0,x,_=>by simp[CQ,BF]
 |y::M,i+1,x,h=>by
  have f:=set9 M i x (Z6 h);have e:∀k,(i+1)*9+k=i*9+k+9:=λk=>Z0
  have p:(i+1)*9=i*9+9:=by omega
  rw[p,XY,VH,VH,<- f];simp[CQ,BF,Nat.add_right_comm]
def S9{w:D0}{base g cap:Nat}{M:List AW}(h:w.ownsRow base 116 9 (WK (Bs ⟨g,0,B0⟩) n cap) n (M.flatMap CQ))(x:AW)(f:i<M.length) :
  (OZ w g (i*9) x).ownsRow base 116 9 (WK (Bs ⟨g,0,B0⟩) n cap) n ((M.set i x).flatMap CQ):=by
 rw[<- set9 M i x f];exact(((((((((h.stored _ _).1.stored _ _).1.stored _ _).1.stored _ _).1.stored _ _).1.stored _ _).1.stored _ _).1.stored _ _).1.stored _ _).1
def Bw(id:Int)(L:List AW):List AW:=L.filter (λx=>!gone id x.m)
def qap{w:D0}{base e size:Nat}(h:w.ownsRow base e size v n xs)(i:VI w.heap.size w w'):w'.ownsRow base e size v n xs:=
 (Ef i).own h (λg f (k:w.heap.size<=g)=>Z4 ((h.lt g f).2))
def Pp(base f n cap:Nat)(id:Int)(L:List AW)(w:D0)(u v:S2)(wr:D0):Prop:=
 ∃(i j:Nat)(M:List AW),u=Wm eQ i/\v=Wm eQ j/\i<j/\j<=n/\M.length=n/\M.take i=Bw id (L.take j)/\M.drop j=L.drop j/\wr.ownsRow base 116 9 (WK (Bs ⟨f,0,B0⟩) n cap) n (M.flatMap CQ)/\Fr (λk=>k=f) w wr
def Fp(base f cap:Nat)(n:Nat)(l:List AW)(w:D0)(e:WE)(w':D0):Prop:=
 e=ZY (WK (Bs ⟨f,0,B0⟩) l.length cap)/\w'.ownsRow base 116 9 (WK (Bs ⟨f,0,B0⟩) l.length cap) l.length (l.flatMap CQ)/\Fr (λk=>k=f) w w'/\l.length<=n
def qb2{id:Int}{L:List AW}{x:AW}(h:L[j]? = Bs x):Bw id (L.take (j+1))=if gone id x.m then Bw id (L.take j)else Bw id (L.take j)++[x]:=by unfold Bw;rw[VV,h,List.filter_append];rcases f:gone id x.m with _|_<;>simp[f]
def Nm{id:Int}{L:List AW}(h:EK (gone id) L=i):i<L.length/\L.take i=Bw id (L.take (i+1)):=by
 unfold EK at h;rcases f:L.findIdx? (λx=>gone id x.m)with _|j;rw[f]at h;simp only at h;omega;rw[f]at h;have e:j=i:=by have v:(j:Int)=i:=h;omega
 subst e;rw[VP]at f;obtain⟨hl,s,q⟩:=f;refine⟨hl,?_⟩;rw[qb2 (K0 hl),Z8 s];unfold Bw;rw[ZN.2];intro x p;obtain⟨k,u,rfl⟩:=List.mem_take_iff_getElem.1 p;simpa using q k Z0
def TB{id:Int}{L:List AW}(h:EK (gone id) L = -1):Bw id L=L:=by unfold EK at h;rcases f:L.findIdx? (λx=>gone id x.m)with _|j;unfold Bw;rw[ZN.2];intro x i;rw[Wp]at f;simpa using f x i;rw[f]at h;simp only at h;omega
def Ny(id:Int)(L:List AW):EK (gone id) L = -1\/∃i:Nat,EK (gone id) L=i:=by unfold EK;split;exact eS ⟨_,rfl⟩;exact eR rfl
def Lm(base E n cap b:Nat)(id:Int)(L:List AW)(w:D0)(q:w.ownsRow base 116 9 (WK (Bs ⟨E,0,B0⟩) n cap) n (L.flatMap CQ))(hl:L.length=n)(hn:n<=100000)
  (hb:w.cell? ⟨b,0,B0⟩=Bs (Wm eQ id)) (am:b≠E):VX Tryz.prog 109 #[WK (Bs ⟨E,0,B0⟩) n cap,DJ b] w (Fp base E cap n (Bw id L) w):=by
 have ac:=QL b E 0 cap n id L w hb (Rd.a7 q) hl hn;have ae:=V5 w _ hb;have a1:=LH ac;clear ac;have a4:=LH q;clear q;have HB:=LH hb;clear hb;unfold DJ at *;obtain hf|⟨i0,hf⟩:=Ny id L
 ·rw[hf]at a1;go_enter Tryz.func109,Tryz.ntmps109;go_wp2_with fail;refine a1.o.mono ?_;rintro e w1 ⟨rfl,s⟩;have F:Fp base E cap n (Bw id L) w (ZY (WK (Bs ⟨E,0,B0⟩) n cap)) w1:=by
   rw[TB hf];unfold Fp;rw[hl];exact⟨rfl,qap a4.o s,⟨s.os,s.tape,s.output,s.size,λk hk _=>s.block k hk⟩,Hi _⟩
  have Y:=LH F;clear F;go_wp2_with fail;go_ret;exact Y.o
 rw[hf]at a1;obtain⟨an,ab⟩:=Nm hf;have a9:((i0:Int) == -1)=L1:=by rw[beq_eq_false_iff_ne];omega
 go_enter Tryz.func109,Tryz.ntmps109;go_wp2_with fail;refine a1.o.mono ?_;rintro e w1 ⟨rfl,s⟩;have H:Pp base E n cap id L w (Wm eQ i0) (Wm eQ ((i0:Int)+1)) w1:=⟨i0,i0+1,L,rfl,rfl,Z0,Z0,hl,ab,rfl,qap a4.o s,⟨s.os,s.tape,s.output,s.size,λk hk _=>s.block k hk⟩⟩
 have ao:=LH H;clear H;clear hf ab;go_wp2_with fail;clear a9 an s;go_loopw [5,6] (Pp base E n cap id L w) (λ_ v _=>n-(intOf v).toNat)
 case atStart=>exact ao.o
 obtain⟨i,j,M,rfl,rfl,au,hj,hM,O,a0,q,J⟩:=hrel;by_cases ar:(j:Int)<n
 ·have hx:M[j]? = L[j]?:=by
   have:=congrArg (λl=>l[0]?) a0;simpa using this
  obtain⟨g',o',x,hA,aw,a7,h0,h1,h2,h3,h4,h5,h6,h7,h8⟩:=(Rd.a7 q).cO hM (j:=j) Z0;simp only[VN,Xe,and_true]at hA;obtain⟨rfl,rfl⟩:=hA;rw[Wk]at h0 h1 h2 h3 h4 h5 h6 h7 h8;have a8:L[j]? = Bs x:=hx▸a7;have Z:Fr (λ_=>False) wr (wr.alloc (eT (BF x.m x.A x.n x.k) 116)):=(Fr.refl _ _).alloc _;have ad:=(Z.cell (p:=⟨b,0,B0⟩) (VF ae J.size) (λh=>h)).trans ((J.cell (p:=⟨b,0,B0⟩) ae am).trans HB.o);have X:=KW b id x _ ad;have af:Ae (wr.alloc (eT (BF x.m x.A x.n x.k) 116)) wr.heap.size 116 (BF x.m x.A x.n x.k):=Ae.b4 wr _ _;have R:=Z.own q (λ_ _ h=>h);unfold mrV DD BF at *;have HC:=LH X;clear X;have al:=LH af;clear af;have ap:=LH R;clear R;have aj:=LH (J.trans' Z (λ_ _ h=>h.elim));clear J Z;have ah:=LH O;clear O;have ai:=LH a0;clear a0;have ag:=LH a8;clear a8 hx a7 ad;have HM:=LH hM;clear hM;go_wp2_with fail;refine HC.o.mono ?_;rintro e w2 ⟨rfl,a6⟩;have W:Fr (λk=>k=E) w w2:=aj.o.trans' (Ef a6) (λi hi (h:_<=i)=>by have:=aj.o.size;simp at h this;omega);have f:=qap ap.o a6;have z:Ae w2 wr.heap.size 116 #[Wm eQ x.m.aj,Wm eQ x.m.ar,Wm eQ x.m.a8,Wm eQ x.m.ad,Wm eQ x.m.n,Wm eQ x.m.aY.aj,Wm eQ x.m.aY.tx,Wm eQ x.m.aY.ah,WK x.A x.n x.k]:=al.o.below a6 al.o.lt;have ak:=LH W;clear W;rcases hp:gone id x.m with _|_
  ·have G:=qb2 (id:=id) ag.o;rw[hp,Z7 Z3]at G;have a5:i<M.length:=by rw[HM.o];omega
   have q0:=z.cell 0;have q1:=z.cell 1;have q2:=z.cell 2;have q3:=z.cell 3;have q4:=z.cell 4;have q5:=z.cell 5;have q6:=z.cell 6;have q7:=z.cell 7;have q8:=z.cell 8;simp only[NW,O0,Ft]at q0 q1 q2 q3 q4 q5 q6 q7 q8;obtain⟨g',o',y,hA,_,_,p0,p1,p2,p3,p4,p5,p6,p7,p8⟩:=(Rd.a7 f).cO HM.o (j:=i) Z0;simp only[VN,Xe,and_true]at hA;obtain⟨rfl,rfl⟩:=hA;rw[Wk]at p0 p1 p2 p3 p4 p5 p6 p7 p8;have f0:=f.frozenAt (i*9);have f1:=f.frozenAt (i*9+1);have f2:=f.frozenAt (i*9+2);have f3:=f.frozenAt (i*9+3);have f4:=f.frozenAt (i*9+4);have f5:=f.frozenAt (i*9+5);have f6:=f.frozenAt (i*9+6);have f7:=f.frozenAt (i*9+7);have f8:=f.frozenAt (i*9+8);have av:E<w2.heap.size:=(f.lt E rfl).2;have a2:=S9 f x a5;have u:Pp base E n cap id L w (Wm eQ ((i:Int)+1)) (Wm eQ ((j:Int)+1)) (OZ w2 E (i*9) x):=by
    refine⟨i+1,j+1,M.set i x,rfl,rfl,Z0,Z0,by rw[List.length_set];exact HM.o,?_,?_,a2,ak.o.trans (TU w2 E (i*9) x)⟩;rw[G,<- ah.o,VV,List.take_set,List.getElem?_set_self a5,List.set_eq_of_length_le (by rw[WD];omega)];simp;rw[List.drop_set_of_lt Z0,<- Xp,ai.o,Xp]
   have I:=LH u;clear u a2 G a5;have HP:=LH hp;clear hp;have ay:=LH f;clear f;clear z h0 h1 h2 h3 h4 h5 h6 h7 h8;unfold OZ at I;go_wp2_with fail;go_roundw;exact I.o;simp[intOf];omega
  have G:=qb2 (id:=id) ag.o;rw[hp,Z8 rfl]at G;have u:Pp base E n cap id L w (Wm eQ i) (Wm eQ ((j:Int)+1)) w2:=
   ⟨i,j+1,M,rfl,rfl,Z0,Z0,HM.o,by rw[ah.o,G],by rw[<- Xp,ai.o,Xp],f,ak.o⟩
  have I:=LH u;clear u G f;have HP:=LH hp;clear hp z h0 h1 h2 h3 h4 h5 h6 h7 h8;go_wp2_with fail;go_roundw;exact I.o;simp[intOf];omega
 obtain rfl:j=n:=by omega
 have aq:=(It q).1;have a3:L.take j=L:=VS Z0;rw[a3]at O;have aa:(Bw id L).length=i:=by rw[<- O,WD];omega
 have U:=qcl q (i:=i) Z0;rw[q8s,O]at U;obtain⟨w2,ax,f,W⟩:=q6u 86 RL Tryz.underlying86 Ji (by rfl) Z2 U (m:=j-i) (c:=cap-i) Z0;have s1:=qa8 (size:=9) 86 q7g q7l wr E j cap i (i:Int) rfl Z0;have s2:=Gk (size:=9) 86 q7g q7l w2 E j cap i (i:Int) rfl Z0;have F:Fp base E cap j (Bw id L) w (ZY (WK (Bs ⟨E,0,B0⟩) i cap)) w2:=by
  unfold Fp;rw[aa];exact⟨rfl,f,J.trans W,Z0⟩
 have Y:=LH F;clear F f W U q O a0 hM J aa a3;go_wp2_with fail;go_ret;exact Y.o
def Le(w:D0)(t k e:VR)(m:Option Nat)(h:P.underlying t=Bs (.map k e)):(binOp .eql t (.map m) (.map B0)).run P w=.ok (ZX m.isNone) w:=by simp only[binOp];simp[run_equal_map_nil w t k e m h]
def QK(b:Nat)(w:D0):VX Tryz.prog 128 #[WK B0 0 0,DJ b] w λe w'=>e=ZY (Wm eQ (-1))/\w=w':=by
 unfold DJ;go_enter Tryz.func128,Tryz.ntmps128;go_wp2_with fail;go_loopw [8] (λv wr=>v=Wm eQ 0/\wr=w) (λ_ _=>0)
 case atStart=>exact⟨rfl,rfl⟩
 obtain⟨rfl,rfl⟩:=hrel;go_wp2_with fail;go_ret;exact⟨rfl,rfl⟩
def Lk(b:Nat)(w:D0):VX Tryz.prog 109 #[WK B0 0 0,DJ b] w λe w'=>e=ZY (WK B0 0 0)/\w=w':=by have f:=QK b w;unfold DJ at *;have h:=LH f;clear f;go_enter Tryz.func109,Tryz.ntmps109;go_wp2_with fail;refine h.o.mono ?_;rintro e i ⟨rfl,rfl⟩;go_wp2_with fail;go_ret;exact⟨rfl,rfl⟩
def DfNet(base:Nat)(V:S2)(l:List AW)(w:D0)(e:WE)(w':D0):Prop:=
 ∃V',e=ZY V'/\(∃A n c,V'=WK A n c)/\w'.ownsRow base 116 9 V' l.length (l.flatMap CQ)/\Fr (λk=>Bs k=V.ownBlock) w w'/\V'.ownBlock=V.ownBlock
def Ll(base b n:Nat)(V:S2)(id:Int)(L:List AW)(w:D0)(f:w.ownsRow base 116 9 V n (L.flatMap CQ))(hl:L.length=n)(s:n<=100000)(u:w.cell? ⟨b,0,B0⟩=Bs (Wm eQ id))(k:V.ownBlock≠Bs b) :
  VX Tryz.prog 109 #[V,DJ b] w (DfNet base V (Bw id L) w):=by
 obtain⟨rfl,z⟩|⟨q,cap,E,rfl,_⟩:=f.2
 ·subst z;have p:L=[]:=We hl;subst p;refine(Lk b w).mono ?_;rintro e w' ⟨rfl,rfl⟩;exact⟨_,rfl,⟨_,_,_,rfl⟩,f,Fr.refl _ _,rfl⟩
 refine(Lm base q n cap b id L w f hl s u (λe=>k (by rw[e];rfl))).mono ?_;rintro e w' ⟨rfl,y,v,_⟩;exact⟨_,rfl,⟨_,_,_,rfl⟩,y,v.mono (λi _ (h:i=q)=>by rw[h];rfl),rfl⟩
def DNew(D f:Option Nat)(n:Nat):Prop:=f=D\/∃b,f=Bs b/\n<=b
def LN(base g off:Nat)(T:VR)(cs:Array S2)(V:S2)(D:Option Nat)(nd:Nat)(L:List AW)(dead:Int->Bool)(lost id:Int)(w:D0)(e:WE)(w':D0):Prop:=
 ∃V' f d lost',e=ZY (Wm eQ d)/\d=(L.length:Int)-(Bw id L).length/\AO w' base g off T (((cs.setIfInBounds (off+1) (.map f)).setIfInBounds off V').setIfInBounds (off+2) (Wm eQ lost')) V' f (nd+1) (Bw id L) (λi=>decide (i=id) || dead i) lost'/\
  Fr (B7 g V D) w w'/\V'.ownBlock=V.ownBlock/\DNew D f w.heap.size
def T7{nd b:Nat}{dead:Int->Bool}{id:Int}(h:Ab BP w' b (nd+1) (AY (λi=>if dead i then Bs (ZX VD)else B0) id (Bs (ZX VD)))):Bz w' (nd+1) (Bs b) (λi=>decide (i=id) || dead i):=by
 have e:(AY (λi=>if dead i then Bs (ZX VD)else B0) id (Bs (ZX VD)):Int->Option S2)=λi=>if (decide (i=id) || dead i)then Bs (ZX VD)else B0:=by
  funext i;by_cases f:i=id;subst f;rw[qai];simp;rw[Il f];simp[f]
 unfold Bz;rw[e]at h;exact h
def MX{w:D0}{base g nd b:Nat}{T:VR}{V:S2}{L:List AW}{dead:Int->Bool}{lost id:Int}
  (h:AO w base g n T U V (Bs b) nd L dead lost) (s:Ab BP w' b (nd+1) (AY (λi=>if dead i then Bs (ZX VD)else B0) id (Bs (ZX VD)))) (f:Fr (λk=>k=b) w w') :
  AO w' base g n T U V (Bs b) (nd+1) L (λi=>decide (i=id) || dead i) lost:=
 ⟨f.al h.al (λe=>h.down.aV h.al (by rw[e])),h.c0,h.c1,h.c2,f.own h.row (λk q (e:k=b)=>by subst e;exact h.down.bn h.row rfl q),λx p=>⟨f.own (h.own x p).1 (λk q (e:k=b)=>by subst e;exact h.down.bn (h.own x p).1 rfl q),(h.own x p).2⟩,T7 s,h.len,h.ne,VK h.bg f.size⟩
def Tk{w:D0}{base g nd:Nat}{T:VR}{V:S2}{L:List AW}{dead:Int->Bool}{lost:Int}(h:AO w base g n T U V B0 nd L dead lost) :
  AO ((w.alloc (.map #[] 0)).setCell ⟨g,n+1,B0⟩ (.map (Bs w.heap.size))) base g n T (U.setIfInBounds (n+1) (.map (Bs w.heap.size))) V (Bs w.heap.size) nd L dead lost:=by
 have q:n+1<U.size:=by
  have:=h.c1;obtain h|h:=Xd (n+1) U.size;exact h;rw[Xa (Z6 h)]at this;cases this
 have k:=h.fr ((Fr.refl (λ_=>False) w).alloc (.map #[] 0)) (λh=>h) (λ_ _ h=>h) (λ_ _ h=>h) (λ_ _ _ _ _ h=>h);have f:=Fr.aL g (w.alloc (.map #[] 0)) (n+1) (.map (Bs w.heap.size));have u:Ab BP (w.alloc (.map #[] 0)) w.heap.size nd (λi=>if dead i then Bs (ZX VD)else B0):=by
  have e:(λi=>if dead i then Bs (ZX VD)else B0:Int->Option S2)=λ_=>B0:=by funext i;rw[h.down i];rfl
  rw[e];exact(Ab.cT BP w).mono (VG _)
 refine⟨k.al.aZ _ _,?_,by simp[q],?_,f.own k.row (λb s e=>by subst e;exact Bh k.row k.al (λe=>h.ne.1 e.symm) s),λx p=>⟨f.own (k.own x p).1 (λb s e=>by subst e;exact Bh (k.own x p).1 k.al (λe=>h.ne.2 e.symm) s),(k.own x p).2⟩,?_,h.len,h.ne,VK k.bg f.size⟩;rw[Wj Z0];exact h.c0;rw[Wj Z0];exact h.c2;exact Ab.fr u f (λe=>Ab.aV u k.al e)
def MW{w w5:D0}{base g nd:Nat}{T:VR}{V V':S2}{D:Option Nat}{L l:List AW}{dead:Int->Bool}{lost:Int}
  (h:AO w base g n T U V D nd L dead lost) (p:w5.ownsRow base 116 9 V' l.length (l.flatMap CQ)) (v:Fr (λk=>Bs k=V.ownBlock) w w5) (I:V'.ownBlock=V.ownBlock) (hl:∀x∈l,x∈L) (u:l.length<=200:=by omega) :
  AO (w5.setCell ⟨g,n,B0⟩ V') base g n T (U.setIfInBounds n V') V' D nd l dead lost:=by
 have z:¬Bs g=V.ownBlock:=λe=>Bh h.row h.al (λe=>h.ne.1 e.symm) e.symm
 have q:Ae w5 g T U:=v.al h.al z;have f:Fr (λk=>k=g) w5 (w5.setCell ⟨g,n,B0⟩ V'):=Fr.aL g w5 n V';have s:n<U.size:=by
  obtain F|F:=Xd n U.size;exact F;have:=h.c0;rw[Xa F]at this;cases this
 refine⟨q.aZ _ _,by simp[s],?_,?_,f.own p (λb i e=>by subst e;exact Bh p q (λe=>h.ne.1 e.symm) i),λy H=>?_,?_,u,h.ne,VK h.bg (VK v.size f.size)⟩;rw[Wj Z0];exact h.c1;rw[Wj Z0];exact h.c2;have E:=h.own y (hl y H);have G:=v.own E.1 (λb i e=>EX E.1 h.row Z2 i e.symm);exact⟨f.own G (λb i e=>by subst e;exact Bh G q (λe=>h.ne.2 e.symm) i),E.2⟩;refine(h.down.fr v (λb i e=>?_)).fr f (λb i e=>?_);exact h.down.bn h.row i e.symm;subst e;exact h.down.aV h.al i
def T6(base g off nd:Nat)(T:VR)(cs:Array S2)(V:S2)(D:Option Nat)(L:List AW)(dead:Int->Bool)(lost id:Int)(w:D0)
  (hI:AO w base g off T cs V D nd L dead lost) (av:FB id) (aA:nd<1000000) :
  VX Tryz.prog 83 #[ZW (Bs ⟨g,off,B0⟩),Wm eQ id] w (LN base g off T cs V D nd L dead lost id w):=by
 have a8:Fr (λ_=>False) w (w.alloc (eT #[Wm eQ id] 3)):=(Fr.refl _ _).alloc _;have R:=hI.fr a8 (λh=>h) (λ_ _ h=>h) (λ_ _ h=>h) (λ_ _ _ _ _ h=>h);have am:Ae (w.alloc (eT #[Wm eQ id] 3)) w.heap.size 3 #[Wm eQ id]:=Ae.b4 w _ _;have aD:=hI.al.lt;have c1:=(R.al.cell (off+1)).trans R.c1;have f1:=R.al.frozen (off+1);have HI:=LH hI;clear hI;have G:=LH R;clear R;have ad:=LH am;clear am;have aw:=LH a8;clear a8;have ar:=λW=>Le W 60 _ _ D Tryz.underlying60
 obtain _|b:=D
 case' none=>
  have au:=@run_makeMap Tryz.prog;have E:=Tk G.o;have ag:=((G.o.fr ((Fr.refl (λ_=>False) _).alloc (.map #[] 0)) (λh=>h) (λ_ _ h=>h) (λ_ _ h=>h) (λ_ _ _ _ _ h=>h)).al.cell (off+1)).trans G.o.c1;have af:=(G.o.fr ((Fr.refl (λ_=>False) _).alloc (.map #[] 0)) (λh=>h) (λ_ _ h=>h) (λ_ _ h=>h) (λ_ _ _ _ _ h=>h)).al.frozen (off+1);have M:=(Fr.aL g ((w.alloc (eT #[Wm eQ id] 3)).alloc (.map #[] 0)) (off+1) (.map (Bs (w.heap.size+1)))).al (ad.o.alloc (.map #[] 0)) (λh=>Z0);have H:Fr (B7 g V B0) w (((w.alloc (eT #[Wm eQ id] 3)).alloc (.map #[] 0)).setCell ⟨g,off+1,B0⟩ (.map (Bs (w.heap.size+1)))):=(((Fr.refl _ _).alloc _).alloc _).setCell (p:=⟨g,off+1,B0⟩) (.inl (.inl rfl)) _;simp only[World.size_alloc]at E;have J:((w.alloc (eT #[Wm eQ id] 3)).alloc (.map #[] 0)).setCell ⟨g,off+1,B0⟩ (.map (Bs (w.heap.size+1)))=((w.setCell ⟨g,off+1,B0⟩ (.map (Bs (w.heap.size+1)))).alloc (eT #[Wm eQ id] 3)).alloc (.map #[] 0):=by
   rw[YA _ _ _ _ Zz,YA _ _ _ _ Z0]
  rw[J]at E M H;clear J;have F:=LH E;clear E;have X:=LH M;clear M;have ab:=LH H;clear H;have ac:=LH (show DNew B0 (Bs (w.heap.size+1)) w.heap.size from eS ⟨_,rfl,Z0⟩);have aa:=LH (show ∀i,i<w.heap.size->B7 g V (Bs (w.heap.size+1)) i->B7 g V B0 i from λi hi h=>by
   obtain h|h|h:=h;exact eR h;exact eS (eR h);injection h with h;omega)
  go_enter Tryz.func83,Tryz.ntmps83;go_upto_region 3 with (fail)
  clear ag af au;generalize hb:w.heap.size+1=b at *;generalize ((w.setCell ⟨g,off+1,B0⟩ (.map (Bs b))).alloc (eT #[Wm eQ id] 3)).alloc (.map #[] 0)=w3 at *
 case' some=>
  have E:AO (w.alloc (eT #[Wm eQ id] 3)) base g off T (cs.setIfInBounds (off+1) (.map (Bs b))) V (Bs b) nd L dead lost:=by rw[q6h G.o.c1];exact G.o
  have H:Fr (B7 g V (Bs b)) w (w.alloc (eT #[Wm eQ id] 3)):=(Fr.refl _ _).alloc _;have F:=LH E;clear E;have X:=LH ad.o;have ab:=LH H;clear H;have ac:=LH (show DNew (Bs b) (Bs b) w.heap.size from eR rfl);have aa:=LH (show ∀i,i<w.heap.size->B7 g V (Bs b) i->B7 g V (Bs b) i from λi _ h=>h);go_enter Tryz.func83,Tryz.ntmps83;go_upto_region 3 with (fail)
  generalize w.alloc (eT #[Wm eQ id] 3)=w3 at *
 all_goals
  clear ar c1 f1 G ad aw;have n1:=(F.o.al.cell (off+1)).trans F.o.c1;have i0:=X.o.cell 0;simp only[NW,Ft]at i0;refine nW ?_;refine UQ (λw'=>w'.cell? ⟨g,off+1,B0⟩=Bs (.map (Bs b))/\w'.cell? ⟨w.heap.size,0,B0⟩=Bs (Wm eQ id)) 5 ?_;have I:=Wo n1 i0;refine nE 0 I ?_;refine nE 1 I ?_;refine nE 2 I ?_;refine nC 3 rfl (λ_ _ _ h=>h) I (λw' a9=>by obtain⟨h0,h1⟩:=a9;go_simp;rfl) ?_;refine nC 4 rfl (λ_ _ _ h=>h) I (λw' a9=>by obtain⟨h0,h1⟩:=a9;go_simp;rfl) ?_;refine nG 5 (λK hK=>?_);refine Hq (C:=BP) 60 4 Tryz.underlying60 (.tmp 18) (.tmp 19) _ rfl rfl (show Ab BP w3.drew b nd _ from F.o.down) Zx id (ZX VD) rfl rfl av ?_;intro w4 ah q;have q:Fr (λk=>k=b) w3 w4:=⟨q.os,q.tape,q.output,q.size,q.block⟩
  have ak:=MX F.o ah q;have a2:=q.al X.o (λe=>F.o.down.aV X.o (by rw[e]));have a4:Fr (B7 g V (Bs b)) w3 w4:=q.mono (λi _ (h:i=b)=>eS (eS (by rw[h])));have f:=LH ak;clear ak;have U:=LH a2;clear a2;have a7:=LH a4;clear a4 ah q n1 i0 I F X;refine hK _ _ nZ ?_;clear hK K;refine nX ?_;obtain⟨A',c',a0,aF,_⟩:=AM f.o.row;have n0:=(f.o.al.cell off).trans f.o.c0;have n2:=f.o.al.frozen off;rw[a0]at n0;have i0:=U.o.cell 0;simp only[NW,Ft]at i0;have Y:=Ll base w.heap.size L.length V id L w4 f.o.row rfl (Z4 f.o.len) i0 (λe=>Bh f.o.row U.o Z2 e);unfold DJ at Y;rw[a0]at Y;have aq:=LH Y;clear Y;have an:=LH a0;clear a0;have az:=f.o.al.lt;go_wp2_with fail;refine aq.o.mono ?_;rintro e w5 ⟨V',rfl,_,z,O,s⟩;rw[<- an.o]at O s;have aj:=MW f.o z O s (λy hy=>(List.mem_filter.1 hy).1) (VK (WC _ _) f.o.len);obtain⟨A5,c5,rfl,aE,_⟩:=AM z;have aC:(Bw id L).length<=L.length:=WC _ _;have aB:=f.o.len;have ai:¬Bs g=V.ownBlock:=λe=>Bh f.o.row f.o.al (λe=>f.o.ne.1 e.symm) e.symm
  have Z:=O.al f.o.al ai;have y0:=Z.cell off;have y1:=Z.frozen off;rw[f.o.c0,an.o]at y0;have ay:=Z.lt;have u:Fr (λk=>k=g) w5 (w5.setCell ⟨g,off,B0⟩ (WK A5 (Bw id L).length c5)):=Fr.aL g w5 off _;have al:Fr (B7 g V (Bs b)) w4 (w5.setCell ⟨g,off,B0⟩ (WK A5 (Bw id L).length c5)):=(O.mono (T:=B7 g V (Bs b)) (λi _ h=>eS (eR h))).trans' u (λi _ h=>eR h);have v:=LH aj;clear aj;have ap:=LH al;clear al;have a6:=LH s;clear s;clear Z u ai z O n0 n2 i0;go_upto_region 6 with (fail)
  generalize w5.setCell ⟨g,off,B0⟩ (WK A5 (Bw id L).length c5)=w6 at *;have z0:=(v.o.al.cell off).trans v.o.c0;have z2:=(v.o.al.cell (off+2)).trans v.o.c2;have zf:=v.o.al.frozen (off+2);have ax:=v.o.al.lt;have a3:=ab.o.trans' (a7.o.trans ap.o) aa.o;have u:=Fr.aL g w6 (off+2) (Wm eQ (Xt (lost+((L.length:Int)-(Bw id L).length))));have a1:=Kk v.o (Xt (lost+((L.length:Int)-(Bw id L).length)));have a5:LN base g off T cs V _ nd L dead lost id w (ZY (Wm eQ ((L.length:Int)-(Bw id L).length))) (w6.setCell ⟨g,off+2,B0⟩ (Wm eQ (Xt (lost+((L.length:Int)-(Bw id L).length))))).drew:=
   ⟨_,Bs b,_,_,rfl,rfl,a1.fr ((Fr.refl (λ_=>False) _).drew) (λh=>h) (λ_ _ h=>h) (λ_ _ h=>h) (λ_ _ _ _ _ h=>h),(a3.trans' u (λi _ h=>eR h)).drew,a6.o,ac.o⟩
  have q0:=(a1.al.cell off).trans a1.c0;have ao:=LH a5;clear a5 a3 u a1 v ab a7 ap aa ac a6 f U aq;have ae:IntKind.i64.wrap ((L.length:Int)-(Bw id L).length)=(L.length:Int)-(Bw id L).length:=V4 _ ⟨Z0,Z0⟩;refine X2 12 Z1 Z1 ?_;change wpStill _ _ (YC _) _ _ _;simp only[WZ,X3,Xj,YG]
  repeat still_step
  clear ae;refine wpStill_nil ?_;change Yk _ _ _ _ _ (YC _);go_wp2_with fail;go_ret;exact ao.o
abbrev Sx:=List UInt8
structure Kx where
 h:Int->Option Int
 ws:List (Int×Int)
abbrev Tb:=Sx->Option Kx
structure Ak where
 tx:Int
 key:Sx
 bQ:Int
deriving DecidableEq
def AN(m mode:Int):Bool:=decide (m=2) || decide (mode=2)
def AE(h:Int->Option Int)(tx:Int):Int:=(h tx).getD 0
def Pk(h:Int->Option Int)(tx mode:Int):Prop:=∀o m,h o=Bs m->o≠tx->AN m mode=L1
def q6x(f:List (Int×Int))(tx mode:Int):Bool:=f.any λw=>decide (w.1<tx) && AN w.2 mode
def Cx(h:Int->Option Int)(tx mode:Int)(f:List (Int×Int)):Prop:=mode<=AE h tx\/(Pk h tx mode/\q6x f tx mode=L1)
open Classical in
def Ai(h:Int->Option Int)(tx mode:Int)(f:List (Int×Int)):Bool:=decide (Cx h tx mode f)
def Bj(h:Int->Option Int)(tx:Int)(v:Option Int):Int->Option Int:=λo=>if o=tx then v else h o
def Az(h:Int->Option Int)(tx mode:Int):Int->Option Int:=Bj h tx (Bs (max (AE h tx) mode))
def Cd(f:List (Int×Int))(w:Int×Int):List (Int×Int):=f.takeWhile (λx=>decide (x.1<w.1))++w::f.dropWhile (λx=>decide (x.1<w.1))
def IZ(h:Int->Option Int)(tx mode:Int)(l:List Int):Prop:=l.Pairwise (· < ·)/\∀o,o∈l↔(tx<o/\∃m,h o=Bs m/\AN m mode=VD)
def DP:(Int->Option Int)->List (Int×Int)->List (Int×Int)->(Int->Option Int)×List (Int×Int)×List (Int×Int)
 |h,left,[]=>(h,left,[])
 |h,left,w::ws=>if Ai h w.1 w.2 left then
   ((DP (Az h w.1 w.2) left ws).1,(DP (Az h w.1 w.2) left ws).2.1,w::(DP (Az h w.1 w.2) left ws).2.2)
  else DP h (left++[w]) ws
def AG(f:List (Int×Int))(tx:Int):List (Int×Int):=f.filter λw=>!decide (w.1=tx)
def Co(k:Kx)(tx:Int):Kx×List (Int×Int):=
 (⟨(DP (Bj k.h tx B0) [] (AG k.ws tx)).1,(DP (Bj k.h tx B0) [] (AG k.ws tx)).2.1⟩,(DP (Bj k.h tx B0) [] (AG k.ws tx)).2.2)
def qcz(k:Kx):Prop:=(∀o,k.h o=B0)/\k.ws=[]
open Classical in
def FH(k:Kx)(tx:Int):Option Kx:=if qcz (Co k tx).1 then B0 else Bs (Co k tx).1
def Bp(T:Tb)(tx:Int):Tb:=λx=>(T x).bind λk=>FH k tx
def MH(T:Tb)(tx:Int)(x:Sx):List Ak:=match T x with
 |none=>[]
 |some k=>(Co k tx).2.map λg=>⟨g.1,x,g.2⟩
def Hm(T:Tb)(ks:List Sx):Prop:=ks.Pairwise (· < ·)/\∀x,x∈ks↔T x≠B0
open Classical in
def Ar(T:Tb)(x:Sx)(k:Option Kx):Tb:=λy=>if y=x then k else T y
def k0:Kx:=⟨λ_=>B0,[]⟩
def Ad(T:Tb)(x:Sx):Kx:=(T x).getD k0
def Gi{lt:α->α->Prop}(i:∀a,¬lt a a)(k:∀a b c,lt a b->lt b c->lt a c){l m:List α}(hl:l.Pairwise lt)(f:m.Pairwise lt)(p:∀a,a∈l↔a∈m):l=m:=by
 have nd:∀{l:List α},l.Pairwise lt->l.Nodup:=λh=>List.Pairwise.imp (R:=lt) (by intro a b h e;subst e;exact i _ h) h
 exact List.Perm.eq_of_pairwise (le:=lt) (λa b _ _ s q=>ZB (k _ _ _ s q) (i a)) hl f ((List.perm_ext_iff_of_nodup (nd hl) (nd f)).2 p)
def Mu{l m:List Int}(hl:l.Pairwise (· < ·))(f:m.Pairwise (· < ·))(h:∀a,a∈l↔a∈m):l=m:=
 Gi (λa=>Int.lt_irrefl a) (λ_ _ _ k i=>Int.lt_trans k i) hl f h
def D3(l:List Int):List Int:=l.mergeSort (λx y=>decide (x<=y))
def JT(l:List Sx):List Sx:=l.mergeSort (λx y=>decide (x<=y))
def JU{l:List Int}(h:l.Nodup):(D3 l).Pairwise (· < ·):=by have f:=List.pairwise_mergeSort (le:=λx y:Int=>decide (x<=y)) (λ_ _ _ f i=>by simp at *;omega) (λa b=>by simp;omega) l;have i:(D3 l).Nodup:=((Y8 l _).nodup_iff).2 h;exact f.imp₂ (λa b f (i:a≠b)=>by simp at f;omega) i
def Sy{l:List Sx}(h:l.Nodup):(JT l).Pairwise (· < ·):=by have f:=List.pairwise_mergeSort (le:=λx y:Sx=>decide (x<=y)) (λa b c f i=>by simp only[decide_eq_true_eq]at *;exact List.le_trans f i) (λa b=>Z6 (List.le_total a b)) l;have i:(JT l).Nodup:=((Y8 l _).nodup_iff).2 h;refine f.imp₂ (λa b f (i:a≠b)=>?_) i;simp only[decide_eq_true_eq]at f;exact Wc λh=>i (List.le_antisymm f (List.not_lt.1 h))
def GM{l:List Int}{a:Int} : a∈D3 l↔a∈l:=(Y8 l _).mem_iff
def Qv{l:List Sx}{a:Sx} : a∈JT l↔a∈l:=(Y8 l _).mem_iff
def Bt(m:Int):Prop:=m=1\/m=2
def SU{h:Int->Option Int}{mode:Int}{f:List (Int×Int)} : Ai h tx mode f=VD↔Cx h tx mode f:=by classical (unfold Ai;exact decide_eq_true_iff)
def qb7{h:Int->Option Int}{mode:Int}{f:List (Int×Int)} : Ai h tx mode f=L1↔¬Cx h tx mode f:=by classical (unfold Ai;exact decide_eq_false_iff_not)
def qar{f:List (Int×Int)}(h:f.Pairwise (·.1 < ·.1))(tx:Int):(AG f tx).Pairwise (·.1 < ·.1):=Yg _ h
def q39(h:Int->Option Int)(left:List (Int×Int)):DP h left []=(h,left,[]):=by simp[DP]
def relK0(tx:Int):(Co k0 tx).1.h=(λ_=>B0)/\(Co k0 tx).1.ws=[]:=by
 have e:Bj (λ_=>B0) tx B0=λ_=>B0:=by funext o;unfold Bj;split<;>rfl
 unfold Co k0;simp[AG,q39,e]
def CF(f:List (Int×Int))(tx:Int):Bool:=f.any λw=>decide (w.1=tx)
inductive DM(T:Tb)(x:Ak):Bool->List Int->Int->Tb->Prop where
 |arg (h:¬Bt x.bQ):DM T x L1 [] 1 T
 |long (h:Bt x.bQ) (hl:20<x.key.length):DM T x L1 [] 4 T
 |twice (h:Bt x.bQ) (hl:x.key.length<=20) (hw:CF (Ad T x.key).ws x.tx=VD):DM T x L1 [] 9 T
 |got (h:Bt x.bQ) (hl:x.key.length<=20) (hw:CF (Ad T x.key).ws x.tx=L1) (hf:Ai (Ad T x.key).h x.tx x.bQ (Ad T x.key).ws=VD) :
   DM T x VD [] 0 (Ar T x.key (Bs ⟨Az (Ad T x.key).h x.tx x.bQ,(Ad T x.key).ws⟩))
 |full (h:Bt x.bQ) (hl:x.key.length<=20) (hw:CF (Ad T x.key).ws x.tx=L1) (hf:Ai (Ad T x.key).h x.tx x.bQ (Ad T x.key).ws=L1) (h50:(Ad T x.key).ws.length=50):DM T x L1 [] 4 T
 |waits (h:Bt x.bQ) (hl:x.key.length<=20) (hw:CF (Ad T x.key).ws x.tx=L1) (hf:Ai (Ad T x.key).h x.tx x.bQ (Ad T x.key).ws=L1) (h50:(Ad T x.key).ws.length≠50)
   {l:List Int} (hl:IZ (Ad T x.key).h x.tx x.bQ l):DM T x L1 l 0 (Ar T x.key (Bs ⟨(Ad T x.key).h,Cd (Ad T x.key).ws (x.tx,x.bQ)⟩))
def qe7(T:Tb)(x y:Sx)(k:Kx):Ad (Ar T x (Bs k)) y=if y=x then k else Ad T y:=by unfold Ad Ar;split<;>rfl
def q5j{f:List (Int×Int)}{w v:Int×Int} : v∈Cd f w↔v=w\/v∈f:=by
 unfold Cd;have:v∈f↔v∈f.takeWhile (λx=>decide (x.1<w.1))\/v∈f.dropWhile (λx=>decide (x.1<w.1)):=by
  rw[<- XA,WO]
 rw[this,XA,Ye];constructor;rintro (h|h|h);exact eS (eR h);exact eR h;exact eS (eS h);rintro (h|h|h);exact eS (eR h);exact eR h;exact eS (eS h)
def q7b{w:Int×Int} : ∀{i:List (Int×Int)},i.Pairwise (·.1 < ·.1)->(∀v∈i,v.1≠w.1)->(Cd i w).Pairwise (·.1 < ·.1)
 |[],_,_=>by simp[Cd]
 |v::i,h,hn=>by
  rw[Yn]at h;have k:=q7b h.2 (λu f=>hn u (VE _ f));have p:=hn v VB;by_cases e:v.1<w.1;have e1:Cd (v::i) w=v::Cd i w:=by simp[Cd,e]
  rw[e1,Yn];refine⟨λu f=>?_,k⟩;obtain rfl|f:=q5j.1 f;exact e;exact h.1 u f;have e1:Cd (v::i) w=w::v::i:=by simp[Cd,e]
  rw[e1,Yn,Yn];refine⟨λu f=>?_,h⟩;obtain rfl|f:=Ye.1 f;omega;have:=h.1 u f;omega
def KM(f:List (Int×Int))(w:Int×Int):(Cd f w).length=f.length+1:=by
 have:(f.takeWhile (λx=>decide (x.1<w.1))).length+(f.dropWhile (λx=>decide (x.1<w.1))).length=f.length:=by
  rw[<- VJ,WO]
 unfold Cd;simp;omega
structure Vx where
 t:Int
 v:Sx
 g:Bool
deriving DecidableEq
structure Rx where
 key:Sx
 v:Sx
 g:Bool
 t:Int
deriving DecidableEq
abbrev Kp:=Sx->List Vx
def AD(l:List Vx)(t:Int):List Vx:=l.takeWhile (λx=>decide (x.t<t))
def Dm(l:List Vx)(t:Int):Bool:=l.any (λx=>decide (x.t=t))
def CK(l:List Vx)(v:Vx):List Vx:=AD l v.t++v::l.drop (AD l v.t).length
def CB(l:List Vx)(t:Int):Option Vx:=(l.takeWhile (λx=>decide (x.t<=t))).getLast?
def B8(o:Option Vx):Sx×Bool:=match o with
 |none=>([],L1)
 |some x=>if x.g then([],L1)else(x.v,VD)
abbrev Gs(l:List Vx):Prop:=l.Pairwise (·.t < ·.t)
def q3c{p:α->Bool}{l:List α}{a:α}(h:a∈l.takeWhile p):p a=VD:=by
 induction l with
 |nil=>cases h
 |cons b l f=>
  rw[YE]at h;split at h;obtain rfl|h:=Ye.1 h
  assumption
  exact f h;cases h
def q3b{l:List Vx}(hs:Gs l)(t:Int)(a:Vx):a∈l.takeWhile (λx=>decide (x.t<=t))↔a∈l/\a.t<=t:=by
 constructor;intro h;exact⟨(Xs _).subset h,Z6 (q3c h)⟩;rintro ⟨f,k⟩;induction l with
 |nil=>cases f
 |cons b l i=>
  have hs:=Yn.1 hs;rw[YE];obtain rfl|f:=Ye.1 f;rw[Z8 (Z6 k)];exact VB;have:=hs.1 a f;rw[Z8 Zz];exact VE _ (i hs.2 f)
def Kt{l:List Vx}(hs:Gs l)(t:Int)(a:Vx):a∈AD l t↔a∈l/\a.t<t:=by
 unfold AD;constructor;intro h;exact⟨(Xs _).subset h,Z6 (q3c h)⟩;rintro ⟨f,k⟩;induction l with
 |nil=>cases f
 |cons b l i=>
  have hs:=Yn.1 hs;rw[YE];obtain rfl|f:=Ye.1 f;rw[Z8 (Z6 k)];exact VB;have:=hs.1 a f;rw[Z8 Zz];exact VE _ (i hs.2 f)
def GZ{l:List Vx}(hs:Gs l){t:Int}{x:Vx} : CB l t=Bs x↔x∈l/\x.t<=t/\∀y∈l,y.t<=t->y.t<=x.t:=by
 have f:Gs (l.takeWhile (λx=>decide (x.t<=t))):=hs.sublist (Xs _).sublist;unfold CB;constructor;intro h;have k:=List.mem_of_getLast? h;have s:=(q3b hs t x).1 k;refine⟨s.1,s.2,λy v u=>?_⟩;have i:=(q3b hs t y).2 ⟨v,u⟩;obtain⟨z,e⟩:=List.getLast?_eq_some_iff.1 h;rw[e]at i f;obtain p|p:=XA.1 i;have:=(ZM.1 f).2.2 y p x Z3;omega;rw[VU]at p;rw[p];omega;rintro ⟨E,s,p⟩;have k:=(q3b hs t x).2 ⟨E,s⟩;cases e:(l.takeWhile (λx=>decide (x.t<=t))).getLast? with
 |none=>rw[Y6]at e;rw[e]at k;cases k
 |some y=>
  have v:=List.mem_of_getLast? e;have i:=(q3b hs t y).1 v;have G:=p y i.1 i.2;obtain⟨z,F⟩:=List.getLast?_eq_some_iff.1 e;rw[F]at k f;obtain q|q:=XA.1 k;have:=(ZM.1 f).2.2 x q y Z3;omega;rw[VU]at q;rw[q]
def QU{l:List Vx}(hs:Gs l){t:Int} : CB l t=B0↔∀y∈l,¬y.t<=t:=by unfold CB;rw[Y6,List.eq_nil_iff_forall_not_mem];constructor;intro h y f i;exact h y ((q3b hs t y).2 ⟨f,i⟩);intro h y f;have:=(q3b hs t y).1 f;exact h y this.1 this.2
def Nv{l:List Vx}(hs:Gs l){t:Int}(h:Dm l t=VD):CB l t=l[(AD l t).length]?/\(AD l t).length<l.length:=by
 unfold Dm at h;obtain⟨x,u,s⟩:=List.any_eq_true.1 h;simp only[decide_eq_true_eq]at s;have f:=WO (p:=λx=>decide (x.t<t)) (l:=l);have i:x∈l.dropWhile (λx=>decide (x.t<t)):=by
  rw[<- f]at u;obtain k|k:=XA.1 u;have:=q3c k;simp at this;omega;exact k
 cases e:l.dropWhile (λx=>decide (x.t<t))with
 |nil=>rw[e]at i;cases i
 |cons y r=>
  have F:¬y.t<t:=by
   have:=List.head_dropWhile_not (p:=λx=>decide (x.t<t)) (l:=l) (by rw[e];simp);simp only[e,List.head_cons]at this;simpa using this
  have q:y=x:=by
   rw[e]at i;obtain k|k:=Ye.1 i;exact k.symm;rw[e]at f;rw[<- f]at hs;have:=(Yn.1 (ZM.1 hs).2.1).1 x k;omega
  subst q;rw[e]at f;have hl:l=AD l t++y::r:=f.symm;have v:l[(AD l t).length]? = Bs y:=by
   conv=>lhs;rw[hl]
   rw[Wg (by exact Nat.le_of_eq (by rw[<- hl]))];have G:(AD l t).length-(AD l t).length=0:=by omega
   simp[<- hl]
  refine⟨?_,?_⟩;rw[v];exact(GZ hs).2 ⟨u,Z0,λz _ E=>Z0⟩;exact(ZC.1 v).1
def Nb{l:List Vx}{t:Int}(h:Dm l t=L1):l.takeWhile (λx=>decide (x.t<=t))=AD l t:=by
 unfold AD;unfold Dm at h;rw[Xw]at h;induction l with
 |nil=>rfl
 |cons a l f=>
  have k:=h a VB;simp only[decide_eq_true_eq]at k;rw[YE,YE,f (λx i=>h x (VE _ i))];by_cases e:a.t<t;rw[Z8 Zz,Z8 (Z6 e)];rw[Z7 Zz,Z7 (Z6 e)]
def Nu{l:List Vx}{t:Int}(h:Dm l t=L1):((AD l t).length=0->CB l t=B0)/\(0<(AD l t).length->CB l t=l[(AD l t).length-1]?/\(AD l t).length-1<l.length):=by
 unfold CB;rw[Nb h];have i:AD l t <+: l:=Xs _;refine⟨λk=>by rw[List.length_eq_zero_iff.1 k];rfl,λk=>?_⟩;have hl:=i.length_le;refine⟨?_,Z0⟩;rw[List.getLast?_eq_getElem?];obtain⟨r,f⟩:=i
 conv=>rhs;rw[<- f]
 rw[VZ (by rw[f];omega),f]
def G7(l:List Vx)(t:Int):l.drop (AD l t).length=l.dropWhile (λx=>decide (x.t<t)):=by
 have h:=WO (p:=λx:Vx=>decide (x.t<t)) (l:=l);unfold AD
 conv=>lhs;arg 2;rw[<- h]
 rw[h];have:=List.drop_left (l₁:=l.takeWhile (λx=>decide (x.t<t))) (l₂:=l.dropWhile (λx=>decide (x.t<t)));rw[h]at this;exact this
def q80{l:List Vx}{v x:Vx} : x∈CK l v↔x=v\/x∈l:=by
 unfold CK;rw[G7];have:x∈l↔x∈AD l v.t\/x∈l.dropWhile (λx=>decide (x.t<v.t)):=by
  rw[<- XA];unfold AD;rw[WO]
 rw[this,XA,Ye];constructor;rintro (h|h|h);exact eS (eR h);exact eR h;exact eS (eS h);rintro (h|h|h);exact eS (eR h);exact eR h;exact eS (eS h)
def qb3{l:List Vx}{v:Vx}(hs:Gs l)(s:Dm l v.t=L1):Gs (CK l v):=by
 unfold Dm at s;rw[Xw]at s;unfold CK;rw[G7];have h:=WO (p:=λx:Vx=>decide (x.t<v.t)) (l:=l);have i:=hs;rw[<- h]at i;have f:=ZM.1 i;have z:∀x∈l.dropWhile (λx=>decide (x.t<v.t)),v.t<x.t:=λx k=>by
  have q:=s x ((List.dropWhile_sublist _).subset k);simp only[decide_eq_true_eq]at q;refine Wc (λE=>?_);have G:x∈AD l v.t:=(Kt hs v.t x).2 ⟨(List.dropWhile_sublist _).subset k,Z0⟩;have:=f.2.2 x G x k;omega
 refine ZM.2 ⟨f.1,Yn.2 ⟨z,f.2.1⟩,λa F b u=>?_⟩;have y:=((Kt hs v.t a).1 F).2;obtain rfl|u:=Ye.1 u;exact y;have:=z b u;omega
def qdv(l:List Vx)(v:Vx):(CK l v).length=l.length+1:=by unfold CK;have:(AD l v.t).length<=l.length:=(Xs _).length_le;simp;omega
def Jg(r:Rx):Vx:=⟨r.t,if r.g then []else r.v,r.g⟩
def Cc(K:Kp)(x:Sx)(l:List Vx):Kp:=λy=>if y=x then l else K y
section
open Go.RowKit Go.Maps Go.WideMaps
section
variable {P:Xh}{kt:VR}{κ:Type}{C:Da P kt κ}{w:D0}{ops:Array XE}{rest:List XE}{o:XE}{a:Act}{Q:Exit->Act->D0->Prop}{b r n cnt:Nat}{m:κ->Option S2}{left:κ->Bool}
def Ed.left_eq(h:Ed C w b r n m left cnt):w.rangeLeft b r=cnt:=by obtain⟨D,l,f,_⟩:=h;exact f.left_eq
def q32(z:o.guard=B0)(p:Yi)(t e:VR)(i:o.op=Op.range t p)(v:P.underlying t=Bs (.map kt e))(y:a.eval p=.map (Bs b))(h:Ab C w b n m)
  (E:∀w' cnt,Ed C w' b w.heap.size n m (λx=>(m x).isSome) cnt->Fr (λ_=>False) w w'->w'.heap.size=w.heap.size+1->Yk P ops Q rest (a.put o.dst (ZW (Bs ⟨w.heap.size,0,B0⟩))) w') :
  Yk P ops Q (o::rest) a w:=by
 refine Yx z λF k=>?_
 obtain⟨w',cnt,f,u,s,q⟩:=h.range v;unfold Yp;simp[Yr,i,y,f,W8];exact k _ _ (E w' cnt u s q)
open Classical in
def q3m(R:o.guard=B0)(J:Yi)(s:o.op=Op.next J L1)(u:a.eval J=ZW (Bs ⟨r,0,B0⟩))(h:Ed C w b r n m left cnt)
  (q:(∀x,C.ok x->left x=L1)->Yk P ops Q rest (a.put o.dst (ZZ #[ZX L1])) w)
  (p:∀(x:κ)(v:S2)(w':D0)(f:Nat),C.ok x->left x=VD->m x=Bs v->Ed C w' b r n m (λy=>left y && !decide (y=x)) f->f<cnt->
   Fr (λk=>k=r) w w'->w'.heap.size=w.heap.size->(Instr.entry (ZW (Bs ⟨r,0,B0⟩))).run P w'=.ok (ZZ #[C.val x,v]) w'->Yk P ops Q rest (a.put o.dst (ZZ #[ZX VD,C.val x,v])) w') :
  Yk P ops Q (o::rest) a w:=by
 refine Yx R λX z=>?_
 unfold Yp;obtain⟨W,hl,i⟩|⟨x,v,w',f,M,H,O,i,F,G,U,E,I⟩:=h.next o.type;simp[Yr,s,u,i,W8];exact z _ _ (q hl);simp[Yr,s,u,i,W8];exact z _ _ (p x v w' f M H O F G U E I)
end
end
def Bb:Tryz.prog.underlying 142=Bs (.slice 145):=Tryz.underlying142
def LU:Tryz.prog.elem 142=145:=by kernel_rfl
def J4(w:D0):(Zc 145).run Tryz.prog w=.ok 3 w:=by kernel_rfl
def Hz:(Tryz.prog.info? 145).map (λi=>(i.zero,i.size,i.bytes))=Bs (Bs (.agg #[Wm eQ 0,ZV ⟨#[]⟩,ZX L1]),3,32):=by kernel_rfl
def q8d:(Tryz.prog.info? 145).map (·.size)=Bs 3:=by kernel_rfl
def Ry(base n i:Nat)(V:S2)(f xs:List S2)(w:D0)(e:WE)(w':D0):Prop:=
 ∃V',e=ZY V'/\w'.ownsRow base 145 3 V' (n+1) (Cq 3 i f xs)/\Am w w' V.ownBlock V'.ownBlock
def Og{w:D0}{g:Nat}(h:w.heap[g]? = Bs (eT U t (0,0))):w.shape? g=Bs (t,U.size):=by unfold World.shape?;rw[h]
def Jz{w:D0}{g o:Nat}(h:w.heap[g]? = Bs (eT U t (0,0))):w.frozen? ⟨g,o,B0⟩=L1:=Ae.frozen (show Ae w g t U from h) o
def R4(base n G J:Nat)(V:S2)(xs h:List S2)(w:D0)(f:w.ownsRow base 145 3 V n xs)(Y:n<=100000)(q:h.length=3)(s:∀u∈h,u.oneCell'=VD)
  (p:Ae w G 145 h.toArray) (W:base<=w.heap.size) :
  VX Tryz.prog 108 #[V,Wm eQ n,WK (Bs ⟨G,0,B0⟩) 1 J] w (Ry base n n V h xs w):=by
 obtain⟨A,c,rfl,U,_⟩:=AM f;obtain⟨O,M⟩:=q1k 142 Bb LU J4 w A n c n (Hi _);have v:Eb w w.heap.size 3 (Bs ⟨G,0,B0⟩) 1 h:=⟨by rw[q],λ_=>⟨_,rfl,p.lt,λj u R=>by
  rw[WM,Wk];exact(p.cell j).trans (Z6 R)⟩⟩
 have i:Cq 3 n h xs=xs++h:=by
  unfold Cq;rw[VS (by rw[f.1];omega),Yj (by rw[f.1];omega),WB]
 have E:=LH f;clear f;have I:=LH v;clear v;have F:=LH i;clear i;have H:=LH s;clear s;clear p q;go_enter Tryz.func108,Tryz.ntmps108;go_wp2_with (at_builtin;refine q1o w rfl _ _ 142 rfl base 145 _ 3 32 Bb Hz rfl Z2 _ n xs rfl E.o _ _ 1 J h rfl I.o H.o Zx Z0 W ?_;intro V2 w2 y z)
 have k:Ry base n n (WK A n c) h xs w (ZY V2) w2:=⟨V2,rfl,by rw[F.o];exact y,z⟩
 have X:=LH k;clear k y z;go_wp2_with fail;go_ret;exact X.o
def Mf(base g n c i J Y:Nat)(xs U:List S2)(w:D0)(p:w.ownsRow base 145 3 (WK (Bs ⟨g,0,B0⟩) n c) n xs)(hi:i<n)(E:n+1<=c)(hn:n<=100000)(X:∀u∈xs,u.oneCell'=VD)(Z:U.length=3)(a0:∀u∈U,u.oneCell'=VD)
  (s:Ae w J 145 U.toArray) (a1:J≠g) (hb:base<=w.heap.size) :
  VX Tryz.prog 108 #[WK (Bs ⟨g,0,B0⟩) n c,Wm eQ i,WK (Bs ⟨J,0,B0⟩) 1 Y] w (Ry base n i (WK (Bs ⟨g,0,B0⟩) n c) U xs w):=by
 obtain⟨ad,ab⟩:=q1k 142 Bb LU J4 w (Bs ⟨g,0,B0⟩) n c i Z0;obtain⟨ex,a4,G⟩:=GG p E;obtain⟨a8,q1,hg,q2,q3,a5,q4⟩:=q4b p;clear q1 q2 q3 q4;have R:a8.size≠0:=by rw[a5];have:0<c*3:=Nat.mul_pos Z0 Z2;omega
 have a6:∀lb cb,(callFunc 126 #[WK (Bs ⟨J,0,B0⟩) 1 Y,WK (Bs ⟨g,(i+1)*3,B0⟩) lb cb]).run Tryz.prog w=.ok (.value (ZX L1)) w:=λlb cb=>by
  rw[run_callFunc_extern Tryz.func126 Z1 Z1 Z1 (e:=Extern.SlicesOverlaps.overlaps #[142,142] #[4]) Z1,
   Lib.run_overlaps_apart w 142 4 145 Bb 3 J4 ⟨J,0,B0⟩ ⟨g,(i+1)*3,B0⟩ 1 Y lb cb a1 _ _ _ _ (Og s) (Og hg) R (Jz s) (Jz s)]
  rfl
 have I:=p.1;obtain⟨w2,z,F,a3⟩:=UY (w:=w.drew) 142 142 145 Bb q8d (show w.drew.ownsRow base 145 3 (WK (Bs ⟨g,0,B0⟩) (n+1) c) (n+1) (xs++ex)from G) (i:=i+1) (m:=n-i) Z0 (xs.drop (i*3))
  (by rw[Xf,I,YW]) ⟨g,i*3,B0⟩ (λj v hj=>by
   rw[WM];rw[Yo]at hj;have a7:i*3+j<n*3:=by rw[<- I];exact(ZC.1 hj).1
   show w.cell? _=_;exact(p.cellAt _ a7).trans hj) (λu hu=>X u (Yf hu)) (n-i) (c-(i+1)) (n+1-i) (c-i) (by show min _ _=_;omega)
 have H:Fr (λk=>k=g) w w2:=(Fr.refl _ w).drew.trans a3;have M:Ae w2 J 145 U.toArray:=H.al s a1;obtain⟨w3,y,q,a2⟩:=UY (w:=w2) 142 142 145 Bb q8d F (i:=i) (m:=1) Z0 U (by rw[Z]) ⟨J,0,B0⟩ (λj v hj=>by
   rw[WM,Wk];exact(M.cell j).trans (Z6 hj)) a0 (n+1-i) (c-i) 1 Y (by show min _ _=_;omega)
 have ac:=(q3w p).2;rw[qaj I hi a4]at q;have O:Ry base n i (WK (Bs ⟨g,0,B0⟩) n c) U xs w (ZY (WK (Bs ⟨g,0,B0⟩) (n+1) c)) w3:=
  ⟨_,rfl,q,(H.trans a2).mono (λk _ h=>by rw[h];rfl),eR rfl⟩
 have s1:=q47 142 Bb LU J4 w g n c (n+1) ((n:Int)+1) Z0 E;have s2:=λW=>RF 142 Bb LU J4 W g (n+1) c (i+1) ((i:Int)+1) Z0 Z0 Z0
 rw[show n+1-(i+1)=n-i by omega]at s2;have s3:=λW=>RF 142 Bb LU J4 W g (n+1) c i (i:Int) rfl Z0 Z0
 have HF:=LH O;clear O G F q a3 a2 H p s M hg a5 R a4;have af:IntKind.i64.wrap ((i:Int)+1)=(i:Int)+1:=V4 _ Z0;have ae:IntKind.i64.wrap ((n:Int)+1)=(n:Int)+1:=V4 _ Z0;have aa:=LH z;clear z;have a9:=LH y;clear y;have ag:=LH X;clear X;clear a0 Z I;have d1:((i:Int) == (n:Int))=L1:=by rw[beq_eq_false_iff_ne];omega
 have d2:decide ((c:Int)<(n:Int)+1)=L1:=by rw[decide_eq_false_iff_not];omega
 go_enter Tryz.func108,Tryz.ntmps108;go_wp2_with (simp only[a6])
 refine nW ?_;refine UQ (λ_=>True) 9 ?_;have f:True:=trivial;refine nE 0 f ?_;refine nE 1 f ?_;refine nE 2 f ?_;refine nE 3 f ?_;refine nE 4 f ?_;refine nE 5 f ?_;refine nE 6 f ?_;refine nE 7 f ?_;refine nG 8 (λK hK=>?_);refine q2y (.tmp 73) (.tmp 76) 142 142 rfl (WK (Bs ⟨g,(i+1)*3,B0⟩) (n-i) (c-(i+1))) (WK (Bs ⟨g,i*3,B0⟩) (n+1-i) (c-i)) _ (by simp[Xm,Xq]) (by simp[Xm,Xq]) (aa.o _) ?_;go_simp;refine hK _ _ (λ_=>f) ?_;clear hK K;refine nX ?_;clear f;go_wp2_with (refine q25 rfl (.tmp 80) (.tmp 81) 142 142 rfl (WK (Bs ⟨g,i*3,B0⟩) (n+1-i) (c-i)) (WK (Bs ⟨J,0,B0⟩) 1 Y) _ rfl rfl (a9.o _) ?_)
 go_ret;exact HF.o
def Pz(base g n c i vb vc:Nat)(xs Z:List S2)(w:D0)(p:w.ownsRow base 145 3 (WK (Bs ⟨g,0,B0⟩) n c) n xs)(hi:i<n)(aa:c<n+1)(hn:n<=100000)(I:∀u∈xs,u.oneCell'=VD)(a0:Z.length=3)(a4:∀u∈Z,u.oneCell'=VD)
  (a1:Ae w vb 145 Z.toArray) (hb:base<=w.heap.size) :
  VX Tryz.prog 108 #[WK (Bs ⟨g,0,B0⟩) n c,Wm eQ i,WK (Bs ⟨vb,0,B0⟩) 1 vc] w (Ry base n i (WK (Bs ⟨g,0,B0⟩) n c) Z xs w):=by
 obtain⟨ah,ag⟩:=q1k 142 Bb LU J4 w (Bs ⟨g,0,B0⟩) n c i Z0;have hc:=q3w p;have J:=p.1;obtain⟨i0,a6,a3,R,X⟩:=YM Hz;have ak:g<w.heap.size:=(p.lt g rfl).2;obtain⟨Y,w1,q,s,M,a9⟩:=qce (w:=w) 142 3 i0 _ eQ eQ Bb Tryz.underlying3 a6 a3 R rfl Z2 (q5f p (i:=i) Z0) (k:=n+1-i) Z0 Z0 Z0 (by rw[X];decide) (λu hu=>I u (List.mem_of_mem_take hu)) hb;rw[show i+(n+1-i)=n+1 by omega]at q s;have al:=(q3w s).1;have O:Ae w1 vb 145 Z.toArray:=M.al a1 (λh=>h);have G:=M.own p (λ_ _ h=>h);have af:=a1.lt;obtain⟨w2,E,H,a2⟩:=UY (w:=w1) 142 142 145 Bb q8d s (i:=i) (m:=1) Z0 Z (by rw[a0]) ⟨vb,0,B0⟩ (λj v hj=>by
   rw[WM,Wk];exact(O.cell j).trans (Z6 hj)) a4 (n+1-i) (Y-i) 1 vc (by show min _ _=_;omega)
 have F:=a2.own G (λk hk e=>by
   have:g=k:=by simpa [Wa]using hk
   omega)
 obtain⟨w3,z,y,a8⟩:=UY (w:=w2.drew) 142 142 145 Bb q8d (show w2.drew.ownsRow base 145 3 (WK (Bs ⟨w.heap.size,0,B0⟩) (n+1) Y) (n+1) _ from H) (i:=i+1) (m:=n-i) Z0 (xs.drop (i*3))
  (by rw[Xf,J,YW]) ⟨g,i*3,B0⟩ (λj v hj=>by
   rw[WM];rw[Yo]at hj;have ab:i*3+j<n*3:=by rw[<- J];exact(ZC.1 hj).1
   show w2.cell? _=_;exact(F.cellAt _ ab).trans hj) (λu hu=>I u (Yf hu)) (n-i) (Y-(i+1)) (n-i) (c-i) (by show min _ _=_;omega)
 rw[q8n J Z0 (by rw[Wz,Xz];rfl) a0]at y;have a7:Fr (λk=>Bs k=Wa (WK (Bs ⟨g,0,B0⟩) n c)) w w3:=(((M.trans' a2 (λk hk (e:k=w.heap.size)=>Z0)).drew).trans' a8 (λk hk (e:k=w.heap.size)=>Z0)).mono (λk _ h=>h.elim);have U:Ry base n i (WK (Bs ⟨g,0,B0⟩) n c) Z xs w (ZY (WK (Bs ⟨w.heap.size,0,B0⟩) (n+1) Y)) w3:=
  ⟨_,rfl,y,a7,eS ⟨_,rfl,Hi _⟩⟩
 have a5:(n:Int)+1-i=((n+1-i:Nat):Int):=by omega
 have s1:=q47 142 Bb LU J4 w g n c i (i:Int) rfl Z0;have s2:=λW=>RF 142 Bb LU J4 W w.heap.size (n+1) Y i (i:Int) rfl Z0 Z0
 have s3:=λW=>RF 142 Bb LU J4 W w.heap.size (n+1) Y (i+1) ((i:Int)+1) Z0 Z0 Z0
 rw[show n+1-(i+1)=n-i by omega]at s3;have s4:=λW=>RF 142 Bb LU J4 W g n c i (i:Int) rfl Z0 Z0
 have HF:=LH U;clear U s H y M a2 a8 p G F a1 O a6 a3 R X a7 a9;have aj:IntKind.i64.wrap ((i:Int)+1)=(i:Int)+1:=V4 _ Z0;have ai:IntKind.i64.wrap ((n:Int)+1)=(n:Int)+1:=V4 _ Z0;rw[<- a5]at q;have ae:=LH q;clear q a5;have ad:=LH E;clear E;have ac:=LH z;clear z;have am:=LH I;clear I;clear a4 a0 J;have d1:((i:Int) == (n:Int))=L1:=by rw[beq_eq_false_iff_ne];omega
 have d2:decide ((c:Int)<(n:Int)+1)=VD:=by rw[decide_eq_true_eq];omega
 go_enter Tryz.func108,Tryz.ntmps108;go_wp2_with (first|(refine q2c rfl (.tmp 34) (.tmp 39) 142 3 rfl (WK (Bs ⟨g,0,B0⟩) i c) (Wm eQ ((n:Int)+1-i)) _ rfl rfl (ae.o _) ?_)|(refine q25 rfl (.tmp 43) (.tmp 44) 142 142 rfl (WK (Bs ⟨w.heap.size,i*3,B0⟩) (n+1-i) (Y-i)) (WK (Bs ⟨vb,0,B0⟩) 1 vc) _ rfl rfl (ad.o _) ?_))
 refine nW ?_;refine UQ (λ_=>True) 9 ?_;have f:True:=trivial;refine nE 0 f ?_;refine nE 1 f ?_;refine nE 2 f ?_;refine nE 3 f ?_;refine nE 4 f ?_;refine nE 5 f ?_;refine nE 6 f ?_;refine nE 7 f ?_;refine nG 8 (λK hK=>?_);refine q2y (.tmp 50) (.tmp 53) 142 142 rfl (WK (Bs ⟨w.heap.size,(i+1)*3,B0⟩) (n-i) (Y-(i+1))) (WK (Bs ⟨g,i*3,B0⟩) (n-i) (c-i)) _ (by simp[Xm,Xq]) (by simp[Xm,Xq]) (ac.o _) ?_;go_simp;refine hK _ _ (λ_=>f) ?_;clear hK K;refine nX ?_;clear f;go_wp2_with fail;go_ret;exact HF.o
def R6(base n i v z:Nat)(V:S2)(xs k:List S2)(w:D0)(f:w.ownsRow base 145 3 V n xs)(J:i<=n)(F:n<=100000)(y:∀u∈xs,u.oneCell'=VD)(p:k.length=3)(s:∀u∈k,u.oneCell'=VD)
  (q:Ae w v 145 k.toArray) (E:V.ownBlock≠Bs v) (G:base<=w.heap.size) :
  VX Tryz.prog 108 #[V,Wm eQ i,WK (Bs ⟨v,0,B0⟩) 1 z] w (Ry base n i V k xs w):=by
 by_cases e:i=n;subst e;exact R4 base i v z V xs k w f F p s q G;obtain⟨rfl,M⟩|⟨g,c,I,rfl,_,_,H,_⟩:=f.2;omega;by_cases h:n+1<=c;exact Mf base g n c i v z xs k w f Z0 h F y p s q (λe=>E (by rw[e];rfl)) G;exact Pz base g n c i v z xs k w f Z0 Z0 F y p s q G
abbrev VxR:=Vx
def Dk(x:Vx):List S2:=[Wm eQ x.t,ZV ⟨x.v.toArray⟩,ZX x.g]
def vxV(x:Vx):S2:=.agg #[Wm eQ x.t,ZV ⟨x.v.toArray⟩,ZX x.g]
def flatV:∀(l:List Vx)(j:Nat)(x:Vx),l[j]? = Bs x->∀i,i<3->(l.flatMap Dk)[j*3+i]? = (Dk x)[i]?
 |[],j,p,h,i,f=>by simp at h
 |q::l,0,p,h,i,f=>by
  simp at h;subst h;rw[VH,VZ (by show _<3;omega)];simp
 |q::l,j+1,p,h,i,f=>by
  have s:l[j]? = Bs p:=Z6 h;have e:(j+1)*3+i=(j*3+i)+3:=by omega
  have k:(Dk q).length=3:=rfl;rw[e,VH,Wg (by rw[k];omega),k,Xc];exact flatV l j p s i f
def qba(l:List Vx):(l.flatMap Dk).length=l.length*3:=by
 induction l with
 |nil=>rfl
 |cons x l f=>rw[VH,VJ,f];show 3+_=_;simp only[Wi];omega
def qcv:∀(l:List Vx)(k:Nat),(l.flatMap Dk).drop (k*3)=(l.drop k).flatMap Dk
 |l,0=>Z3
 |[],k+1=>Z3
 |x::l,k+1=>by
  rw[VH,show(k+1)*3=3+k*3 by omega,<- Xp,List.drop_left' (by rfl),Xj];exact qcv l k
def qcu:∀(l:List Vx)(k:Nat),(l.flatMap Dk).take (k*3)=(l.take k).flatMap Dk
 |l,0=>Z3
 |[],k+1=>Z3
 |x::l,k+1=>by
  rw[VH,WZ,VH,<- qcu l k,show(k+1)*3=(Dk x).length+k*3 by show _=3+_;omega,List.take_length_add_append]
def qb9(l:List Vx):∀u∈l.flatMap Dk,u.oneCell'=VD:=λu h=>by
 obtain⟨p,_,f⟩:=ZK.1 h;unfold Dk at f;obtain rfl|f:=Ye.1 f;rfl;obtain rfl|f:=Ye.1 f;rfl;rw[VU.1 f];rfl
def Rd.d6{w:D0}{l:List Vx}(h:Rd w B 3 A n (l.flatMap Dk))(hl:l.length=n)(q:j<n):∃g off x,A=Bs ⟨g,off,B0⟩/\g<B/\l[j]? = Bs x/\
  w.cell? ⟨g,off+j*3,B0⟩=Bs (Wm eQ x.t)/\w.cell? ⟨g,off+j*3+1,B0⟩=Bs (ZV ⟨x.v.toArray⟩)/\w.cell? ⟨g,off+j*3+2,B0⟩=Bs (ZX x.g):=by
 obtain⟨g,off,e,p,i⟩:=h.2 Z0;have k:l[j]? = Bs l[j]:=K0 Z0;have f:=flatV l j _ k;exact⟨g,off,l[j],e,p,k,i (j*3) _ (f 0 Z0),i (j*3+1) _ (f 1 Z0),i (j*3+2) _ (f 2 Z0)⟩
def DE(w:D0)(base:Nat)(V:S2)(l:List Vx):Prop:=
 w.ownsRow base 145 3 V l.length (l.flatMap Dk)\/
  ∃g o cs,V=WK (Bs ⟨g,o,B0⟩) l.length l.length/\0<l.length/\base<=g/\l.length<=VY/\Ae w g 145 cs/\∀j u,(l.flatMap Dk)[j]? = Bs u->cs[o+j]? = Bs u
section
variable {l:List Vx}
def DE.form(h:DE w base V l):∃A c,V=WK A l.length c/\l.length<=c:=by obtain h|⟨g,o,cs,rfl,_⟩:=h;obtain⟨A,c,i,f,_⟩:=AM h;exact⟨A,c,i,f⟩;exact⟨_,_,rfl,Hi _⟩
def DE.rd{c:Nat}(h:DE w base (WK A n c) l):Rd w w.heap.size 3 A l.length (l.flatMap Dk):=by obtain h|⟨g,o,cs,f,s,q,_,i,p⟩:=h;obtain⟨y,v,f,_,_⟩:=AM h;injection f with h1 h2 h3;subst h1 h2 h3;exact Rd.a7 h;injection f with h1 h2 h3;subst h1 h2 h3;exact⟨qba l,λ_=>⟨g,o,rfl,i.lt,λj u k=>(i.cell (o+j)).trans (p j u k)⟩⟩
def DE.block(h:DE w base V l){b:Nat}(i:V.ownBlock=Bs b):base<=b/\b<w.heap.size/\∃cs,Ae w b 145 cs:=by
 obtain h|⟨g,o,cs,rfl,y,k,_,q,v⟩:=h;refine⟨(h.lt b i).1,(h.lt b i).2,?_⟩;obtain⟨rfl,_⟩|⟨u,cap,p,rfl,_,s,_⟩:=h.2;cases i;have f:u=b:=by injection i
 subst f;exact⟨p,s⟩;have f:g=b:=by injection i
 subst f;exact⟨k,q.lt,cs,q⟩
def DE.fr(h:DE w base V l)(k:Fr S w w')(i:∀b,V.ownBlock=Bs b->¬S b):DE w' base V l:=by obtain h|⟨g,o,cs,rfl,u,f,p,q,s⟩:=h;exact eR (k.own h i);exact eS ⟨g,o,cs,rfl,u,f,p,k.al q (i g rfl),s⟩
def DE.aV(h:DE w base V l){g:Nat}(k:Ae w g t U)(f:t≠145):V.ownBlock≠Bs g:=λe=>by
 obtain⟨_,_,p,i⟩:=h.block e;exact i.ne_ k (λe=>f e.symm) rfl
end
section
variable {e:VR}{size:Nat}
def JV(T:VR)(i:P.underlying T=Bs (.slice e))(f:P.elem T=e)(hs:∀w,(Zc e).run P w=.ok size w)(w:D0)(g o n c v:Nat)(h:Int)(k:h=v)(p:v<=n) :
  (YJ T (WK (Bs ⟨g,o,B0⟩) n c) (Bs (Wm eQ h)) B0 B0).run P w=.ok (WK (Bs ⟨g,if c=v then o else o+v*size,B0⟩) (n-v) (c-v)) w:=by
 subst k;subst f;rw[run_slice_l w T _ n c i eQ (v:Int) Z0 Z0,hs];simp only[W8,sliced,XO];congr 2;split<;>simp[WM]
def PP(T:VR)(i:P.underlying T=Bs (.slice e))(f:P.elem T=e)(hs:∀w,(Zc e).run P w=.ok size w)(w:D0)(g o n c v:Nat)(h:Int)(k:h=v)(p:v<=c) :
  (YJ T (WK (Bs ⟨g,o,B0⟩) n c) B0 (Bs (Wm eQ h)) B0).run P w=.ok (WK (Bs ⟨g,o,B0⟩) v c) w:=by
 subst k;subst f;rw[run_slice_h w T _ n c i eQ (v:Int) Z0 Z0,hs];simp only[W8,sliced,XO,Zp,Nat.sub_zero];congr 2;split<;>simp[WM]
end
end
end Go.Proofs.YtccahlhdifadfaaGreatDoor
