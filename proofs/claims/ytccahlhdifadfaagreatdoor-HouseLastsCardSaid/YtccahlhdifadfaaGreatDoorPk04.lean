import Derived.Test.YtccahlhdifadfaaGreatDoorPk03
import Derived.Test.YtccahlhdifadfaaGreatDoorRows
import Derived.Maps.OwnSet
import Derived.Maps.RangeWalk
import Derived.Maps.Ext
import Derived.Maps.StringElems
import Derived.WalkKit
import Derived.WalkSpells
import Derived.WalkLawsBesides
import Derived.BigQuiet
import Derived.Deep.QuietTactic
import Derived.StillTailTactics
import Derived.Deep.DeepCutAuto
import Derived.Laws.MakeOwn
import Derived.Laws.EntriesVeiled
namespace Go.Proofs.YtccahlhdifadfaaGreatDoor
open Go.RowKit
open _root_.Go.Obj renaming cells->eT
open _root_.Or renaming inl->eR,inr->eS
open _root_.Go.IntKind renaming i64->eQ
open _root_.Go.Ending renaming returned->ZY
open _root_.Bool renaming false->L1,true->VD,and_eq_true->Wl,false_or->YR
open _root_.Classical renaming byContradiction->Wc
open _root_.Go renaming World->D0,Value->S2,Calls->VX,maxLen->VY,wp_cond_true->Xn,Addr->Xo,Operand->Yi,undef->Yl,DataW->YI
open _root_.Go.Act renaming put->Xq
open _root_.Go.Code renaming wp->Yq
open _root_.Go.IntWalk renaming i64_in->V4
open _root_.Go.Oper renaming wp->Yp
open _root_.Go.Region renaming ready->Ws,wanted->Wu
open _root_.Go.Result renaming andThen->W8
open _root_.Go.RowKit renaming Below->VI
open _root_.Go.RowKit.Below renaming refl->VC
open _root_.Go.Value renaming ownBlock->Wa,int->Wm,slice->ZU,string->ZV,pointer->ZW,bool->ZX,tuple->ZZ
open _root_.Go.World renaming block_lt_of_cell?->V5,cell?_alloc_lt->WT,ownsRow->XS,ownsRow_lit->X5
open _root_.Iff renaming rfl->Yw
open _root_.Int renaming le_refl->WH
open _root_.List renaming getElem?_eq_getElem->K0,mem_of_getElem?->N2,mem_cons_self->VB,mem_cons_of_mem->VE,flatMap_cons->VH,length_append->VJ,mem_append_left->VM,prefix_refl->VO,findIdx?_eq_some_iff_getElem->VP,getElem?_map->VQ,take_of_length_le->VS,mem_singleton->VU,take_add_one->VV,getElem?_append_left->VZ,length_map->V0,getElem?_mapIdx->Wd,range'->Wh,length_cons->Wi,flatMap_append->Wq,take_append_of_le_length->Wv,range->Ww,getElem_mem->Wy,append_nil->WB,mem_of_mem_take->WG,nil_append->WN,take_length->WU,mem_of_find?_eq_some->WY,pairwise_map->Xb,nodup_append->Xg,getElem?_concat_length->Xv,any_eq_false->Xw,mem_append->XA,length_nil->XB,filter_sublist->XI,ext_getElem?->XL,cons_append->X0,getElem?_set->Yu,Nodup->Yz,nodup_nil->YF,find?_eq_none->YL,nodup_cons->YN,mem_filter->YO,eq_nil_or_concat->YT,concat_eq_append->YU,filter_cons->Y2,append_inj'->Y3,mem_map_of_mem->Y9,take_left'->Zg,mem_range->Zs,idxOf_append->Zt,getElem?_eq_some_iff->ZC,mem_map->ZE,mem_cons->ZF,mem_iff_getElem?->ZI
open _root_.List.Nodup renaming length_le_of_subset->WL,sublist->Zj
open _root_.List.Pairwise renaming nil->Yv
open _root_.Nat renaming le_refl->Hi,zero_le->VG,le_trans->VK,zero_add->Wk,le_succ->WX,add_sub_cancel->Xc,le_of_lt->Yt,zero_mul->Zp
open _root_.Option renaming some->Bs,none->B0,map_some->WA,getD->Xl
open _root_.Option.some renaming injEq->VN,inj->Wn
variable {a0:Act}{t v:ByteArray}{c:Cm}{Q:Exit->Act->D0->Prop}{Bd R d tx:Int}{h:Int->Option Int}{e f:List (Int×Int)}{L T:List Au}{C E:List Nat}{l l':List Pr}{m:Mp}{i j k n q s:Nat}{A:Option Xo}{p:Pr}{x y:Sx}{N z:Sx->Int->Prop}{S u:Sx->Vx->Prop}{T':Tb}{α:Type}{s0 s1 s3 s4 s5:S2}{w w':D0}
set_option linter.all false
set_option maxRecDepth 100000
set_option maxHeartbeats 16000000
variable {own':Ah}{P:Av}{F:Nat->Prop}{g r o nodes B:Nat}{H:Hs}{now:Int}{safe:Bool}
section
variable {own:Ah}
def Py{x:ActX}{W:D0}(hp:Es w own P F g r o k H T now safe nodes B i x W)(ha:Ac H Bd)(aD:Bd<=999000)(hx:x.aX=0)(hm:H.m=T.length)(h7:T.length<7)(ar:∀c a d v W,Q (.panic c) (Xq a (Bs d) v) W->Q (.panic c) a W)
  (h0:Aw (pw g) s1 (pw i) (Wm eQ (Bc T x.tx)) s5 a0) (hQ:∀a' W',Aw (pw g) s1 (pw i) (Wm eQ (Bc T x.tx)) s5 a'->DA w own F g r o k H T now safe nodes B x W'->Q .normal a' W'):Yq Tryz.prog (wy FL) Q a0 W:=by
 have aE:=LH hp;obtain⟨F2,L,a8,ae,an,au⟩:=hp;obtain⟨V2,L2,S,aa,J,c0,c1,c2,_,c4,gl⟩:=L.cells;obtain⟨x0,x1,x2,x3,xl⟩:=acts _ _ _ ae;have al:=LH L;have ag:=LH a8;have HA:=LH ha;have HQ:=LH hQ;have HE:=LH (q8a L.hi Z0);have ay:=LH (Bf.a5 (safe:=safe) (nodes:=nodes) (now:=now) (H:=H) (T:=T) (x:=x) hx h7);have ao:L2.length=T.length:=by rw[<- aa,V0]
 obtain⟨A2,k2,a9,_,_⟩:=AM S.row;rw[a9]at c1;unfold Ro at HE;rw[show((H.m+1:Nat):Int)=(L2.length:Int)+1 by omega]at HE;have ai:=LH ao;clear x0 x1 x2 x3 xl c2 c4 a9;obtain⟨u,rfl⟩:=h0;clear L a8 ae an au hQ ha S aa J;unfold pw ET at *;simp only[wy,C6,CV,CW,GC,EY,FK,GD,FA,GE,FL,BO,Gz,Ip,cL,cR,cT,cE,cB,Tryz.f10,Xl];have ap:decide ((L2.length:Int)<7)=VD:=ZA Z0;have a3:(L2.length:Int)<7:=by omega
 have am:IntKind.i64.wrap ((L2.length:Int)+1)=(L2.length:Int)+1:=V4 _ ⟨Z0,Z0⟩;go_wp2_with fail;refine HE.o.mono ?_;rintro e R ⟨rfl,b3,a2,ac,a7⟩;obtain⟨Z,a6⟩:=al.o.bP (P':={P with gt:=Af P.gt (H.m+1) b3}) ac a7 rfl;have az:=LH Z;have av:=LH (ag.o.trans a6);obtain⟨V3,L3,C,Y,J,_,a1,af,_,_,M⟩:=Z.cells;have a4:L3.length=L2.length:=by rw[ai.o,<- Y,V0]
 obtain⟨A3,k3,I,_,_⟩:=AM C.row;rw[I]at a1;have E:=C.row;rw[I]at E;have ah:=LH E;have O:=LH C;have ax:=LH Y;have aj:=LH J;have aw:=LH I;clear Z a6 ac a7 HE al ag c0 c1 C Y J I E ap a3 gl;rw[<- a4]at am ⊢;have aA:L3.length<=7:=by omega
 clear a4 ai;go_upto_region 11 with (fail)
 refine nW ?_;refine CR (λW=>W.cell? ⟨g,1,B0⟩=Bs (ZU A3 L3.length k3)/\W.cell? ⟨g,2,B0⟩=Bs (Wm eQ now)) 12 ar (λh=>?_);have f:(λW=>W.cell? ⟨g,1,B0⟩=Bs (ZU A3 L3.length k3)/\W.cell? ⟨g,2,B0⟩=Bs (Wm eQ now)) R.drew:=⟨a1,af⟩
 refine nD 0 [12,13,14] h f ?_;refine nD 1 [2,3,4,11,12,13,14] h f ?_;refine nD 2 [3,4,11,12,13,14] h f ?_;refine nD 3 [4,11,12,13,14] h f ?_;refine nA 4 [11,12,13,14] rfl rfl h f (λw' U=>by obtain⟨p0,p1⟩:=U;go_simp;rfl) ?_;refine nD 5 [6,7,8,9,10,11,12,13,14] h f ?_;refine nD 6 [7,8,9,10,11,12,13,14] h f ?_;refine nD 7 [8,9,10,11,12,13,14] h f ?_;refine nA 8 [9,10,11,12,13,14] rfl rfl h f (λw' U=>by obtain⟨p0,p1⟩:=U;go_simp;rfl) ?_;refine nD 9 [10,11,12,13,14] h f ?_;have z:∀o q p,q<R.heap.size->(R.alloc o).cell? ⟨q,p,B0⟩=R.cell? ⟨q,p,B0⟩:=λo q p hq=>WT R o ⟨q,p,B0⟩ hq
 refine nG 10 (λN D=>?_);go_simp;refine D _ _ (λ_=>⟨(z _ _ _ M).trans f.1,(z _ _ _ M).trans f.2⟩) ?_;clear D N f z;refine nG 11 (λN D=>?_);refine SX R.drew R.heap.size rfl _ (.tmp 79) (.tmp 85) 29 rfl 0 52 _ 3 40 Tryz.underlying29 qd9 rfl Z2 _ _ _ #[ZU B0 0 0,Wm eQ now,Wm eQ (-1)] rfl ah.o 1 rfl _ rfl rfl (by simp[Value.oneCell']) Zx Z0 (VG _) ?_;intro V6 w6 t y;have l:Am R w6 V3.ownBlock V6.ownBlock:=by rw[aw.o];exact⟨⟨y.1.os,y.1.tape,y.1.output,y.1.size,y.1.block⟩,y.2⟩
 obtain⟨q1,q2,q3⟩:=O.o.dK l t;obtain⟨ad,a5⟩:=az.o.d8 q2 (λb hb e=>aj.o b (e.elim (λe=>eS (eR e.symm)) (λe=>eR e))) q1 (T':=T++[⟨[],now,-1⟩]) (by rw[List.map_append,ax.o];rfl) (λb hb=>(q3 b hb).imp (aj.o b) id);have HX:=LH (show DA w own F g r o k H T now safe nodes B x (w6.setCell ⟨g,1,B0⟩ V6)from⟨a2,_,_,_,_,B,ad,av.o.trans a5,ay.o,WX _⟩);have V:¬Bs g=V3.ownBlock:=λe=>Bh O.o.row O.o.al Z2 e.symm
 have ak:=LH (show(λW=>W.cell? ⟨g,1,B0⟩=Bs (ZU A3 L3.length k3)/\W.cell? ⟨g,2,B0⟩=Bs (Wm eQ now)) w6 from⟨(l.1.cell (p:=⟨g,1,B0⟩) M V).trans a1,(l.1.cell (p:=⟨g,2,B0⟩) M V).trans af⟩);have X:=l.1.al O.o.al V;have aC:=X.frozen 1;have aB:=X.lt;have y0:=ak.o.1;obtain⟨A7,c7,aq,_,_⟩:=AM t;subst aq;clear y l t ad a5 X q1 q2 q3;go_simp;refine D _ _ (λ_=>ak.o) ?_;clear D N;refine nG 12 (λN D=>?_);go_simp;refine D _ _ nZ ?_;clear D N;refine nG 13 (λN D=>?_);go_simp;refine D _ _ nZ ?_;clear D N;refine nG 14 (λN D=>?_);go_simp;refine D _ _ nZ ?_;clear D N;refine nX ?_;clear h;go_wp2_with fail;exact HQ.o _ _ (Aw.mk' _ rfl) HX.o
def RX{x:ActX}{W:D0}{M:Act}(E:Es w own P F g r o k H T now safe nodes B i x W)(J:Ac H R)(a1:R<=999000)(X:x.aX=0)(h7:¬T.length<7)(h8:T.length<=7)
  (h0:Aw (pw g) s1 (pw i) (Wm eQ (Bc T x.tx)) s5 M) (L:∀N O,Aw (pw g) s1 (pw i) (Wm eQ (Bc T x.tx)) s5 N->DA w own F g r o k H T now safe nodes B x O->Q .normal N O):Yq Tryz.prog (wy FL) Q M W:=by
 have a2:=LH E;obtain⟨F2,e,f,p,q,v⟩:=E;obtain⟨V2,z,d,l,t,c0,c1,c2,_,c4,gl⟩:=e.cells;obtain⟨x0,V,x2,U,S⟩:=acts _ _ _ p;have D:=LH e;have C:=LH f;have HA:=LH J;have HQ:=LH L;have Y:z.length=T.length:=by rw[<- l,V0]
 obtain⟨A2,k2,h,_,_⟩:=AM d.row;rw[h]at c1;clear x0 V x2 U S c2 c4 h;obtain⟨u,rfl⟩:=h0;clear e f p q v L J d l t;unfold pw ET at *;simp only[wy,C6,CV,CW,GC,EY,FK,GD,FA,GE,FL,BO,Gz,Ip,cL,cR,cT,cE,cB,Tryz.f10,Xl];have Z:decide ((z.length:Int)<7)=L1:=Z9 Z0;have I:¬(z.length:Int)<7:=by omega
 have HX:=LH (show DA w own F g r o k H T now safe nodes B x W from⟨own,P,F2,_,T,B,D.o,C.o,.full X h7,WX _⟩);go_wp2_with fail;exact HQ.o _ _ (Aw.mk' _ rfl) HX.o
def Pd(s0 s1 s3 s4 s5:S2)(d:Int)(a:Act):Prop:=∃u:Nat->S2,u 46=Wm eQ d/\a=ET s0 s1 s3 s4 s5 u
def Pd.mk'(t:Array S2)(h:({tmps:=t,defers:=[]} : Act)=ET s0 s1 s3 s4 s5 (λk=>lkF t.toList k))(e:lkF t.toList 46=Wm eQ d):Pd s0 s1 s3 s4 s5 d {tmps:=t,defers:=[]}:=⟨_,e,h⟩
def Io{Z:Nat}{x:ActX}{W:D0}{K:Act->D0->Prop}(hp:Es w own P F g r o k H T now safe nodes B Z x W)(ha:Ac H Bd)(q:Bd<=999000)(R:H.m=T.length)(S:T.length<=7)(Y:B<=1000)(U:1<=nodes/\nodes<=3)(E:∀c a d v W,Q (.panic c) (Xq a (Bs d) v) W->Q (.panic c) a W)
  (h0:Pd (pw g) s1 (pw Z) (Wm eQ (Bc T x.tx)) (ZV ⟨(AT x.a).toArray⟩) x.aX a0) (hQ:∀l p,Aw (pw g) s1 (pw Z) (Wm eQ (Bc T x.tx)) (ZV ⟨(AT x.a).toArray⟩) l->DA w own F g r o k H T now safe nodes B x p->K l p):Yq Tryz.prog BO (Exit.then K Q) a0 W:=by
 obtain⟨u,hu,rfl⟩:=h0;have f:=LH hp;have D:=LH ha;have C:=LH hQ;have a1:=LH (λk (h:x.aX=k)=>h);generalize J:x.aX=z at *;have e:=LH J;clear hp ha hQ J a1;unfold ET;rw[hu];simp only[wy,C6,CV,CW,GC,EY,FK,GD,FA,GE,FL,BO,Gz,Ip,cL,cR,cT,cE,cB,Tryz.f10,Xl];by_cases e0:z=0
 ·subst e0;go_upto_if 47 with (fail)
  refine Xn rfl ?_;by_cases L:T.length<7;refine Py f.o D.o q e.o R L (λc a d v W h=>E c a d v W h) ?_ (λl p y t=>C.o l p y t);exact Aw.mk' _ rfl;refine RX f.o D.o q e.o L S ?_ (λl p y t=>C.o l p y t);exact Aw.mk' _ rfl
 by_cases e1:z=1
 ·subst e1;go_upto_if 89 with (fail)
  refine Xn rfl ?_;refine Vg (s5:=Yl) f.o D.o q e.o R S Y (λc a d v W h=>E c a d v W h) ?_ (λl p y t=>C.o l p y t);exact Aw.mk' _ rfl
 by_cases e2:z=2
 ·subst e2;go_upto_if 131 with (fail)
  refine Xn rfl ?_;go_upto_if 131 with (fail)
  refine Xn rfl ?_;refine Oe (s5:=Yl) f.o D.o q (eR e.o) R S Y (λc a d v W h=>E c a d v W h) ?_ (λl p y t=>C.o l p y t);exact Aw.mk' _ rfl
 by_cases e3:z=3
 ·subst e3;go_upto_if 131 with (fail)
  refine wp_cond_false rfl ?_;go_upto_if 131 with (fail)
  refine Xn rfl ?_;refine Oe (s5:=Yl) f.o D.o q (eS e.o) R S Y (λc a d v W h=>E c a d v W h) ?_ (λl p y t=>C.o l p y t);exact Aw.mk' _ rfl
 by_cases e4:z=4
 ·subst e4;go_upto_if 186 with (fail)
  refine Xn rfl ?_;refine Vi f.o D.o q e.o ?_ (λl p y t=>C.o l p y t);exact Aw.mk' _ rfl
 by_cases e5:z=5
 ·subst e5;go_upto_if 194 with (fail)
  refine Xn rfl ?_;by_cases h4:x.a.tmod 4=0;refine Px f.o D.o q e.o h4 ?_ (λl p y t=>C.o l p y t);exact Aw.mk' _ rfl;refine Pw f.o D.o q e.o h4 ?_ (λl p y t=>C.o l p y t);exact Aw.mk' _ rfl
 by_cases e6:z=6
 ·subst e6;go_upto_if 206 with (fail)
  refine Xn rfl ?_;go_upto_if 206 with (fail)
  refine Xn rfl ?_;by_cases I:0<H.net.l.length;refine Jr f.o D.o q e.o I ?_ (λl p y t=>C.o l p y t);exact Aw.mk' _ rfl;refine q9w f.o D.o q (by rw[e.o];omega) I ?_ (λl p y t=>C.o l p y t);exact Aw.mk' _ rfl
 by_cases e7:z=7
 ·subst e7;go_upto_if 206 with (fail)
  refine wp_cond_false rfl ?_;go_upto_if 206 with (fail)
  refine Xn rfl ?_;go_upto_if 206 with (fail)
  refine Xn rfl ?_;by_cases I:0<H.net.l.length;refine RW f.o D.o q e.o I ?_ (λl p y t=>C.o l p y t);exact Aw.mk' _ rfl;refine q9w f.o D.o q (by rw[e.o];omega) I ?_ (λl p y t=>C.o l p y t);exact Aw.mk' _ rfl
 by_cases e8:z=8
 ·subst e8;go_upto_if 206 with (fail)
  refine wp_cond_false rfl ?_;go_upto_if 206 with (fail)
  refine wp_cond_false rfl ?_;go_upto_if 206 with (fail)
  refine Xn rfl ?_;by_cases I:0<H.net.l.length;refine Pv f.o D.o q e.o I ?_ (λl p y t=>C.o l p y t);exact Aw.mk' _ rfl;refine q9w f.o D.o q (by rw[e.o];omega) I ?_ (λl p y t=>C.o l p y t);exact Aw.mk' _ rfl
 by_cases e9:z=9
 ·subst e9;go_upto_if 245 with (fail)
  refine Xn rfl ?_;refine RV f.o D.o q e.o ?_ (λl p y t=>C.o l p y t);exact Aw.mk' _ rfl
 by_cases O:z=10
 ·subst O;go_upto_if 252 with (fail)
  refine Xn rfl ?_;refine RY f.o D.o q e.o U (λc a d v W h=>E c a d v W h) ?_ (λl p y t=>C.o l p y t);exact Aw.mk' _ rfl
 by_cases N:z=11
 ·subst N;go_upto_if 266 with (fail)
  refine Xn rfl ?_;refine Vh f.o D.o q e.o ?_ (λl p y t=>C.o l p y t);exact Aw.mk' _ rfl
 by_cases M:z=12
 ·subst M;go_upto_if 273 with (fail)
  refine Xn rfl ?_;refine RZ f.o D.o q e.o ?_ (λl p y t=>C.o l p y t);exact Aw.mk' _ rfl
 have b0:(z == 0)=L1:=Z6 e0;have b1:(z == 1)=L1:=Z6 e1;have b2:(z == 2)=L1:=Z6 e2;have b3:(z == 3)=L1:=Z6 e3;have b4:(z == 4)=L1:=Z6 e4;have b5:(z == 5)=L1:=Z6 e5;have b6:(z == 6)=L1:=Z6 e6;have b7:(z == 7)=L1:=Z6 e7;have b8:(z == 8)=L1:=Z6 e8;have b9:(z == 9)=L1:=Z6 e9;have a4:(z == 10)=L1:=Z6 O;have a3:(z == 11)=L1:=Z6 N;have a2:(z == 12)=L1:=Z6 M;have HX:=LH (show DA w own F g r o k H T now safe nodes B x W from by
  obtain⟨F2,X,V,_,_,_⟩:=f.o;exact⟨own,P,F2,H,T,B,X,V,.other (by rw[e.o];omega),WX _⟩)
 go_wp2_with fail;refine C.o _ _ ?_ HX.o;exact Aw.mk' _ rfl
def LR(H:Hs)(now:Int)(i:Nat)(T:List Au):List Au:=T.mapIdx λj t=>if j<i then DI H now j t else t
def qcn(H:Hs)(now:Int)(i:Nat)(T:List Au):(LR H now i T).length=T.length:=by unfold LR;simp
def Tx(H:Hs)(now:Int)(T:List Au):LR H now 0 T=T:=by unfold LR;apply XL;intro j;rw[Wd];cases T[j]?<;>simp
def Ng(H:Hs)(now:Int)(T:List Au):LR H now T.length T=Bq H now T:=by
 unfold LR Bq;apply XL;intro j;rw[Wd,Wd];cases d:T[j]? with
 |none=>rfl
 |some t=>
  obtain⟨hl,_⟩:=ZC.1 d;simp[hl]
def QB{H:Hs}{now:Int}{t:Au}(h:(LR H now i T)[i]? = Bs t):T[i]? = Bs t:=by
 unfold LR at h;rw[Wd]at h;cases d:T[i]? with
 |none=>rw[d]at h;cases h
 |some u=>rw[d]at h;simpa using h
def GR{H:Hs}{now:Int}{t:Au}(h:T[i]? = Bs t)(l:¬(t.a8<0/\H.aa (i+1)=3)):LR H now (i+1) T=LR H now i T:=by
 unfold LR;apply XL;intro j;rw[Wd,Wd];cases d:T[j]? with
 |none=>rfl
 |some u=>
  simp only[WA,VN];by_cases e:j=i;subst e;rw[h]at d;injection d with d;subst d;rw[Z8 Z0,Z7 Z0];exact Z7 l;by_cases f:j<i;rw[Z8 Z0,Z8 f];rw[Z7 Z0,Z7 f]
def Nf{H:Hs}{now:Int}{t:Au}(h:T[i]? = Bs t)(f:t.a8<0/\H.aa (i+1)=3):(LR H now i T).set i {t with a8:=now} = LR H now (i+1) T:=by
 obtain⟨hl,_⟩:=ZC.1 h;apply XL;intro j;rw[Yu,qcn];unfold LR;rw[Wd,Wd];by_cases e:i=j;subst e;rw[Z8 rfl,Z8 hl,h];simp only[WA];rw[Z8 Z0];exact congrArg Bs (Z8 f).symm;rw[Z7 e];cases l:T[j]? with
 |none=>rfl
 |some u=>
  simp only[WA,VN];by_cases d:j<i;rw[Z8 d,Z8 Z0];rw[Z7 d,Z7 Z0]
def Pf(W:D0)(own:Ah)(P:Av)(F:Nat->Prop)(g r o k:Nat)(H:Hs)(T:List Au)(now:Int)(safe:Bool)(nodes:Nat)(B:Nat)(v:S2)(wr:D0):Prop:=
 ∃(i:Nat)(d:Nat->Prop),v=Wm eQ i/\i<=T.length/\Dg wr own P d g r o k H (LR H now i T) now safe nodes B/\Hh W own F wr own d
def MR(c:Dg w own P F g r o k H T now safe nodes B)(hm:H.m<=1000)(h7:T.length<=7)(a4:∀c a d v w,Q (.panic c) (Xq a (Bs d) v) w->Q (.panic c) a w)
  (h0:Aw (pw g) s1 s3 s4 s5 a0) (hQ:∀a' W' F',a'.defers=[]->Dg W' own P F' g r o k H (Bq H now T) now safe nodes B->Hh w own F W' own F'->Q .normal a' W'):Yq Tryz.prog (cR Gz) Q a0 w:=by
 obtain⟨u,rfl⟩:=h0;have HC:=LH c;have HQ:=LH hQ;clear c hQ;unfold ET pw;simp only[wy,C6,CV,CW,GC,EY,FK,GD,FA,GE,FL,BO,Gz,Ip,cL,cR,cT,cE,cB,Tryz.f10,Xl];go_wp2_with fail;go_loopw [14] (Pf w own P F g r o k H T now safe nodes B) (λv _=>7-(intOf v).toNat)
 case atStart=>exact⟨0,F,rfl,VG _,by rw[Tx];exact HC.o,Hh.refl _ _ _⟩
 obtain⟨i,F1,rfl,hi,t,J⟩:=hrel;obtain⟨V3,N,l,q,M,Z,c1,c2,_,_,ah⟩:=t.cells;have ab:N.length=T.length:=by rw[<- qcn H now i T,<- q,V0]
 obtain⟨A0,k0,L,_,_⟩:=AM l.row;have D:=LH t;have C:=LH J;by_cases ad:(i:Int)<N.length
 ·have S:i<N.length:=by omega
  obtain⟨y,hy⟩:∃y,N[i]? = Bs y:=⟨_,K0 S⟩
  obtain⟨Y,cap,z,V,ae⟩:=q5w l.row (show 0<N.length by omega);obtain⟨_,d2⟩:=Ib l hy z;rw[z]at c1;have X:T[i]? = Bs y.t:=QB (by rw[<- q,VQ,hy];rfl);have O:=LH X;have R:=LH (q45 t.hi hm ((i:Int)+1));have a9:=LH l;have a8:=LH q;have a1:=LH M;have HY:=LH hy;have a7:=LH z;have ac:IntKind.i64.wrap ((i:Int)+1)=(i:Int)+1:=V4 _ ⟨Z0,Z0⟩;have af:=V (i*3+2);unfold pw at R Z;clear l q M hy z L t J X V;by_cases x:y.t.a8<0
  ·have hd:decide (y.t.a8<0)=VD:=ZA x;by_cases p:H.aa ((i:Int)+1)=3
   ·have HX:=LH (show Pf w own P F g r o k H T now safe nodes B (Wm eQ ((i+1:Nat):Int)) (wr.setCell ⟨Y,i*3+2,B0⟩ (Wm eQ now)).drew from by
     obtain⟨q1,q2,q3⟩:=a9.o.setTo HY.o a7.o now;obtain⟨a6,a3⟩:=D.o.d8 (T':=LR H now (i+1) T) q2 (λb hb e=>a1.o b (eS (eR e.symm))) q1 (by rw[List.map_set,a8.o];exact Nf O.o ⟨x,p⟩) (λb hb=>eR (a1.o b (q3 b hb)));obtain⟨a5,a2⟩:=a6.below (VC (wr.setCell ⟨Y,i*3+2,B0⟩ (Wm eQ now)).heap.size (wr.setCell ⟨Y,i*3+2,B0⟩ (Wm eQ now))).drew;exact⟨i+1,_,rfl,Z0,a5,C.o.trans (a3.trans a2)⟩)
    rw[p]at R;clear p;go_wp2_with fail;refine R.o.mono ?_;rintro e w2 ⟨rfl,rfl⟩;clear R Z;go_upto_region 52 with (fail)
    refine nW ?_;refine CR (λw=>w.cell? ⟨g,1,B0⟩=Bs (ZU (Bs ⟨Y,0,B0⟩) N.length cap)/\w.cell? ⟨g,2,B0⟩=Bs (Wm eQ now)) 9 a4 (λf=>?_);have h:(λw=>w.cell? ⟨g,1,B0⟩=Bs (ZU (Bs ⟨Y,0,B0⟩) N.length cap)/\w.cell? ⟨g,2,B0⟩=Bs (Wm eQ now)) wr.drew:=⟨c1,c2⟩
    refine nD 0 [1,2,3,9,10,11] f h ?_;refine nD 1 [2,3,9,10,11] f h ?_;refine nD 2 [3,9,10,11] f h ?_;refine nA 3 [9,10,11] rfl rfl f h (λw' I=>by obtain⟨p0,p1⟩:=I;go_simp;rfl) ?_;refine nD 4 [9,10,11] f h ?_;refine nD 5 [6,7,8,9,10,11] f h ?_;refine nD 6 [7,8,9,10,11] f h ?_;refine nD 7 [8,9,10,11] f h ?_;refine nA 8 [9,10,11] rfl rfl f h (λw' I=>by obtain⟨p0,p1⟩:=I;go_simp;rfl) ?_;clear h;refine nG 9 (λKK E=>?_);go_simp;refine E _ _ nZ ?_;clear E KK;refine nG 10 (λKK E=>?_);go_simp;refine E _ _ nZ ?_;clear E KK;refine nG 11 (λKK E=>?_);go_simp;refine E _ _ nZ ?_;clear E KK;refine nX ?_;clear f;go_wp2_with fail;go_roundw;exact HX.o;simp[intOf];omega
   have HX:=LH (show Pf w own P F g r o k H T now safe nodes B (Wm eQ ((i+1:Nat):Int)) wr from⟨i+1,F1,rfl,Z0,by rw[GR O.o (λe=>p e.2)];exact D.o,C.o⟩);have ag:(H.aa ((i:Int)+1) == 3)=L1:=Z6 p;go_wp2_with fail;refine R.o.mono ?_;rintro e w2 ⟨rfl,rfl⟩;clear R Z;go_wp2_with fail;go_roundw;exact HX.o;simp[intOf];omega
  have HX:=LH (show Pf w own P F g r o k H T now safe nodes B (Wm eQ ((i+1:Nat):Int)) wr from⟨i+1,F1,rfl,Z0,by rw[GR O.o (λe=>x e.1)];exact D.o,C.o⟩);have hd:decide (y.t.a8<0)=L1:=Z9 x;clear R Z;go_wp2_with fail;go_roundw;exact HX.o;simp[intOf];omega
 have U:i=T.length:=by omega
 have aa:=LH (show Dg wr own P F1 g r o k H (Bq H now T) now safe nodes B from by rw[<- Ng,<- U];exact D.o);rw[L]at c1;clear l q M L t J U Z c2;go_wp2_with fail;exact HQ.o _ _ _ rfl aa.o C.o
def qal(c:Dg w own P F g r o k H T now safe nodes B)(ha:Ac H Bd)(a9:Bd<=999000)(hm:H.m=T.length)(h7:T.length<=7)(az:0<=now)(ay:now<=1000000)(hB:B<=1000)(aj:1<=nodes/\nodes<=3)(x:ActX)(hx:x.val.size<=VY) :
  VX Tryz.prog 10 #[pw g,N0 x] w (SyP w own F g r o k safe nodes λH' T' now' B'=>now'=now+1/\B'<=B+1/\∃T1,Bf safe nodes (now+1) x H T H' T1/\T'=Bq H' (now+1) T1):=by
 have ad:=LH (Es.start c x (now+1));obtain⟨V9,L9,v,hT,hF,_,_,c2,_,_,gl⟩:=c.cells;have ac:(w.alloc (eT (Fa x) 34)).cell? ⟨g,2,B0⟩=Bs (Wm eQ now):=(WT w _ ⟨g,2,B0⟩ gl).trans c2;have aa:g<(w.alloc (eT (Fa x) 34)).heap.size:=by simp;omega
 have f2:(w.alloc (eT (Fa x) 34)).frozen? ⟨g,2,B0⟩=L1:=(v.al.alloc _).frozen 2;have ah:IntKind.i64.wrap (now+1)=now+1:=V4 _ ⟨Z0,Z0⟩;have HA:=LH ha;clear c v hT hF c2 ha;unfold N0;unfold Fa at ac aa f2;unfold pw at *;go_enter Tryz.func10,Tryz.ntmps10;go_upto_region 3 with (fail)
 clear ac aa f2 ah;generalize a4:World.alloc _ _=M;have q:Es w own P F g r o k H T (now+1) safe nodes B w.heap.size x M:=by rw[<- a4];exact ad.o
 clear ad a4;generalize X:w.heap.size=S at *;have aA:=LH X;clear X;have N:=LH q;obtain⟨F1,a8,an,J,_,_⟩:=q;obtain⟨V,L,v,hT,hF,c0,c1,c2,c3,c4,gl⟩:=a8.cells;obtain⟨A0,k0,a5,_,_⟩:=AM v.row;have z:T.length=L.length:=by rw[<- hT,V0]
 have ao:L.length<=7:=by omega
 rw[a5]at c1;have HL:=LH z;obtain⟨a0,a1,a2,a3,al⟩:=acts _ _ _ J;have HK:=LH (acts _ _ _ J);clear a8 an J v hT hF c0 c2 c3 c4 a5 a0 a2 a3;go_upto_if 27 with (fail)
 go_cut [4] (λs4 wx=>s4=Wm eQ (Bc T x.tx)/\Es w own P F g r o k H T (now+1) safe nodes B S x wx)
 case first=>
  by_cases hl:L.length=0
  ·have t:∀(inst:Decidable (0<L.length)),@decide (0<L.length) inst=L1:=λ_=>Z9 Z0
   simp only[t];have HX:=LH (show Es w own P F g r o k H T (now+1) safe nodes B S x M from N.o);have av:=LH (idT_0 (tx:=x.tx) (z.trans hl));clear hl;go_wp2_with fail;go_meet;exact⟨by rw[av.o],HX.o⟩
  have t:∀(inst:Decidable (0<L.length)),@decide (0<L.length) inst=VD:=λ_=>ZA Z0
  simp only[t];have au:=LH (idT_1 (tx:=x.tx) (show T.length≠0 by omega));have ax:=On x.tx (n:=L.length) Z0;have aw:IntKind.i64.wrap (1+(AZ x.tx L.length:Int))=1+(AZ x.tx L.length:Int):=V4 _ ⟨Z0,Z0⟩;have ar:=LH (q4j x.tx L.length Z0 Z0 M.drew);have HX:=LH (N.o.below (VC M.heap.size M).drew);clear hl t;go_upto_region 4 with (fail)
  refine nW ?_;refine CR (λW=>W.cell? ⟨S,1,B0⟩=Bs (Wm eQ x.tx)/\W.cell? ⟨g,1,B0⟩=Bs (ZU A0 L.length k0)) 7 (λ_ _ _ _ _ h=>h) (λf=>?_);have d:M.drew.cell? ⟨S,1,B0⟩=Bs (Wm eQ x.tx)/\M.drew.cell? ⟨g,1,B0⟩=Bs (ZU A0 L.length k0):=⟨a1,c1⟩
  refine nD 0 [1,7,8,9] f d ?_;refine nA 1 [7,8,9] rfl rfl f d (λw' p=>by obtain⟨R,O⟩:=p;go_simp;rfl) ?_;refine nD 2 [3,4,5,6,7,8,9] f d ?_;refine nD 3 [4,5,6,7,8,9] f d ?_;refine nD 4 [5,6,7,8,9] f d ?_;refine nA 5 [6,7,8,9] rfl rfl f d (λw' p=>by obtain⟨R,O⟩:=p;go_simp;rfl) ?_;refine nD 6 [7,8,9] f d ?_;clear d;refine nG 7 (λu l=>?_);go_simp;refine ar.o.mono ?_;rintro e w2 ⟨rfl,rfl⟩;go_simp;refine l _ _ nZ ?_;clear l u;refine nG 8 (λu l=>?_);go_simp;refine l _ _ nZ ?_;clear l u;refine nG 9 (λu l=>?_);go_simp;refine l _ _ nZ ?_;clear l u;refine nX ?_;clear f;go_wp2_with fail;go_meet;exact⟨by rw[au.o,z],HX.o⟩
 obtain⟨rfl,q⟩:=hcut;have D:=LH (q.below (VC wc.heap.size wc).drew);obtain⟨F2,C,E,y,_,_⟩:=q;obtain⟨b0,b1,b2,b3,bl⟩:=acts _ _ _ y;obtain⟨n0,nq,ag,af⟩:=C.nm;have n1:=nq _ _ (keyT_at x.a);have ak:=On x.a (n:=4) Z0;have ae:=LH (show VX Tryz.prog 13 #[Wm eQ x.a,Wm eQ 4] wc.drew λe w'=>e=ZY (Wm eQ (AZ x.a 4))/\wc.drew=w' from q4j x.a 4 Z0 Z0 wc.drew);clear C E y b0 b1 b3 nq z ao HL HK N c1 a1 al gl;generalize AZ x.a 4=pk at *;go_upto_region 5 with (fail)
 refine nW ?_;refine CR (λW=>W.cell? ⟨S,2,B0⟩=Bs (Wm eQ x.a)/\W.cell? ⟨0,0,B0⟩=Bs (ZU (Bs ⟨r,o,B0⟩) 4 k)/\W.cell? ⟨r,o+pk,B0⟩=Bs (ZV ⟨(AT x.a).toArray⟩)) 6 (λ_ _ _ _ _ h=>h) (λf=>?_);have d:wc.drew.cell? ⟨S,2,B0⟩=Bs (Wm eQ x.a)/\wc.drew.cell? ⟨0,0,B0⟩=Bs (ZU (Bs ⟨r,o,B0⟩) 4 k)/\wc.drew.cell? ⟨r,o+pk,B0⟩=Bs (ZV ⟨(AT x.a).toArray⟩):=⟨b2,n0,n1⟩
 refine nA 0 [6,7,8] rfl rfl f d (λw' p=>by obtain⟨R,O,p2⟩:=p;go_simp;rfl) ?_;refine nD 1 [2,5,6,7,8] f d ?_;refine nA 2 [5,6,7,8] rfl rfl f d (λw' p=>by obtain⟨R,O,p2⟩:=p;go_simp;rfl) ?_;refine nA 3 [4,5,6,7,8] rfl rfl f d (λw' p=>by obtain⟨R,O,p2⟩:=p;go_simp;rfl) ?_;refine nD 4 [5,6,7,8] f d ?_;refine nG 5 (λu l=>?_);go_simp;refine ae.o.mono ?_;rintro e w2 ⟨rfl,rfl⟩;go_simp;refine l _ _ (λ_=>d) ?_;clear l u;obtain⟨R,O,p2⟩:=d;refine nG 6 (λu l=>?_);go_simp;rw[Z8 (show(pk:Int)<4 by omega)];go_simp;refine l _ _ nZ ?_;clear l u;refine nG 7 (λu l=>?_);go_simp;refine l _ _ nZ ?_;clear l u;refine nG 8 (λu l=>?_);go_simp;refine l _ _ nZ ?_;clear l u;refine nX ?_;clear f R O p2 n0 n1 ak ae ag af;have q:=D.o;generalize World.drew _=W2 at *;clear D;have D:=LH q;obtain⟨F2,C,E,y,ai,ap⟩:=q;obtain⟨b0,b1,b2,b3,bl⟩:=acts _ _ _ y;clear C E y b1 b2 b3 ai ap;go_upto_block 0 with (fail)
 refine Io (s1:=N0 x) D.o HA.o a9 hm h7 hB aj ?_ ?_ ?_;exact λ_ _ _ _ _ h=>h
 unfold pw N0;exact Pd.mk' _ rfl rfl;rintro a' W' hf ⟨U,P3,F3,H3,T3,B3,a7,Z,I,aq⟩;have am:=I.cnt HA.o a9 hm h7
 apply_assumption
 refine MR a7 Z0 am.2.1 ?_ hf (λa2 W2 F4 t a6 Y=>?_);exact λ_ _ _ _ _ h=>h
 have HX:=LH (show SyP w own F g r o k safe nodes (λH' T' now' B'=>now'=now+1/\B'<=B+1/\∃T1,Bf safe nodes (now+1) x H T H' T1/\T'=Bq H' (now+1) T1) (ZY (ZZ #[])) W2 from⟨rfl,U,P3,F4,H3,_,now+1,B3,a6,Z.trans Y,rfl,aq,T3,I,rfl⟩);clear a7 Z I a6 Y hf;exact bodyPost_end (results_none rfl a2.tmps Tryz.prog W2) t HX.o
end
def q50{m:Int}(e:h tx=Bs m):AE h tx=m:=by simp[AE,e]
def q8r{mode:Int}(l:Bt mode)(d:mode<=AE h tx):Az h tx mode=h:=by
 funext o;unfold Az Bj;split;rename_i e;subst e;cases f:h o with
 |none=>unfold AE at d;rw[f]at d;unfold Bt at l;simp at d;omega
 |some m=>rw[q50 f]at d ⊢;rw[Int.max_eq_left d]
 rfl
def TN{mode o:Int}(f:Bt mode)(p:∀o m,h o=Bs m->Bt m)(e:Az h tx mode o=Bs 2):(o=tx/\(mode=2\/h tx=Bs 2))\/(o≠tx/\h o=Bs 2):=by
 unfold Az Bj at e;split at e;rename_i e1;injection e with e;refine eR ⟨e1,?_⟩;unfold Bt at f;obtain l|l:=f;right;unfold AE at e;cases d:h tx with
 |none=>rw[d]at e;simp at e;omega
 |some m=>
  rw[d]at e;have:=p _ _ d;simp at e;have:m=2:=by unfold Bt at this;omega
  rw[this]
 exact eR l;rename_i e1;exact eS ⟨e1,e⟩
structure DV(h:Int->Option Int):Prop where
 cS:∀o,h o=Bs 2->∀p m,h p=Bs m->p=o
 hm:∀o m,h o=Bs m->Bt m
def q4d(h:Int->Option Int)(tx mode:Int):Az h tx mode tx=Bs (max (AE h tx) mode):=by unfold Az Bj;rw[Z8 rfl]
def UX{o:Int}(e:o≠tx)(mode:Int):Az h tx mode o=h o:=by unfold Az Bj;rw[Z7 e]
def DV.dD(r:DV h)(o:Int):AE h o=0\/AE h o=1\/AE h o=2:=by
 unfold AE;cases e:h o with
 |none=>exact eR rfl
 |some m=>exact eS (r.hm o m e)
def DV.dN(r:DV h){mode:Int}(v:Bt mode){left:List (Int×Int)}(q:Cx h tx mode left):DV (Az h tx mode):=by obtain q|⟨q,_⟩:=q;rw[q8r v q];exact r;refine⟨λo f p m t=>?_,λo m f=>?_⟩;obtain⟨rfl,l⟩|⟨u,l⟩:=TN v r.hm f;refine Wc (λd=>?_);rw[UX d]at t;obtain l|l:=l;have:=q p m t d;simp[AN,l]at this;exact d (r.cS o l p m t);have:=q o 2 l u;simp[AN]at this;by_cases e:o=tx;subst e;rw[q4d]at f;injection f with f;have:=r.dD o;unfold Bt at *;omega;rw[UX e]at f;exact r.hm o m f
def QV(r:DV h){mode o m:Int}(y:Bt mode)(e:o≠tx){left:List (Int×Int)}(d:Cx (Az h tx mode) o m left):Cx h o m left:=by
 have e1:AE (Az h tx mode) o=AE h o:=by unfold AE;rw[UX e]
 obtain d|⟨d,v⟩:=d;exact eR (by rw[<- e1];exact d);refine eS ⟨λp q t f=>?_,v⟩;by_cases u:p=tx;subst u;have l:=d p _ (q4d h p mode) f;have x:AE h p=q:=q50 t;have z:=r.hm p q t;rw[x]at l;unfold AN at l ⊢;simp only[Bool.or_eq_false_iff,decide_eq_false_iff_not]at l ⊢;unfold Bt at *;exact⟨Z0,l.2⟩;exact d p q (by rw[UX u];exact t) f
def DX(h:Int->Option Int)(l:List (Int×Int)):Prop:=∀a w b,l=a++w::b->¬Cx h w.1 w.2 a
def DX.nil(h:Int->Option Int):DX h []:=λa w b e=>by simp at e
def DX.cR{l:List (Int×Int)}{w:Int×Int}(p:DX h l)(f:¬Cx h w.1 w.2 l):DX h (l++[w]):=λa v b e=>by
 obtain rfl|⟨q,x,rfl⟩:=YT b;have:=Y3 e rfl;obtain⟨rfl,d⟩:=this;injection d with d;subst d;exact f;rw[YU,<- X0,<- List.append_assoc]at e;have:=Y3 e rfl;exact p a v q this.1
def DX.dN(r:DV h){mode:Int}(f:Bt mode){l:List (Int×Int)}(q:DX h l)(d:∀w∈l,w.1≠tx):DX (Az h tx mode) l:=λa w b e p=>
 q a w b e (QV r f (d w (by rw[e];simp)) p)
structure RgP(h:Int->Option Int)(l:List (Int×Int))(R:(Int->Option Int)×List (Int×Int)×List (Int×Int)):Prop where
 eF:DV R.1
 aH:R.2.1.Pairwise (·.1 < ·.1)
 al:DX R.1 R.2.1
 up:∀o m,h o=Bs m->∃m',R.1 o=Bs m'/\m<=m'
 all:∀w∈l,w∈R.2.1\/(w∈R.2.2/\∃m',R.1 w.1=Bs m'/\w.2<=m')
 e0:∀w∈R.2.1,w∈l
 gsub:∀w∈R.2.2,w∈l
 disj:∀w∈R.2.1,∀g∈R.2.2,w.1≠g.1
 cq:∀o m,R.1 o=Bs m->h o=Bs m\/∃g∈R.2.2,g.1=o
def Gg{a b:List (Int×Int)}{w:Int×Int}(h:(a++w::b).Pairwise (·.1 < ·.1)){v:Int×Int}(d:v∈a++b):v.1≠w.1:=by have e:=List.pairwise_append.1 h;obtain d|d:=XA.1 d;have:=e.2.2 v d w VB;omega;have:=(List.pairwise_cons.1 e.2.1).1 v d;omega
def q7r:∀(ws left:List (Int×Int)) (h:Int->Option Int),DV h->(∀w∈left++ws,Bt w.2)->(left++ws).Pairwise (·.1 < ·.1)->DX h left->RgP h (left++ws) (DP h left ws)
 |[],left,h,r,z,hs,C=>by
  rw[q39];rw[WB]at *;exact⟨r,hs,C,λo m p=>⟨m,p,WH _⟩,λw u=>eR u,λw u=>u,λw u=>(nomatch u),λw _ g l=>(nomatch l),λo m p=>eR p⟩
 |w::ws,left,h,r,z,hs,C=>by
  have t:=z w Z3;have x:∀v∈left++ws,v.1≠w.1:=λv d=>Gg hs d
  have I:(left++ws).Pairwise (·.1 < ·.1):=hs.sublist Z3;unfold DP;by_cases e:Ai h w.1 w.2 left=VD;rw[Z8 e];have l:=r.dN t (SU.1 e);have f:=q7r ws left (Az h w.1 w.2) l (λv d=>z v (by simp at *;obtain h|h:=d;exact eR h;exact eS (eS h))) I (C.dN r t (λv d=>x v (by simp[d])));obtain⟨L,y,J⟩:=f.up w.1 _ (q4d h w.1 w.2);refine⟨f.eF,f.aH,f.al,λo m p=>?_,λv d=>?_,λv d=>?_,λv d=>?_,λv d g l=>?_,λo m p=>?_⟩;by_cases q:o=w.1;subst q;exact⟨L,y,by rw[q50 p]at J;omega⟩;exact f.up o m (by rw[UX q];exact p);by_cases q:v=w;subst q;exact eS ⟨VB,L,y,Z0⟩;have E:v∈left++ws:=by simp at *;obtain h|h|h:=d;exact eR h;exact ZB h q;exact eS h
  obtain h|⟨h,N⟩:=f.all v E;exact eR h;exact eS ⟨VE _ h,N⟩;have:=f.e0 v d;simp at *;obtain h|h:=this;exact eR h;exact eS (eS h);obtain rfl|d:=ZF.1 d;simp;have:=f.gsub v d;simp at *;obtain h|h:=this;exact eR h;exact eS (eS h);obtain rfl|l:=ZF.1 l;exact x v (f.e0 v d);exact f.disj v d g l;obtain D|⟨g,l,D⟩:=f.cq o m p;by_cases q:o=w.1;exact eS ⟨w,VB,q.symm⟩;rw[UX q]at D;exact eR D;exact eS ⟨g,VE _ l,D⟩;rw[Z7 e];have f:=q7r ws (left++[w]) h r (Z6 z) (Z6 hs) (C.cR (λM=>e (SU.2 M)));have O:left++[w]++ws=left++w::ws:=by simp
  rw[O]at f;exact f
structure GK(k:Kx):Prop where
 eF:DV k.h
 wm:∀w∈k.ws,Bt w.2
 aH:k.ws.Pairwise (·.1 < ·.1)
 al:DX k.h k.ws
def GK.zero:GK k0:=⟨⟨λ_ h=>(nomatch h),λ_ _ h=>(nomatch h)⟩,λ_ h=>(nomatch h),Yv,DX.nil _⟩
def DV.off(r:DV h)(tx:Int):DV (Bj h tx B0):=by
 have d:∀o m,Bj h tx B0 o=Bs m->h o=Bs m:=λo m e=>by
  unfold Bj at e;split at e;cases e;exact e
 exact⟨λo f p m l=>r.cS o (d _ _ f) p m (d _ _ l),λo m f=>r.hm o m (d _ _ f)⟩
def q93{k:Kx}(g:GK k)(tx:Int):RgP (Bj k.h tx B0) (AG k.ws tx) ((Co k tx).1.h,(Co k tx).1.ws,(Co k tx).2):=by have h:=q7r (AG k.ws tx) [] (Bj k.h tx B0) (g.eF.off tx) (λw d=>g.wm w (YO.1 d).1) (qar g.aH tx) (DX.nil _);exact h
def GK.bF{k:Kx}(g:GK k)(tx:Int):GK (Co k tx).1:=by have h:=q93 g tx;exact⟨h.eF,λw d=>g.wm w (YO.1 (h.e0 w d)).1,h.aH,h.al⟩
def q6l{d:List (Int×Int)}{w:Int×Int} : w∈AG d tx↔w∈d/\w.1≠tx:=by unfold AG;rw[YO];simp
def SJ{k:Kx}(g:GK k)(tx:Int):(Co k tx).1.h tx=B0/\∀w∈(Co k tx).1.ws,w.1≠tx:=by
 have h:=q93 g tx;refine⟨?_,λw f=>(q6l.1 (h.e0 w f)).2⟩;cases e:(Co k tx).1.h tx with
 |none=>rfl
 |some m=>
  obtain d|⟨p,l,d⟩:=h.cq tx m e;unfold Bj at d;rw[Z8 rfl]at d;cases d;exact ZB d (q6l.1 (h.gsub p l)).2
def q5m(T:Tb)(tx:Int)(x:Sx):(Ad (Bp T tx) x).h=(Co (Ad T x) tx).1.h/\(Ad (Bp T tx) x).ws=(Co (Ad T x) tx).1.ws:=by
 unfold Ad Bp;cases e:T x with
 |none=>exact⟨(relK0 tx).1.symm,(relK0 tx).2.symm⟩
 |some k=>
  simp only[Option.bind_some,FH,Option.getD_some];by_cases h:qcz (Co k tx).1;rw[Z8 h];exact⟨(funext h.1).symm,h.2.symm⟩;rw[Z7 h];exact⟨rfl,rfl⟩
def GT(T:Tb):Prop:=∀x,GK (Ad T x)
def GT.bo:GT (λ_=>B0):=λ_=>GK.zero
def GT.bF{T:Tb}(g:GT T)(tx:Int):GT (Bp T tx):=λx=>by
 obtain⟨e,d⟩:=q5m T tx x;have h:=(g x).bF tx;exact⟨by rw[e];exact h.eF,by rw[d];exact h.wm,by rw[d];exact h.aH,by rw[e,d];exact h.al⟩
def Hd(T:Tb)(x:Sx)(i mode:Int):Prop:=∃m,(Ad T x).h i=Bs m/\mode<=m
def Wt(T:Tb)(x:Sx)(i mode:Int):Prop:=(i,mode)∈(Ad T x).ws
def Hd.eM{T:Tb}(g:GT T){i j:Int}(h:Hd T x i 2)(k:Hd T x j 1):i=j:=by
 obtain⟨m,d,p⟩:=h;obtain⟨n,e,l⟩:=k;have f:=(g x).eF.hm i m d;have:m=2:=by unfold Bt at f;omega
 subst this;exact((g x).eF.cS i d j n e).symm
def Hd.mono{T:Tb}{i m n:Int}(h:Hd T x i m)(e:n<=m):Hd T x i n:=by obtain⟨q,d,f⟩:=h;exact⟨q,d,Z0⟩
def Hd.bF{T:Tb}(g:GT T){i m:Int}(h:Hd T x i m)(e:i≠tx):Hd (Bp T tx) x i m:=by obtain⟨q,l,t⟩:=h;obtain⟨d,f,p⟩:=(q93 (g x) tx).up i q (by unfold Bj;rw[Z7 e];exact l);exact⟨d,by rw[(q5m T tx x).1];exact f,Z0⟩
def qdk{T:Tb}(g:GT T){o m:Int}(h:(Ad (Bp T tx) x).h o=Bs m):o≠tx/\((Ad T x).h o=Bs m\/∃md,Wt T x o md):=by
 rw[(q5m T tx x).1]at h;have f:o≠tx:=λe=>by subst e;rw[(SJ (g x) o).1]at h;cases h
 refine⟨f,?_⟩;obtain d|⟨w,hw,d⟩:=(q93 (g x) tx).cq o m h;unfold Bj at d;rw[Z7 f]at d;exact eR d;have:=(q6l.1 ((q93 (g x) tx).gsub w hw)).1;obtain⟨a,b⟩:=w;have d:a=o:=d;subst d;exact eS ⟨b,this⟩
def qci{T:Tb}(g:GT T){o m:Int}(h:Wt (Bp T tx) x o m):o≠tx/\Wt T x o m:=by unfold Wt at *;rw[(q5m T tx x).2]at h;have:=q6l.1 ((q93 (g x) tx).e0 _ h);exact⟨this.2,this.1⟩
def q7q{T:Tb}(g:GT T){o m:Int}(h:Wt T x o m)(e:o≠tx):(Wt (Bp T tx) x o m/\¬KV T tx o x)\/(KV T tx o x/\Hd (Bp T tx) x o m/\∀n,¬Wt (Bp T tx) x o n):=by
 have l:=q93 (g x) tx;have t:∃k,T x=Bs k:=by
  cases D:T x with
  |none=>unfold Wt Ad at h;rw[D]at h;cases h
  |some k=>exact⟨k,rfl⟩
 obtain⟨k,q⟩:=t;have v:Ad T x=k:=by unfold Ad;rw[q];rfl
 have u:∀o,KV T tx o x↔∃md,(o,md)∈(Co (Ad T x) tx).2:=λo=>by
  unfold KV;rw[v];constructor;rintro ⟨k',md,d,f⟩;rw[q]at d;injection d with d;subst d;exact⟨md,f⟩;rintro ⟨md,f⟩;exact⟨k,md,q,f⟩
 rw[u];obtain d|⟨d,y,f,C⟩:=l.all (o,m) (q6l.2 ⟨h,e⟩);refine eR ⟨by unfold Wt;rw[(q5m T tx x).2];exact d,?_⟩;rintro ⟨md,z⟩;exact l.disj _ d _ z rfl;refine eS ⟨⟨m,d⟩,⟨y,by rw[(q5m T tx x).1];exact f,C⟩,λn p=>?_⟩;unfold Wt at p;rw[(q5m T tx x).2]at p;exact l.disj _ p _ d rfl
def II{T:Tb}(g:GT T){o:Int}(h:KV T tx o x):o≠tx/\∃m,Wt T x o m:=by
 obtain⟨k,md,f,e⟩:=h;have d:Ad T x=k:=by unfold Ad;rw[f];rfl
 have:=q6l.1 ((q93 (g x) tx).gsub (o,md) (by rw[d];exact e));exact⟨this.2,md,this.1⟩
def q4l(T:Tb)(tx:Int)(y:Sx)(mode:Int)(x:Sx):Ad (Ap T tx y mode) x=Ad T x\/(x=y/\CF (Ad T y).ws tx=L1/\
  ((Ai (Ad T y).h tx mode (Ad T y).ws=VD/\Ad (Ap T tx y mode) x=⟨Az (Ad T y).h tx mode,(Ad T y).ws⟩)\/
   (Ai (Ad T y).h tx mode (Ad T y).ws=L1/\Ad (Ap T tx y mode) x=⟨(Ad T y).h,Cd (Ad T y).ws (tx,mode)⟩))):=by
 unfold Ap;split;exact eR rfl;rename_i f;have f:CF (Ad T y).ws tx=L1:=Z6 f;split;rename_i d;rw[qe7];split;rename_i e;exact eS ⟨e,f,eR ⟨d,rfl⟩⟩;exact eR rfl;rename_i d;have d:Ai (Ad T y).h tx mode (Ad T y).ws=L1:=Z6 d;split;exact eR rfl;rw[qe7];split;rename_i e;exact eS ⟨e,f,eS ⟨d,rfl⟩⟩;exact eR rfl
def FU{d:List (Int×Int)}(h:CF d tx=L1):∀v∈d,v.1≠tx:=λv f e=>by
 unfold CF at h;rw[Xw]at h;exact h v f (Z6 e)
def NL{d:List (Int×Int)}{mode:Int}(h:q6x e tx mode=L1)(hs:∀w∈d,w∈e):q6x d tx mode=L1:=by unfold q6x at *;rw[Xw]at *;exact λw f=>h w (hs w f)
def Cx.sub{d:List (Int×Int)}{mode:Int}(f:Cx h tx mode e)(hs:∀w∈d,w∈e):Cx h tx mode d:=
 f.imp id (λ⟨a,b⟩=>⟨a,NL b hs⟩)
def PN{w:Int×Int}{a:List (Int×Int)}{v:Int×Int}{b:List (Int×Int)}(e:Cd f w=a++v::b) :
  (v=w/\a=f.takeWhile (λx=>decide (x.1<w.1)))\/∃h D,f=h++v::D/\∀u∈h,u∈a:=by
 unfold Cd at e;have C:f=f.takeWhile (λx=>decide (x.1<w.1))++f.dropWhile (λx=>decide (x.1<w.1)):=(List.takeWhile_append_dropWhile).symm;generalize f.takeWhile (λx=>decide (x.1<w.1))=p at *;generalize f.dropWhile (λx=>decide (x.1<w.1))=q at *;subst C;obtain⟨h,l,d⟩|⟨y,l,d⟩:=List.append_eq_append_iff.1 e;cases h with
 |nil=>
  simp only[WN,List.cons.injEq]at d;exact eR ⟨d.1.symm,by rw[l,WB]⟩
 |cons z h=>
  simp only[X0,List.cons.injEq]at d;obtain⟨rfl,d⟩:=d;refine eS ⟨p++h,b,by rw[d];simp,λu t=>?_⟩;rw[l];simp only[XA,List.mem_cons]at *;exact t.imp id eS
 cases y with
 |nil=>
  simp only[WN,List.cons.injEq]at d;exact eR ⟨d.1,by rw[l,WB]⟩
 |cons z y=>
  simp only[X0,List.cons.injEq]at d;obtain⟨rfl,d⟩:=d;exact eS ⟨a,y++q,by rw[l];simp,λu t=>t⟩
def q5q{t:Int} : ∀{e:List (Int×Int)},e.Pairwise (·.1 < ·.1)->∀{v:Int×Int},v∈e->v.1<t->v∈e.takeWhile (λx=>decide (x.1<t))
 |[],_,_,h,_=>(nomatch h)
 |u::us,hs,v,d,hlt=>by
  rw[List.pairwise_cons]at hs;have f:u.1<t:=by
   obtain rfl|d:=ZF.1 d;exact hlt;have:=hs.1 v d;omega
  rw[List.takeWhile_cons_of_pos (Z6 f)];obtain rfl|d:=ZF.1 d;exact VB;exact VE _ (q5q hs.2 d hlt)
def GK.ins{k:Kx}(g:GK k){mode:Int}(u:Bt mode)(q:CF k.ws tx=L1)(y:Ai k.h tx mode k.ws=L1):GK ⟨k.h,Cd k.ws (tx,mode)⟩:=by refine⟨g.eF,λw h=>?_,q7b g.aH (FU q),λa w b e l=>?_⟩;obtain rfl|h:=q5j.1 h;exact u;exact g.wm w h;obtain⟨rfl,C⟩|⟨I,E,D,d⟩:=PN e;refine(qb7.1 y) ?_;obtain h|⟨h,z⟩:=l;exact eR h;refine eS ⟨h,?_⟩;subst C;unfold q6x at *;rw[Xw]at *;intro v t;simp only[Wl,decide_eq_true_eq,not_and,Bool.not_eq_true];intro f;have p:v∈k.ws.takeWhile (λx=>decide (x.1<(tx,mode).1)):=q5q g.aH t f;have:=z v p;simpa [f]using this;exact g.al I w E D (l.sub d)
def GT.aJ{T:Tb}(g:GT T){mode:Int}(d:Bt mode)(y:Sx):GT (Ap T tx y mode):=λx=>by
 obtain h|⟨rfl,f,⟨e,h⟩|⟨e,h⟩⟩:=q4l T tx y mode x;rw[h];exact g x;rw[h];exact⟨(g x).eF.dN d (SU.1 e),(g x).wm,(g x).aH,(g x).al.dN (g x).eF d (FU f)⟩;rw[h];exact(g x).ins d f e
def Hd.aJ{T:Tb}{i m:Int}(h:Hd T x i m)(tx:Int)(y:Sx)(mode:Int):Hd (Ap T tx y mode) x i m:=by obtain⟨q,d,f⟩:=h;obtain h|⟨rfl,_,⟨_,h⟩|⟨_,h⟩⟩:=q4l T tx y mode x;exact⟨q,by rw[h];exact d,f⟩;by_cases e:i=tx;subst e;exact⟨_,by rw[h];exact q4d _ _ _,by rw[q50 d];omega⟩;exact⟨q,by rw[h];exact(UX e _).trans d,f⟩;exact⟨q,by rw[h];exact d,f⟩
def OG{T:Tb}{mode:Int}{o m:Int}(h:(Ad (Ap T tx y mode) x).h o=Bs m):(Ad T x).h o=Bs m\/(o=tx/\x=y):=by obtain d|⟨rfl,_,⟨_,d⟩|⟨_,d⟩⟩:=q4l T tx y mode x;rw[d]at h;exact eR h;rw[d]at h;by_cases e:o=tx;exact eS ⟨e,rfl⟩;exact eR ((UX e _).symm.trans h);rw[d]at h;exact eR h
def E2{T:Tb}{mode:Int}{o m:Int}(h:Wt (Ap T tx y mode) x o m):Wt T x o m\/(o=tx/\x=y/\m=mode/\Ai (Ad T y).h tx mode (Ad T y).ws=L1):=by unfold Wt at *;obtain d|⟨rfl,_,⟨_,d⟩|⟨e,d⟩⟩:=q4l T tx y mode x;rw[d]at h;exact eR h;rw[d]at h;exact eR h;rw[d]at h;obtain h|h:=q5j.1 h;injection h with h4 h5;exact eS ⟨h4,rfl,h5,e⟩;exact eR h
def Wt.aJ{T:Tb}{i m:Int}(h:Wt T x i m)(tx:Int)(y:Sx)(mode:Int):Wt (Ap T tx y mode) x i m:=by unfold Wt at *;obtain d|⟨rfl,_,⟨_,d⟩|⟨_,d⟩⟩:=q4l T tx y mode x;rw[d];exact h;rw[d];exact h;rw[d];exact q5j.2 (eS h)
def OH{T:Tb}{mode:Int}(e:CF (Ad T x).ws tx=L1)(d:Ai (Ad T x).h tx mode (Ad T x).ws=VD):Hd (Ap T tx x mode) x tx mode:=by unfold Ap;rw[e,Z7 Z3,d,Z8 rfl];refine⟨_,by rw[qe7,Z8 rfl];exact q4d _ _ _,Z0⟩
def GQ{T:Tb}{mode:Int}(f:CF (Ad T x).ws tx=L1)(e:Ai (Ad T x).h tx mode (Ad T x).ws=L1)(d:(Ad T x).ws.length≠50):Wt (Ap T tx x mode) x tx mode:=by unfold Ap Wt;rw[f,Z7 Z3,e,Z7 Z3,Z7 d,qe7,Z8 rfl];exact q5j.2 (eR rfl)
def DT(T:Tb)(x:Sx)(i:Int):Prop:=CF (Ad T x).ws i=L1/\Cx (Ad T x).h i 2 (Ad T x).ws
def DT.of_hd{T:Tb}{i:Int}(h:Hd T x i 2)(d:∀m,¬Wt T x i m):DT T x i:=by
 obtain⟨m,p,l⟩:=h;refine⟨?_,eR (by rw[q50 p];exact l)⟩;unfold CF;rw[Xw];rintro ⟨a,b⟩ f e;have e:a=i:=Z6 e;subst e;exact d b f
def DT.aJ{T:Tb}{i:Int}(h:DT T x i)(f:DT T y i):DT (Ap T i y 2) x i:=by obtain d|⟨rfl,l,⟨e,d⟩|⟨e,d⟩⟩:=q4l T i y 2 x;unfold DT;rw[d];exact h;unfold DT;rw[d];exact⟨h.1,eR (by show 2<=(Az (Ad T x).h i 2 i).getD 0;rw[q4d];show 2<=max _ 2;omega)⟩;exact ZB (SU.2 h.2) (by rw[e];simp)
structure PrepP(T T':Tb)(i:Int)(ps:List Pr):Prop where
 gt:GT T'
 hd:∀p∈ps,Hd T' (sx p.key) i 2
 up:∀x o m,Hd T x o m->Hd T' x o m
 cq:∀x o m,(Ad T' x).h o=Bs m->(Ad T x).h o=Bs m\/(o=i/\∃p∈ps,sx p.key=x)
 ws:∀x,(Ad T' x).ws=(Ad T x).ws
def SO{i:Int} : ∀(ps:List Pr) {T:Tb},GT T->(∀p∈ps,DT T (sx p.key) i)->PrepP T (CU T i ps) i ps
 |[],T,g,_=>⟨g,λ_ h=>(nomatch h),λ_ _ _ h=>h,λ_ _ _ h=>eR h,λ_=>rfl⟩
 |p::ps,T,g,hp=>by
  have u:=hp p VB;have f:=SO ps (T:=Ap T i (sx p.key) 2) (g.aJ (eS rfl) _) (λq d=>(hp q (VE _ d)).aJ u);have e:CU T i (p::ps)=CU (Ap T i (sx p.key) 2) i ps:=rfl;rw[e];have v:∀x,(Ad (Ap T i (sx p.key) 2) x).ws=(Ad T x).ws:=λx=>by
   obtain l|⟨rfl,t,⟨y,l⟩|⟨y,l⟩⟩:=q4l T i (sx p.key) 2 x;rw[l];rw[l];exact ZB (SU.2 u.2) (by rw[y];simp)
  refine⟨f.gt,λq d=>?_,λx o m h=>f.up x o m (h.aJ _ _ _),λx o m h=>?_,λx=>(f.ws x).trans (v x)⟩;obtain rfl|d:=ZF.1 d;exact f.up _ _ _ (OH u.1 (SU.2 u.2));exact f.hd q d;obtain t|⟨rfl,q,d,t⟩:=f.cq x o m h;obtain l|⟨rfl,rfl⟩:=OG t;exact eR l;exact eS ⟨rfl,p,VB,rfl⟩;exact eS ⟨rfl,q,VE _ d,t⟩
def EL(l:List Cm)(i:Int):Prop:=An l 2 i/\¬An l 3 i/\¬An l 4 i
def Shr(a b:List Pr):Prop:=∃p∈a,∃q∈b,sx p.key=sx q.key
def Ul(l:List Cm):Prop:=∀(q:Nat)(c:Cm),l[q]? = Bs c->c.aj=2->¬An (l.take q) 2 c.tx/\¬An (l.take q) 3 c.tx/\¬An (l.take q) 4 c.tx/\∀w∈l.take q,w.aj=2->Shr w.ae c.ae->¬EL (l.take q) w.tx
def JR{l l':List Cm}(e:l' <+: l)(d:q<=l'.length):l'.take q=l.take q:=by obtain⟨r,rfl⟩:=e;rw[Wv d]
def Ul.pre{l l':List Cm}(h:Ul l)(d:l' <+: l):Ul l':=λq c e=>by
 have f:=(ZC.1 e).1;rw[JR d (Yt f)];exact h q c (getElem?_prefix d e)
def Ul.cR{l:List Cm}(h:Ul l)(u:c.aj=2->¬An l 2 c.tx/\¬An l 3 c.tx/\¬An l 4 c.tx/\∀w∈l,w.aj=2->Shr w.ae c.ae->¬EL l w.tx):Ul (l++[c]):=λq d e t=>by
 by_cases p:q<l.length;rw[VZ p]at e;rw[Wv (Yt p)];exact h q d e t;have f:=(ZC.1 e).1;simp only[VJ,Wi,XB]at f;obtain rfl:q=l.length:=by omega
 simp only[Xv,VN]at e;subst e;rw[Zg rfl];exact u t
def An.left{l:List Cm}{k i:Int}(h:An l k i)(r:List Cm):An (l++r) k i:=h.mono (λ_ d=>VM _ d)
def UW{l:List Cm}{k i:Int} : An (l++[c]) k i↔An l k i\/(c.aj=k/\c.tx=i):=by unfold An;constructor;rintro ⟨d,e,h⟩;obtain e|e:=XA.1 e;exact eR ⟨d,e,h⟩;rw[VU]at e;subst e;exact eS h;rintro (⟨d,e,h⟩|h);exact⟨d,VM _ e,h⟩;exact⟨c,Z3,h⟩
def EL.eK{l:List Cm}{i:Int}(h:EL (l++[c]) i)(d:An l 2 i):EL l i:=⟨d,λe=>h.2.1 (e.left _),λe=>h.2.2 (e.left _)⟩
noncomputable def tabT(c:Cm)(T:Tb):Tb:=if c.aj=2 then CU T c.tx c.ae else if c.aj=3 then Bp T c.tx else if c.aj=4 then Bp T c.tx else T
def q7k(h:c.aj=2)(T:Tb):tabT c T=CU T c.tx c.ae:=Z8 h
def SQ(h:c.aj=3\/c.aj=4)(T:Tb):tabT c T=Bp T c.tx:=by unfold tabT;obtain h|h:=h;rw[Z7 Z0,Z8 h];rw[Z7 Z0,Z7 Z0,Z8 h]
def Fq(T:Tb)(l:List Cm)(ex:Int->Prop):Prop:=∀w∈l,w.aj=2->EL l w.tx->¬ex w.tx->∀p∈w.ae,Hd T (sx p.key) w.tx 2
def Fq.mono{T:Tb}{l:List Cm}{ex d:Int->Prop}(h:Fq T l ex)(y:∀i,ex i->d i)(z:∀x i m,¬d i->Hd T x i m->Hd T' x i m):Fq T' l d:=λw q v u f p t=>z _ _ _ f (h w q v u (λe=>f (y _ e)) p t)
def Fq.step{T:Tb}{l:List Cm}{ex:Int->Prop}(g:GT T)(h:Fq T l ex){c:Cm}(d:c.aj=2\/c.aj=3\/c.aj=4)(C:c.aj=2->∀p∈c.ae,DT T (sx p.key) c.tx) :
  Fq (tabT c T) (l++[c]) (λi=>ex i/\(c.aj=2\/i≠c.tx)):=λw q f x z p t=>by
 obtain q|q:=XA.1 q;have u:=x.eK ⟨w,q,f,rfl⟩;obtain d|d:=d;have y:=h w q f u (λe=>z ⟨e,eR d⟩) p t;rw[q7k d];exact(SO _ g (C d)).up _ _ _ y;have v:w.tx≠c.tx:=λe=>by
  obtain d|d:=d;exact x.2.1 (UW.2 (eS ⟨d,e.symm⟩));exact x.2.2 (UW.2 (eS ⟨d,e.symm⟩))
 have y:=h w q f u (λe=>z ⟨e,eS v⟩) p t;rw[SQ d];exact y.bF g v;rw[VU]at q;subst q;rw[q7k f];exact(SO _ g (C f)).hd p t
def GT.tabT{T:Tb}(g:GT T){c:Cm}(d:c.aj=2->∀p∈c.ae,DT T (sx p.key) c.tx):GT (tabT c T):=by unfold Go.Proofs.YtccahlhdifadfaaGreatDoor.tabT;split;rename_i h;exact(SO _ g (d h)).gt;split;exact g.bF _;split;exact g.bF _;exact g
structure U4(T:Tb)(l:List Cm):Prop where
 gt:GT T
 ws:∀x,(Ad T x).ws=[]
 cq:∀x o m,(Ad T x).h o=Bs m->EL l o/\∃w∈l,w.aj=2/\w.tx=o/\∃p∈w.ae,sx p.key=x
 cov:Fq T l (λ_=>False)
def U4.nil:U4 (λ_=>B0) []:=⟨GT.bo,λ_=>rfl,λ_ _ _ h=>(nomatch h),λ_ h=>(nomatch h)⟩
def U4.step{T:Tb}{l:List Cm}(h:U4 T l){c:Cm}(S:Ul (l++[c]))(d:c.aj=2\/c.aj=3\/c.aj=4):U4 (tabT c T) (l++[c]):=by
 have u:=λz=>S l.length c Z3 z
 simp only[Zg rfl]at u;have t:c.aj=2->∀p∈c.ae,DT T (sx p.key) c.tx:=λz p I=>by
  obtain⟨_,_,_,J⟩:=u z;refine⟨by rw[h.ws];rfl,eS ⟨λo m C y=>?_,by rw[h.ws];rfl⟩⟩;obtain⟨R,w,v,L,rfl,q,U,E⟩:=h.cq _ _ _ C;exact ZB R (J w v L ⟨q,U,p,I,E⟩)
 have D:Fq (tabT c T) (l++[c]) (λ_=>False):=(h.cov.step h.gt d t).mono (λi e=>e.1.elim) (λx i m _ e=>e);refine⟨h.gt.tabT t,?_,?_,D⟩;intro x;obtain d|d:=d;rw[q7k d,(SO _ h.gt (t d)).ws,h.ws];rw[SQ d];refine List.eq_nil_iff_forall_not_mem.2 (λw v=>?_);have:=qci h.gt (show Wt (Bp T c.tx) x w.1 w.2 from v);unfold Wt at this;rw[h.ws]at this;exact nomatch this.2;intro x o m C;obtain d|d:=d;rw[q7k d]at C;obtain⟨R,W,V,_⟩:=u d;obtain f|⟨rfl,p,I,f⟩:=(SO _ h.gt (t d)).cq x o m C;obtain⟨⟨O,N,a3⟩,w,v,M⟩:=h.cq x o m f;refine⟨⟨O.left _,λe=>?_,λe=>?_⟩,w,VM _ v,M⟩;obtain e|⟨e,_⟩:=UW.1 e;exact N e;omega;obtain e|⟨e,_⟩:=UW.1 e;exact a3 e;omega;refine⟨⟨UW.2 (eS ⟨d,rfl⟩),λe=>?_,λe=>?_⟩,c,Z3,d,rfl,p,I,f⟩;obtain e|⟨e,_⟩:=UW.1 e;exact W e;omega;obtain e|⟨e,_⟩:=UW.1 e;exact V e;omega;rw[SQ d]at C;obtain⟨y,f⟩:=qdk h.gt C;obtain f|⟨md,f⟩:=f;obtain⟨⟨O,N,a3⟩,w,v,M⟩:=h.cq x o m f;refine⟨⟨O.left _,λe=>?_,λe=>?_⟩,w,VM _ v,M⟩;obtain e|⟨_,e⟩:=UW.1 e;exact N e;exact y e.symm;obtain e|⟨_,e⟩:=UW.1 e;exact a3 e;exact y e.symm;unfold Wt at f;rw[h.ws]at f;cases f
def vxP(t:Int)(p:Pr):Vx:=⟨t,if p.aR then []else sx p.val,p.aR⟩
def SrcV(l:List Cm)(x:Sx)(v:Vx):Prop:=∃c w p,c∈l/\c.aj=3/\w∈l/\w.aj=2/\w.tx=c.tx/\p∈w.ae/\sx p.key=x/\v=vxP c.ah p
structure Fs(K:Kp)(l:List Cm):Prop where
 aH:∀x,Gs (K x)
 cq:∀x v,v∈K x->SrcV l x v
 all:∀(q:Nat)(c:Cm),l[q]? = Bs c->c.aj=3->∀w∈l.take q,w.aj=2->w.tx=c.tx->∀p∈w.ae,∃v∈K (sx p.key),v.t=c.ah
def Fs.nil:Fs (λ_=>[]) []:=⟨λ_=>Yv,λ_ _ h=>(nomatch h),λq c h=>by simp at h⟩
structure Dh(K K':Kp)(S:Sx->Vx->Prop)(N:Sx->Int->Prop):Prop where
 aH:∀x,Gs (K' x)
 cq:∀x v,v∈K' x->v∈K x\/S x v
 up:∀x v,v∈K x->v∈K' x
 all:∀x t,N x t->∃v∈K' x,v.t=t
def putS_p{K:Kp}(hs:∀x,Gs (K x)){t:Int}(C:0<=t/\t<=60)(l:Uk p):Dh K (CT K 0 ⟨sx p.key,sx p.val,p.aR,t⟩).2 (λx v=>sx p.key=x/\v=vxP t p) (λx u=>sx p.key=x/\u=t):=by
 have D:=Ex l.1;have z:=l.2;rw[J5]at z;unfold CT;rw[Z7 (by show ¬(t<0\/1099511627776<t);omega),Z7 (by show ¬(20<(sx p.key).length\/40<(sx p.val).length);omega),Z7 (by show ¬t<0;omega)];by_cases d:Dm (K (sx p.key)) t=VD;rw[Z8 d];refine⟨hs,λx v h=>eR h,λx v h=>h,?_⟩;rintro x u ⟨rfl,rfl⟩;unfold Dm at d;obtain⟨v,q,y⟩:=List.any_eq_true.1 d;exact⟨v,q,Z6 y⟩;have d:Dm (K (sx p.key)) t=L1:=Z6 d;rw[Z7 (by rw[d];simp)];refine⟨λx=>?_,λx v h=>?_,λx v h=>?_,?_⟩;show Gs (Cc K (sx p.key) _ x);unfold Cc;split;exact qb3 (hs _) d;exact hs x;have f:v∈Cc K (sx p.key) (CK (K (sx p.key)) (Jg ⟨sx p.key,sx p.val,p.aR,t⟩)) x:=h;clear h;unfold Cc at f;by_cases e:x=sx p.key;rw[Z8 e]at f;subst e;obtain h|h:=q80.1 f;exact eS ⟨rfl,h⟩;exact eR h;rw[Z7 e]at f;exact eR f;show v∈Cc K (sx p.key) (CK (K (sx p.key)) (Jg ⟨sx p.key,sx p.val,p.aR,t⟩)) x;unfold Cc;split;rename_i e;subst e;exact q80.2 (eS h);exact h;rintro x u ⟨rfl,rfl⟩;refine⟨Jg ⟨sx p.key,sx p.val,p.aR,u⟩,?_,rfl⟩;show _∈Cc K (sx p.key) (CK (K (sx p.key)) (Jg ⟨sx p.key,sx p.val,p.aR,u⟩)) (sx p.key);unfold Cc;rw[Z8 rfl];exact q80.2 (eR rfl)
def Dh.refl{K:Kp}(hs:∀x,Gs (K x))(d:∀x t,¬N x t):Dh K K S N:=⟨hs,λ_ _ h=>eR h,λ_ _ h=>h,λx t h=>(d x t h).elim⟩
def Dh.trans{A B C:Kp}(h:Dh A B S N)(k:Dh B C u z){q:Sx->Vx->Prop}{y:Sx->Int->Prop}(p:∀x v,S x v\/u x v->q x v)(E:∀x t,y x t->N x t\/z x t):Dh A C q y:=by refine⟨k.aH,λx v f=>?_,λx v f=>k.up x v (h.up x v f),λx t D=>?_⟩;obtain d|d:=k.cq x v f;obtain l|l:=h.cq x v d;exact eR l;exact eS (p _ _ (eR l));exact eS (p _ _ (eS d));obtain d|d:=E x t D;obtain⟨v,f,e⟩:=h.all x t d;exact⟨v,k.up x v f,e⟩;exact k.all x t d
def Ot{t:Int}(e:0<=t/\t<=60):∀(ps:List Pr) {K:Kp},(∀x,Gs (K x))->(∀p∈ps,Uk p)->Dh K (Dd K t ps) (λx v=>∃p∈ps,sx p.key=x/\v=vxP t p) (λx u=>∃p∈ps,sx p.key=x/\u=t)
 |[],K,hs,_=>Dh.refl hs (λx u h=>by obtain⟨p,l,_⟩:=h;cases l)
 |p::ps,K,hs,hw=>by
  have f:=putS_p hs e (hw p VB);have y:=Ot e ps (K:=(CT K 0 ⟨sx p.key,sx p.val,p.aR,t⟩).2) f.aH (λq d=>hw q (VE _ d));refine f.trans y ?_ ?_;rintro x v (⟨a,b⟩|⟨q,d,a⟩);exact⟨p,VB,a,b⟩;exact⟨q,VE _ d,a⟩;rintro x u ⟨q,d,a,b⟩;obtain rfl|d:=ZF.1 d;exact eR ⟨a,b⟩;exact eS ⟨q,d,a,b⟩
def IR{c:Cm}(z:0<=c.ah/\c.ah<=60):∀(l:List Cm) {K:Kp},(∀x,Gs (K x))->(∀w∈l,Eo w)->
  Dh K (Br K l c) (λx v=>∃w∈l,w.aj=2/\w.tx=c.tx/\∃p∈w.ae,sx p.key=x/\v=vxP c.ah p) (λx u=>∃w∈l,w.aj=2/\w.tx=c.tx/\∃p∈w.ae,sx p.key=x/\u=c.ah)
 |[],K,hs,_=>Dh.refl hs (λx u h=>by obtain⟨p,C,_⟩:=h;cases C)
 |w::l,K,hs,hw=>by
  have e:Br K (w::l) c=Br (if w.aj=2/\w.tx=c.tx then Dd K c.ah w.ae else K) l c:=rfl;rw[e];by_cases f:w.aj=2/\w.tx=c.tx;rw[Z8 f];have E:=Ot z w.ae hs (hw w VB).ps;have D:=IR z l (K:=Dd K c.ah w.ae) E.aH (λq d=>hw q (VE _ d));refine E.trans D ?_ ?_;rintro x v (⟨p,C,a⟩|⟨q,d,a⟩);exact⟨w,VB,f.1,f.2,p,C,a⟩;exact⟨q,VE _ d,a⟩;rintro x u ⟨q,d,y,t,a⟩;obtain rfl|d:=ZF.1 d;exact eR a;exact eS ⟨q,d,y,t,a⟩;rw[Z7 f];have D:=IR z l (K:=K) hs (λq d=>hw q (VE _ d));refine(Dh.refl hs (S:=λ_ _=>False) (N:=λ_ _=>False) (λ_ _ h=>h)).trans D ?_ ?_;rintro x v (h|⟨q,d,a⟩);exact h.elim;exact⟨q,VE _ d,a⟩;rintro x u ⟨q,d,y,t,a⟩;obtain rfl|d:=ZF.1 d;exact ZB ⟨y,t⟩ f;exact eS ⟨q,d,y,t,a⟩
noncomputable def Sp(c:Cm)(l:List Cm)(K:Kp):Kp:=if c.aj=3 then Br K l c else K
def SrcV.left{l:List Cm}{v:Vx}(h:SrcV l x v)(r:List Cm):SrcV (l++r) x v:=by obtain⟨c,w,p,q,f,e,d⟩:=h;exact⟨c,w,p,VM _ q,f,VM _ e,d⟩
def Fs.step{K:Kp}{l:List Cm}(h:Fs K l){c:Cm}(S:Eo c)(hl:∀w∈l,Eo w):Fs (Sp c l K) (l++[c]):=by
 have t:∀(I:Kp),(∀x v,v∈K x->v∈I x)->(c.aj=3->∀w∈l,w.aj=2->w.tx=c.tx->∀p∈w.ae,∃v∈I (sx p.key),v.t=c.ah)->
   ∀(q:Nat)(d:Cm),(l++[c])[q]? = Bs d->d.aj=3->∀w∈(l++[c]).take q,w.aj=2->w.tx=d.tx->∀p∈w.ae,∃v∈I (sx p.key),v.t=d.ah:=λI J R q d E z w f=>by
  by_cases O:q<l.length;rw[VZ O]at E;rw[Wv (Yt O)]at f;intro y L p C;obtain⟨v,D,e⟩:=h.all q d E z w f y L p C;exact⟨v,J _ _ D,e⟩;have M:=(ZC.1 E).1;simp only[VJ,Wi,XB]at M;obtain rfl:q=l.length:=by omega
  simp only[Xv,VN]at E;subst E;rw[Zg rfl]at f;exact R z w f
 unfold Sp;by_cases z:c.aj=3;rw[Z8 z];have C:=IR S.ah l h.aH hl;refine⟨C.aH,λx v D=>?_,t _ C.up (λ_ w f y L p u=>C.all _ _ ⟨w,f,y,L,p,u,rfl,rfl⟩)⟩;obtain N|⟨w,f,N,W,p,u,V,U⟩:=C.cq x v D;exact(h.cq x v N).left _;exact⟨c,w,p,Z3,z,VM _ f,N,W,u,V,U⟩;rw[Z7 z];exact⟨h.aH,λx v D=>(h.cq x v D).left _,t _ (λ_ _ h=>h) (λe=>ZB e z)⟩
def qa3(l:List Cm)(i:Nat)(c:Cm):((H.bG s l i c).sh s).tab=tabT c (H.sh s).tab/\((H.bG s l i c).sh s).sto=Sp c (l.take i) (H.sh s).sto/\((H.bG s l i c).sh s).done=i+1:=by
 unfold Hs.bG;rw[CJ];unfold Hs.bb tabT Sp;by_cases f:c.aj=2
 ·rw[Z8 f,Z8 f,Z7 Z0,CJ];exact⟨rfl,by first|rfl|trivial,by first|rfl|trivial⟩
 rw[Z7 f,Z7 f];by_cases d:c.aj=3
 ·rw[Z8 d,Z8 d,Z8 d];unfold Hs.bF;simp only[CJ];refine⟨?_,?_,by first|rfl|trivial⟩;show((Hs.ax _ s _).sh s).tab=_;rw[CJ];show((Hs.ax _ s _).sh s).sto=_;rw[CJ]
 rw[Z7 d,Z7 d,Z7 d];by_cases e:c.aj=4
 ·rw[Z8 e,Z8 e];unfold Hs.bF;refine⟨?_,?_,by first|rfl|trivial⟩;show((Hs.ax _ s _).sh s).tab=_;rw[CJ];show((Hs.ax _ s _).sh s).sto=_;rw[CJ]
 rw[Z7 e,Z7 e];exact⟨rfl,by first|rfl|trivial,by first|rfl|trivial⟩
def F8{l:List Cm}(u:Ul l)(h:∀c∈l,(c.aj=2\/c.aj=3\/c.aj=4)/\Eo c):∀(k:Nat)(H:Hs),(H.sh s).done+k=l.length->U4 (H.sh s).tab (l.take (H.sh s).done)->Fs (H.sh s).sto (l.take (H.sh s).done)->
  ((Hs.bu s l k H).sh s).done=l.length/\U4 ((Hs.bu s l k H).sh s).tab l/\Fs ((Hs.bu s l k H).sh s).sto l
 |0,H,d,f,e=>by
  have d:(H.sh s).done=l.length:=d;rw[d,WU]at f e;exact⟨d,f,e⟩
 |k+1,H,d,f,e=>by
  obtain⟨c,p⟩:∃c,l[(H.sh s).done]? = Bs c:=⟨_,K0 Z0⟩
  rw[q6f rfl p];obtain⟨e1,z,t⟩:=qa3 (H:=H) (s:=s) l (H.sh s).done c;have q:l.take ((H.sh s).done+1)=l.take (H.sh s).done++[c]:=by rw[VV,p];rfl
  obtain⟨x,v⟩:=h c (N2 p);refine F8 u h k _ (by rw[t];omega) ?_ ?_;rw[e1,t,q];exact f.step (u.pre (by rw[<- q];exact List.take_prefix _ _)) x;rw[z,t,q];exact e.step v (λw y=>(h w (WG y)).2)
def PG{l:List Cm}(d:(H.sh s).done=l.length):Hs.bu s (l++[c]) ((l++[c]).length-(H.sh s).done) H=H.bG s (l++[c]) l.length c:=by
 have e:(l++[c]).length-(H.sh s).done=0+1:=by rw[d];simp
 rw[e,q6f (c:=c) d Z3];rfl
structure Gh where
 E:List Nat
 rd:Nat->List (Sx×Option Sx)
def Ir(H:Hs)(i:Nat):Prop:=1<=i/\i<=H.m
def Wr(H:Hs)(i:Nat)(x:Sx):Prop:=∃p∈(H.tx i).ae,sx p.key=x
def Rdx(G:Gh)(i:Nat)(x:Sx):Prop:=∃v,(x,v)∈G.rd i
def CH(H:Hs)(G:Gh)(i:Nat)(x:Sx):Prop:=Wr H i x\/Rdx G i x
def BV(H:Hs)(i:Nat):Prop:=(H.tx i).ah=0/\∃k,k∈(H.tx i).ag/\(H.tx i).af k≠Bs (H.sh k).ad/\∀j,Lv H k j->¬An (lg H k j) 2 i
def Bef(E:List Nat)(a b:Nat):Prop:=∃A B,E=A++b::B/\a∈A
def Jl(d:List Pr)(x:Sx):Option (Option Sx):=(d.find? (λp=>sx p.key == x)).map λp=>if p.aR then B0 else Bs (sx p.val)
def FC(H:Hs)(x:Sx)(i:Nat):Option (Option Sx):=if (H.tx i).aa=3 then Jl (H.tx i).ae x else B0
def Ba(H:Hs)(A:List Nat)(x:Sx):Option Sx:=A.foldl (λv i=>(FC H x i).getD v) B0
def D8(l:List Cm):Prop:=∀(q:Nat)(c:Cm),l[q]? = Bs c->¬An (l.take q) c.aj c.tx
def q6b{d:List Pr} : Jl d x=B0↔∀p∈d,sx p.key≠x:=by unfold Jl;rw[Option.map_eq_none_iff,YL];simp
def q4t(H:Hs)(A:List Nat)(i:Nat)(x:Sx):Ba H (A++[i]) x=(FC H x i).getD (Ba H A x):=by unfold Ba;rw[List.foldl_append];rfl
def qct{α β:Type}{f g:β->α->β} : ∀(l:List α)(b:β),(∀a∈l,∀b,f b a=g b a)->l.foldl f b=l.foldl g b
 |[],_,_=>rfl
 |a::l,b,h=>by
  rw[List.foldl_cons,List.foldl_cons,h a VB];exact qct l _ (λc d=>h c (VE _ d))
def SW{H H':Hs}{A:List Nat}(h:∀i∈A,FC H' x i=FC H x i):Ba H' A x=Ba H A x:=qct A B0 (λi d b=>by rw[h i d])
structure SI(H:Hs)(G:Gh)(ex:Nat->Int->Prop):Prop where
 gt:∀k,k<3->GT (H.sh k).tab
 t2:∀x,(H.sh 2).tab x=B0
 dn:∀k j,k<3->H.head k=Bs j->(H.sh k).done=(lg H k j).length
 pw:∀k j,k<2->Lv H k j->∀c∈lg H k j,c.aj=2->(H.tx c.tx.toNat).aa≠1/\k∈(H.tx c.tx.toNat).ag/\c.ae=(H.tx c.tx.toNat).of k
 wl:∀k j,k<3->Lv H k j->Ul (lg H k j)/\D8 (lg H k j)
 cv:∀k j,k<2->H.head k=Bs j->Fq (H.sh k).tab (lg H k j) (ex k)/\Fs (H.sh k).sto (lg H k j)
 wc:∀i,Ir H i->(∀x,CH H G i x->Aa x∈(H.tx i).ag)/\((H.tx i).ae.map (·.key)).Nodup
 se:∀i,Ir H i->∀k∈(H.tx i).ag,∀e,(H.tx i).af k=Bs e->e<=(H.sh k).ad
 ho:∀(i k:Nat),Ir H i->k<2->((H.tx i).aa=1\/(H.tx i).aa=2)->(H.tx i).af k=Bs (H.sh k).ad->∀x,Aa x=k->(Wr H i x->Hd (H.sh k).tab x i 2)/\(Rdx G i x->Hd (H.sh k).tab x i 1)
 tp:∀i,Ir H i->(H.tx i).ah≠0->((H.tx i).aa=2\/(H.tx i).aa=3)/\∀k∈(H.tx i).ag,∀j,Lv H k j->An (lg H k j) 2 i
 tu:∀i j,Ir H i->Ir H j->(H.tx i).ah≠0->(H.tx i).ah=(H.tx j).ah->i=j
 st:∀i,Ir H i->1<=(H.tx i).aa/\(H.tx i).aa<=4
 en:G.E.Nodup/\(∀i∈G.E,Ir H i/\(H.tx i).aa≠1)/\∀i,Ir H i->((H.tx i).aa=2\/(H.tx i).aa=3)->i∈G.E
 dm:∀t w x,Ir H t->Ir H w->t≠w->(H.tx w).aa=2->((H.tx t).aa=1\/(((H.tx t).aa=2\/(H.tx t).aa=3)/\Bef G.E w t))->CH H G t x->Wr H w x->BV H w
 tm:∀v w x,Bef G.E v w->Wr H v x->Wr H w x->(H.tx v).ah≠0->(H.tx w).ah≠0->(H.tx v).ah<(H.tx w).ah
 ri:∀t,Ir H t->∀x v,(x,v)∈G.rd t->((H.tx t).aa=1->Ba H G.E x=v)/\(((H.tx t).aa=2\/(H.tx t).aa=3)->∀A B,G.E=A++t::B->Ba H A x=v)
 wt:∀k,k<2->∀x (o m:Int),Wt (H.sh k).tab x o m->(1<=o/\o<=H.m)/\(H.tx o.toNat).aa=1/\(H.tx o.toNat).af k=Bs (H.sh k).ad/\Aa x=k
 ww:∀(i k:Nat),Ir H i->k<2->(H.tx i).aa=1->(H.tx i).af k=Bs (H.sh k).ad->∀x m,Aa x=k->((x,m)∈(H.tx i).ak↔Wt (H.sh k).tab x i m)
 wn:∀i,Ir H i->∀x m,(x,m)∈(H.tx i).ak->Aa x∈(H.tx i).ag
structure O9(H H':Hs):Prop where
 m:H'.m=H.m
 lv:∀k j,k<3->Lv H' k j->Lv H k j
 hd:∀k j,k<3->H'.head k=Bs j->H.head k=Bs j
 up:∀k j,k<3->Lv H' k j->lg H k j <+: lg H' k j
 sub:∀k j,k<3->Lv H' k j->∃i,Lv H k i/\lg H' k j <+: lg H k i
 lh:∀k j,k<3->H'.head k=Bs j->lg H' k j=lg H k j
 tab:∀k,k<3->(H'.sh k).tab=(H.sh k).tab/\(H'.sh k).sto=(H.sh k).sto/\(H'.sh k).done=(H.sh k).done/\(H'.sh k).ad=(H.sh k).ad
 tx:∀i,(H'.tx i).aa=(H.tx i).aa/\(H'.tx i).ae=(H.tx i).ae/\(H'.tx i).af=(H.tx i).af/\(H'.tx i).ah=(H.tx i).ah/\(H'.tx i).ak=(H.tx i).ak
def BV.mono{H H':Hs}(h:BV H i)(l:(H'.tx i).ah=(H.tx i).ah)(hs:(H'.tx i).af=(H.tx i).af)(q:∀k,k<2->(H'.sh k).ad=(H.sh k).ad)
  (hl:∀k j,k<2->Lv H' k j->An (lg H' k j) 2 i->∃d,Lv H k d/\An (lg H k d) 2 i):BV H' i:=by
 obtain⟨x,k,f,v,u⟩:=h;have t:(H'.tx i).ag=(H.tx i).ag:=DQ hs;refine⟨l.trans x,k,by rw[t];exact f,by rw[hs,q k (Cb f)];exact v,λj p e=>?_⟩;obtain⟨d,z,y⟩:=hl k j (Cb f) p e;exact u d z y
def D8.pre{l l':List Cm}(h:D8 l)(d:l' <+: l):D8 l':=λq c e=>by
 have f:=(ZC.1 e).1;rw[JR d (Yt f)];exact h q c (getElem?_prefix d e)
def D8.cR{l:List Cm}(h:D8 l)(t:¬An l c.aj c.tx):D8 (l++[c]):=λq d e=>by
 by_cases p:q<l.length;rw[VZ p]at e;rw[Wv (Yt p)];exact h q d e;have f:=(ZC.1 e).1;simp only[VJ,Wi,XB]at f;obtain rfl:q=l.length:=by omega
 simp only[Xv,VN]at e;subst e;rw[Zg rfl];exact t
def Wr.congr{H H':Hs}(e:(H'.tx i).ae=(H.tx i).ae):Wr H' i x↔Wr H i x:=by unfold Wr;rw[e]
def CH.congr{H H':Hs}{G:Gh}{i:Nat}{x:Sx}(e:(H'.tx i).ae=(H.tx i).ae):CH H' G i x↔CH H G i x:=by unfold CH;rw[Wr.congr e]
def q35{H H':Hs}(e:(H'.tx i).aa=(H.tx i).aa)(d:(H'.tx i).ae=(H.tx i).ae):FC H' x i=FC H x i:=by unfold FC;rw[e,d]
variable {H':Hs}{G:Gh}{ex:Nat->Int->Prop}
def SI.same(h:SI H G ex)(k:O9 H H'):SI H' G ex:=by
 have f:∀i,Ir H' i↔Ir H i:=λi=>by unfold Ir;rw[k.m]
 have q:∀i,(H'.tx i).ag=(H.tx i).ag:=λi=>DQ (k.tx i).2.2.1
 have y:∀i x,Wr H' i x↔Wr H i x:=λi x=>Wr.congr (k.tx i).2.1
 have L:∀i x,CH H' G i x↔CH H G i x:=λi x=>CH.congr (k.tx i).2.1
 have M:∀A x,Ba H' A x=Ba H A x:=λA x=>SW (λi _=>q35 (k.tx i).1 (k.tx i).2.1)
 have U:∀i,BV H i->BV H' i:=λi hd=>hd.mono (k.tx i).2.2.2.1 (k.tx i).2.2.1 (λa d=>(k.tab a Z0).2.2.2) (λa j d p e=>by
  obtain⟨D,J,I⟩:=k.sub a j Z0 p;exact⟨D,J,e.mono (λc N=>I.subset N)⟩)
 refine⟨λa d=>by rw[(k.tab a d).1];exact h.gt a d,λx=>by rw[(k.tab 2 Z0).1];exact h.t2 x,λa j d p=>by rw[(k.tab a d).2.2.1,k.lh a j d p];exact h.dn a j d (k.hd a j d p),
  λa j d p c N Z=>?_,λa j d p=>?_,λa j d p=>?_,λi l=>?_,λi l a d e z=>?_,λi a l d hs z x u=>?_,λi l E=>?_,λi j l p=>?_,λi l=>?_,?_,λt w x E X S hs O u R=>?_,λv w x O h1 h2=>?_,λt E x v Y=>?_,λa d x o m V=>?_,λi a l d hs z x m u=>?_,λi l x m u=>by rw[q];rw[(k.tx i).2.2.2.2]at u;exact h.wn i ((f i).1 l) x m u⟩
 obtain⟨D,J,I⟩:=k.sub a j Z0 p;rw[(k.tx _).1,q];obtain⟨q1,C,W⟩:=h.pw a D d J c (I.subset N) Z;exact⟨q1,C,by unfold Bu.of;rw[(k.tx _).2.1];exact W⟩;obtain⟨D,J,I⟩:=k.sub a j d p;exact⟨(h.wl a D d J).1.pre I,(h.wl a D d J).2.pre I⟩;rw[(k.tab a Z0).1,(k.tab a Z0).2.1,k.lh a j Z0 p];exact h.cv a j d (k.hd a j Z0 p);rw[q,(k.tx i).2.1];obtain⟨q1,C⟩:=h.wc i ((f i).1 l);exact⟨λx u=>q1 x ((L i x).1 u),C⟩;rw[q]at d;rw[(k.tx i).2.2.1]at z;rw[(k.tab a (Z4 (Cb d))).2.2.2];exact h.se i ((f i).1 l) a d e z;rw[(k.tx i).1]at hs;rw[(k.tx i).2.2.1,(k.tab a Z0).2.2.2]at z;rw[(k.tab a Z0).1,y];exact h.ho i a ((f i).1 l) d hs z x u
 ·rw[(k.tx i).2.2.2.1]at E;rw[(k.tx i).1,q];obtain⟨q1,C⟩:=h.tp i ((f i).1 l) E;exact⟨q1,λa d j p=>(C a d j (k.lv a j (Z4 (Cb d)) p)).mono (λc N=>(k.up a j (Z4 (Cb d)) p).subset N)⟩
 rw[(k.tx i).2.2.2.1,(k.tx j).2.2.2.1];exact h.tu i j ((f i).1 l) ((f j).1 p);rw[(k.tx i).1];exact h.st i ((f i).1 l);refine⟨h.en.1,λi l=>?_,λi l hs=>?_⟩;rw[f,(k.tx i).1];exact h.en.2.1 i l;rw[(k.tx i).1]at hs;exact h.en.2.2 i ((f i).1 l) hs;rw[(k.tx w).1]at hs;rw[(k.tx t).1]at O;exact U w (h.dm t w x ((f t).1 E) ((f w).1 X) S hs O ((L t x).1 u) ((y w x).1 R));rw[(k.tx v).2.2.2.1,(k.tx w).2.2.2.1];exact h.tm v w x O ((y v x).1 h1) ((y w x).1 h2);rw[(k.tx t).1,M];obtain⟨q1,C⟩:=h.ri t ((f t).1 E) x v Y;exact⟨q1,λhs A B hE=>by rw[M];exact C hs A B hE⟩;rw[(k.tab a Z0).1]at V;rw[k.m,(k.tx _).1,(k.tx _).2.2.1,(k.tab a Z0).2.2.2];exact h.wt a d x o m V;rw[(k.tx i).1]at hs;rw[(k.tx i).2.2.1,(k.tab a Z0).2.2.2]at z;rw[(k.tx i).2.2.2.2,(k.tab a Z0).1];exact h.ww i a ((f i).1 l) d hs z x m u
section
variable {H:Hs}{G:Gh}{ex:Nat->Int->Prop}{s j i:Nat}{c:Cm}{b:Bool}
open Classical in
def q77{T:Tb}{a:Nat}{w:Sx×Int} : w∈((H.b6 T tx).tx a).ak↔w∈(H.tx a).ak/\¬KV T tx a w.1:=by show w∈((H.tx a).ak.filter λw=>!decide (KV T tx a w.1))↔_;rw[YO];simp
def qa2(l:List Cm)(i:Nat)(c:Cm)(a:Nat)(w:Sx×Int):w∈((H.bG s l i c).tx a).ak↔w∈(H.tx a).ak/\(c.aj=3\/c.aj=4->¬KV (H.sh s).tab c.tx a w.1):=by
 unfold Hs.bG Hs.bb;by_cases p:c.aj=2;rw[Z8 p];constructor;exact λh=>⟨h,λe=>Z0⟩
 exact λh=>h.1
 rw[Z7 p];by_cases f:c.aj=3;rw[Z8 f];unfold Hs.bF;refine q77.trans ?_;rw[CJ];exact and_congr Yw ⟨λh _=>h,λh=>h (eR f)⟩;rw[Z7 f];by_cases d:c.aj=4;rw[Z8 d];unfold Hs.bF;refine q77.trans ?_;exact and_congr Yw ⟨λh _=>h,λh=>h (eS d)⟩;rw[Z7 d];constructor;exact λh=>⟨h,λe=>Z0⟩
 exact λh=>h.1
structure AddF(H H':Hs)(s j:Nat)(c:Cm):Prop where
 tab:(H'.sh s).tab=tabT c (H.sh s).tab
 sto:(H'.sh s).sto=Sp c (lg H s j) (H.sh s).sto
 done:(H'.sh s).done=(lg H s j++[c]).length
 ad:∀k,(H'.sh k).ad=(H.sh k).ad
 sh:∀k,k≠s->H'.sh k=H.sh k
 lg:∀a i,Go.Proofs.YtccahlhdifadfaaGreatDoor.lg H' a i=if a=s/\i=j then Go.Proofs.YtccahlhdifadfaaGreatDoor.lg H s j++[c]else Go.Proofs.YtccahlhdifadfaaGreatDoor.lg H a i
 lv:∀a i,Lv H' a i↔Lv H a i
 head:∀k,H'.head k=H.head k
 ak:∀a w,w∈(H'.tx a).ak↔w∈(H.tx a).ak/\(c.aj=3\/c.aj=4->¬KV (H.sh s).tab c.tx a w.1)
 tx:∀i,(H'.tx i).aa=(H.tx i).aa/\(H'.tx i).ae=(H.tx i).ae/\(H'.tx i).af=(H.tx i).af/\(H'.tx i).ah=(H.tx i).ah
 m:H'.m=H.m
def q5n(N:H.head s=Bs j)(J:(((H.sh s).nd j).add c b).2.2=0)(O:(H.sh s).done=(lg H s j).length):AddF H (H.add s j c b).2 s j c:=by
 have f:=Dt H s j c b;have q:=IY H s j c b;have t:(H.add s j c b).2=((H.au s j (((H.sh s).nd j).add c b).1.1).aO (((H.sh s).nd j).add c b).1.2).take s:=by unfold Hs.add;rw[Z7 (by simp[J])]
 have e1:=(P5 J).1;generalize hM:(H.au s j (((H.sh s).nd j).add c b).1.1).aO (((H.sh s).nd j).add c b).1.2=M at *;have l:M.sh s = {H.sh s with nd:=Af (H.sh s).nd j (((H.sh s).nd j).add c b).1.1}:=by rw[<- hM];exact EH _ _ _ _
 have D:M.head s=Bs j:=by
  rw[<- N];refine PZ (by rw[<- hM];rfl) (by rw[l]) (λa=>?_);rw[l];show(Af (H.sh s).nd j _ a).id=_/\(Af (H.sh s).nd j _ a).head=_;by_cases e:a=j;subst e;rw[Aq];exact⟨(q4y _ c b).2,(q4y _ c b).1⟩;rw[Ay e];exact⟨rfl,rfl⟩
 have v:((M.sh s).nd j).a4=lg H s j++[c]:=by rw[l];show(Af (H.sh s).nd j (((H.sh s).nd j).add c b).1.1 j).a4=_;rw[Aq,e1,q3o];rfl
 have E:(M.sh s).done=(lg H s j).length:=by rw[l];exact O
 have C:M.take s=M.bG s (lg H s j++[c]) (lg H s j).length c:=by
  have:M.take s=Hs.bu s ((M.sh s).nd j).a4 (((M.sh s).nd j).a4.length-(M.sh s).done) M:=by unfold Hs.take;rw[D]
  rw[this,v];exact PG E
 have u:M.tx=H.tx:=by rw[<- hM];rfl
 obtain⟨t1,x,I⟩:=qa3 (H:=M) (s:=s) (lg H s j++[c]) (lg H s j).length c;have p:(lg H s j++[c]).take (lg H s j).length=lg H s j:=Zg rfl;rw[p]at x;have d:(M.sh s).tab=(H.sh s).tab/\(M.sh s).sto=(H.sh s).sto:=by rw[l];exact⟨rfl,rfl⟩
 rw[d.1]at t1;rw[d.2]at x;have y:=λa w=>qa2 (H:=M) (s:=s) (lg H s j++[c]) (lg H s j).length c a w
 rw[u,d.1]at y;have z:=E9 H s j c b;rw[<- C,<- t]at t1 x I y;refine⟨t1,x,by rw[I];simp,z.ep,λk L=>qcy H s j c b L,λa i=>?_,q.2,λk=>q4m H s j c b k,y,λi=>⟨(f.2.2.2.2 i).1,(f.2.2.2.2 i).2.1,(f.2.2.2.2 i).2.2.1,(f.2.2.2.2 i).2.2.2.2⟩,f.2.2.1⟩;obtain h|h:=q.1;exfalso;have hl:lg (H.add s j c b).2 s j=lg H s j++[c]:=by
  have:=(AP.take M s).lg s j;rw[t,this];exact v
 rw[h]at hl;have:=congrArg List.length hl;simp at this;exact h a i
structure UO(H:Hs)(s j i:Nat)(c:Cm):Prop where
 tx:c.tx=(i:Int)
 ir:Ir H i
 aj:c.aj=2\/c.aj=3\/c.aj=4
 k2:s=2->c.aj=3
 wf:Eo c
 uq:¬An (lg H s j) c.aj c.tx
 pr:c.aj=2->(H.tx i).aa=2/\s∈(H.tx i).ag/\c.ae=(H.tx i).of s/\(H.tx i).af s=Bs (H.sh s).ad/\¬An (lg H s j) 3 i/\¬An (lg H s j) 4 i/\(∀w∈lg H s j,w.aj=2->Shr w.ae c.ae->¬EL (lg H s j) w.tx)/\∀p∈c.ae,DT (H.sh s).tab (sx p.key) i
 cl:s<2->c.aj=3\/c.aj=4->(H.tx i).aa=3\/(H.tx i).aa=4
def SI.ee{H':Hs}(h:SI H G ex)(wf:Wf H)(al:H.c=3)(hs:s<3)(hh:H.head s=Bs j)(a:UO H s j i c)(f:AddF H H' s j c):SI H' G (λk x=>ex k x/\(k≠s\/c.aj=2\/x≠(i:Int))):=by
 obtain⟨a3,_⟩:=CS hh;have u:∀x,Ir H' x↔Ir H x:=λx=>by unfold Ir;rw[f.m]
 have R:∀x,(H'.tx x).ag=(H.tx x).ag:=λx=>DQ (f.tx x).2.2.1
 have Y:∀i x,Wr H' i x↔Wr H i x:=λi x=>Wr.congr (f.tx i).2.1
 have a7:∀i x,CH H' G i x↔CH H G i x:=λi x=>CH.congr (f.tx i).2.1
 have ad:∀A x,Ba H' A x=Ba H A x:=λA x=>SW (λi _=>q35 (f.tx i).1 (f.tx i).2.1)
 have E:=h.gt s hs;have W:c.aj=2->∀p∈c.ae,DT (H.sh s).tab (sx p.key) c.tx:=λl p hp=>by rw[a.tx];exact(a.pr l).2.2.2.2.2.2.2 p hp
 have ag:Ul (lg H s j++[c])/\D8 (lg H s j++[c]):=by
  obtain⟨w1,w2⟩:=h.wl s j hs a3;refine⟨w1.cR (λl=>?_),w2.cR a.uq⟩;obtain⟨_,_,_,_,p5,p6,p7,_⟩:=a.pr l;have:=a.uq;rw[l]at this;exact⟨this,by rw[a.tx];exact p5,by rw[a.tx];exact p6,p7⟩
 have ai:∀w∈lg H s j,Eo w:=(wf.nd s j (by rw[al];exact hs) a3.1).a4;have L:∀k q,¬(k=s/\q=j)->lg H' k q=lg H k q:=λk q e=>by rw[f.lg,Z7 e]
 have J:lg H' s j=lg H s j++[c]:=by rw[f.lg,Z8 ⟨rfl,rfl⟩]
 have a4:∀k q,lg H k q <+: lg H' k q:=λk q=>by
  rw[f.lg];split;rename_i e;obtain⟨rfl,rfl⟩:=e;exact List.prefix_append _ _;exact VO _
 have ak:∀w,BV H w->BV H' w:=λw M=>by
  obtain⟨d1,k,d2,d3,d4⟩:=M;refine⟨(f.tx w).2.2.2.trans d1,k,by rw[R];exact d2,by rw[(f.tx w).2.2.1,f.ad];exact d3,λq I e=>?_⟩;have a9:=(f.lv k q).1 I;by_cases O:k=s/\q=j;obtain⟨rfl,rfl⟩:=O;rw[J]at e;obtain e4|⟨e4,e3⟩:=UW.1 e;exact d4 q a9 e4;rw[a.tx]at e3;have e3:i=w:=by omega
  subst e3;exact d3 (a.pr e4).2.2.2.1;rw[L k q O]at e;exact d4 q a9 e
 have z:∀k,k≠s->(H'.sh k).tab=(H.sh k).tab:=λk l=>by rw[f.sh k l]
 have aj:∀k,k<3->GT (H'.sh k).tab:=λk l=>by
  by_cases e:k=s;subst e;rw[f.tab];exact E.tabT W;rw[z k e];exact h.gt k l
 have ab:s<2->c.aj=3\/c.aj=4->∀o,((H.tx o).aa=1\/(H.tx o).aa=2)->(o:Int)≠c.tx:=λN l o ho e=>by
  rw[a.tx]at e;have e:o=i:=by omega
  subst e;have:=a.cl N l;omega
 have a1:(H'.sh 2).tab=(H.sh 2).tab:=by
  by_cases e:(2:Nat)=s;subst e;rw[f.tab,SQ (eR (a.k2 rfl))];funext x;unfold Bp;rw[h.t2 x];rfl;exact z 2 e
 have ac:∀k,k<2->∀x (o:Nat) m,((H.tx o).aa=1\/(H.tx o).aa=2)->Hd (H.sh k).tab x o m->Hd (H'.sh k).tab x o m:=λk l x o m ho M=>by
  by_cases e:k=s;subst e;rw[f.tab];by_cases N:c.aj=2;rw[q7k N];exact(SO _ E (W N)).up _ _ _ M;have S:c.aj=3\/c.aj=4:=a.aj.resolve_left N;rw[SQ S];exact M.bF E (ab l S o ho);rw[z k e];exact M
 have af:∀k,k<2->∀x o m,Wt (H'.sh k).tab x o m->Wt (H.sh k).tab x o m:=λk l x o m V=>by
  by_cases e:k=s;subst e;rw[f.tab]at V;by_cases N:c.aj=2;rw[q7k N]at V;unfold Wt at V ⊢;rw[<- (SO _ E (W N)).ws];exact V;rw[SQ (a.aj.resolve_left N)]at V;exact(qci E V).2;rw[z k e]at V;exact V
 refine⟨aj,λx=>by rw[a1];exact h.t2 x,λk q l I=>?_,λk q l I d M a5=>?_,λk q l I=>?_,λk q l I=>?_,λx C=>?_,λx C k l e he=>?_,λx k C l D he y X=>?_,λx C ht=>?_,λx y C X=>?_,λx C=>?_,?_,λt w x ht V aa a8 hb C ae=>?_,λv w x hb h1 N=>?_,λt ht x v hv=>?_,λk l x o m ho=>?_,λx k C l D he y m X=>?_,λx C y m X=>by rw[R];exact h.wn x ((u x).1 C) y m ((f.ak x _).1 X).1⟩;rw[f.head]at I;by_cases e:k=s;subst e;rw[hh]at I;injection I with I;subst I;rw[f.done,J];rw[f.sh k e,L k q (λO=>e O.1)];exact h.dn k q l I;rw[(f.tx _).1,R];have ah:((H'.tx d.tx.toNat).of k)=(H.tx d.tx.toNat).of k:=by unfold Bu.of;rw[(f.tx _).2.1]
 rw[ah];by_cases O:k=s/\q=j;obtain⟨rfl,rfl⟩:=O;rw[J]at M;obtain M|M:=XA.1 M;exact h.pw k q l a3 d M a5;rw[VU]at M;subst M;obtain⟨p1,p2,p3,_⟩:=a.pr a5;rw[a.tx];exact⟨by show(H.tx i).aa≠1;omega,p2,p3⟩;rw[L k q O]at M;exact h.pw k q l ((f.lv k q).1 I) d M a5;by_cases O:k=s/\q=j;obtain⟨rfl,rfl⟩:=O;rw[J];exact ag;rw[L k q O];exact h.wl k q l ((f.lv k q).1 I)
 ·rw[f.head]at I;by_cases e:k=s
  ·subst e;rw[hh]at I;injection I with I;subst I;obtain⟨c1,c2⟩:=h.cv k j l hh;rw[J,f.tab,f.sto];refine⟨(c1.step E a.aj W).mono (λx C=>⟨C.1,?_⟩) (λ_ _ _ _ h=>h),c2.step a.wf ai⟩;obtain e|e:=C.2;exact eS (eR e);exact eS (eS (by rw[<- a.tx];exact e))
  rw[f.sh k e,L k q (λO=>e O.1)];obtain⟨c1,c2⟩:=h.cv k q l I;exact⟨c1.mono (λx C=>⟨C,eR e⟩) (λ_ _ _ _ h=>h),c2⟩
 rw[R,(f.tx x).2.1];obtain⟨q1,U⟩:=h.wc x ((u x).1 C);exact⟨λy X=>q1 y ((a7 x y).1 X),U⟩;rw[R]at l;rw[(f.tx x).2.2.1]at he;rw[f.ad];exact h.se x ((u x).1 C) k l e he;rw[(f.tx x).1]at D;rw[(f.tx x).2.2.1,f.ad]at he;obtain⟨q1,U⟩:=h.ho x k ((u x).1 C) l D he y X;exact⟨λV=>ac k l _ _ _ D (q1 ((Y x y).1 V)),λhr=>ac k l _ _ _ D (U hr)⟩
 ·rw[(f.tx x).2.2.2]at ht;rw[(f.tx x).1,R];obtain⟨q1,U⟩:=h.tp x ((u x).1 C) ht;exact⟨q1,λk l q I=>(U k l q ((f.lv k q).1 I)).mono (λd M=>(a4 k q).subset M)⟩
 rw[(f.tx x).2.2.2,(f.tx y).2.2.2];exact h.tu x y ((u x).1 C) ((u y).1 X);rw[(f.tx x).1];exact h.st x ((u x).1 C);refine⟨h.en.1,λx C=>?_,λx C D=>?_⟩;rw[u,(f.tx x).1];exact h.en.2.1 x C;rw[(f.tx x).1]at D;exact h.en.2.2 x ((u x).1 C) D;rw[(f.tx w).1]at a8;rw[(f.tx t).1]at hb;exact ak w (h.dm t w x ((u t).1 ht) ((u w).1 V) aa a8 hb ((a7 t x).1 C) ((Y w x).1 ae));rw[(f.tx v).2.2.2,(f.tx w).2.2.2];exact h.tm v w x hb ((Y v x).1 h1) ((Y w x).1 N);rw[(f.tx t).1,ad];obtain⟨q1,U⟩:=h.ri t ((u t).1 ht) x v hv;exact⟨q1,λhs A B hE=>by rw[ad];exact U hs A B hE⟩;rw[f.m,(f.tx _).1,(f.tx _).2.2.1,f.ad];exact h.wt k l x o m (af k l x o m ho);rw[(f.tx x).1]at D;rw[(f.tx x).2.2.1,f.ad]at he;rw[f.ak];have a0:=h.ww x k ((u x).1 C) l D he y m X;by_cases N:c.aj=2;have a2:Wt (H'.sh k).tab y x m↔Wt (H.sh k).tab y x m:=by
  by_cases e:k=s;subst e;rw[f.tab,q7k N];unfold Wt;rw[(SO _ E (W N)).ws];rw[z k e]
 rw[a2,<- a0];exact⟨λq=>q.1,λq=>⟨q,λe=>Z0⟩⟩;have S:=a.aj.resolve_left N;by_cases e:k=s;subst e;rw[f.tab,SQ S];have a6:(x:Int)≠c.tx:=ab l S x (eR D);constructor;rintro ⟨q1,U⟩;obtain q|q:=q7q E (a0.1 q1) a6;exact q.1;exact ZB q.1 (U S);intro q;obtain⟨_,U⟩:=qci E q;refine⟨a0.2 U,λ_ hg=>?_⟩;obtain q3|q3:=q7q E U a6;exact q3.2 hg;exact q3.2.2 m q;rw[z k e,<- a0];refine⟨λq=>q.1,λq=>⟨q,λ_ hg=>?_⟩⟩;obtain⟨_,m',Z⟩:=II E hg;by_cases O:s=2;subst O;unfold Wt Ad at Z;rw[h.t2 y]at Z;cases Z;have:=(h.wt s Z0 y _ _ Z).2.2.2;omega
end
def R8{l:List Cm}{m:Nat}(h:D8 l)(t:∀c∈l,(c.aj=2\/c.aj=3\/c.aj=4)/\1<=c.tx/\c.tx<=m):l.length<=3*m:=by
 have q:(l.map λc:Cm=>((c.aj-2)*(m:Int)+(c.tx-1)).toNat).Nodup:=by
  rw[Yz,Xb,List.pairwise_iff_getElem];intro i j D v C e;have z:=h j l[j] (K0 v);have u:l[i]∈l.take j:=List.mem_take_iff_getElem.2 ⟨i,Z0,rfl⟩;obtain⟨d,I,a3⟩:=t _ (Wy D);obtain⟨f,L,J⟩:=t _ (Wy v);refine z ⟨l[i],u,?_⟩;obtain d|d|d:=d<;> obtain f|f|f:=f<;> rw[d,f]at e<;>rw[d,f]<;>omega
 have p:∀x∈(l.map λc:Cm=>((c.aj-2)*(m:Int)+(c.tx-1)).toNat),x∈Ww (3*m):=λx y=>by
  obtain⟨c,E,rfl⟩:=ZE.1 y;obtain⟨d,I,a3⟩:=t c E;rw[Zs];obtain d|d|d:=d<;> rw[d]<;>omega
 have:=WL q p;rw[V0,List.length_range]at this;exact this
section
variable {H H':Hs}{G:Gh}{ex:Nat->Int->Prop}{i:Nat}{B:Int}
def Ac.aj(a:Ac H B){k j:Nat}(u:k<3)(f:Lv H k j){c:Cm}(l:c∈lg H k j):(c.aj=2\/c.aj=3\/c.aj=4)/\1<=c.tx/\c.tx<=H.m:=by
 by_cases t:k<2;obtain⟨p,q⟩:=ZI.1 l;obtain⟨e,d⟩:=a.bT.pl k t j f p c q;exact⟨d.imp id (Or.imp (λh=>h.1) (λh=>h.1)),e⟩;obtain rfl:k=2:=by omega
 obtain⟨e,d,_⟩:=a.bT.p2 j f c l;exact⟨eS (eR d),e⟩
def SI.dB(h:SI H G ex)(d:Di H)(t:H.m<=60)(hs:s<3)(v:H.head s=Bs j)(c:Cm)(b:Bool):(((H.sh s).nd j).add c b).2.2=0:=by
 obtain⟨hl,x⟩:=CS v;have e:(lg H s j).length<=3*H.m:=R8 (h.wl s j hs hl).2 (λc q=>by
  by_cases y:s<2;obtain⟨p,u⟩:=ZI.1 q;obtain⟨l,f⟩:=d.pl s y j hl p c u;exact⟨f.imp id (Or.imp (λh=>h.1) (λh=>h.1)),l⟩;obtain rfl:s=2:=by omega
  obtain⟨l,f,_⟩:=d.p2 j hl c q;exact⟨eS (eR f),l⟩)
 unfold Nd.add;rw[x,Z7 Z3,Z7 (by unfold lg at e;omega)]
def SI.eN(h:SI H G ex){d:Nat->Int->Prop}(l:∀k j,k<2->H.head k=Bs j->Fq (H.sh k).tab (lg H k j) (d k)):SI H G d:=
 ⟨h.gt,h.t2,h.dn,h.pw,h.wl,λk j e f=>⟨l k j e f,(h.cv k j e f).2⟩,h.wc,h.se,h.ho,h.tp,h.tu,h.st,h.en,h.dm,h.tm,h.ri,h.wt,h.ww,h.wn⟩
def FZ(l:Wf H)(f:1<=i)(d:i<=H.m){kind:Int}(q:k<2)(hs:(kind=3/\(H.tx i).aa=3)\/(kind=4/\(H.tx i).aa=4))(p:¬An (lg H k j) kind i):UO H k j i (tellC H i kind):=
 ⟨rfl,⟨f,d⟩,by obtain⟨rfl,_⟩|⟨rfl,_⟩:=hs<;> simp[tellC],λe=>Z0,l.dA f d kind,p,λe=>by
  have e:kind=2:=e;obtain⟨h,_⟩|⟨h,_⟩:=hs<;> omega,λ_ _=>hs.imp (λh=>h.2) (λh=>h.2)⟩
def SI.aC(h:SI H G ex)(v:Wf H)(y:Di H)(I:H.c=3)(O:1<=i)(N:i<=H.m){kind:Int}{k:Nat}(M:k<2)(hs:(kind=3/\(H.tx i).aa=3)\/(kind=4/\(H.tx i).aa=4)) :
  SI (H.aC i kind k) G (λk' x=>ex k' x/\(k'≠k\/x≠(i:Int))):=by
 cases l:H.head k with
 |none=>
  rw[J6 l];refine h.eN (λk' j f E=>((h.cv k' j f E).1).mono (λx p=>⟨p,eR (λe=>by subst e;rw[l]at E;cases E)⟩) (λ_ _ _ _ h=>h))
 |some j=>
  rw[Jd l];split
  ·rename_i C;have J:=h.ee v I Z0 l (FZ v O N M hs (RE.1 C.1)) (q5n (b:=L1) l (h.dB y v.cr Z0 l _ _) (h.dn k j Z0 l));refine J.eN (λk' z f d=>((J.cv k' z f d).1).mono (λx p=>⟨p.1,?_⟩) (λ_ _ _ _ h=>h));obtain e|e|e:=p.2;exact eR e;have e:kind=2:=e;obtain⟨h,_⟩|⟨h,_⟩:=hs<;> omega;exact eS e
  rename_i C;refine h.eN (λk' z f d=>?_);by_cases e:k'=k;subst e;rw[l]at d;injection d with d;subst d;intro w L D q p;by_cases u:w.tx=(i:Int);exfalso;refine C ⟨RE.2 (λt=>?_),λt=>?_⟩;obtain⟨rfl,_⟩|⟨rfl,_⟩:=hs;exact q.2.1 (by rw[u];exact t);exact q.2.2 (by rw[u];exact t);exact RE.1 t (by rw[<- u];exact q.1);exact(h.cv k' j f l).1 w L D q (λR=>p ⟨R,eS u⟩);exact((h.cv k' z f d).1).mono (λx p=>⟨p,eR e⟩) (λ_ _ _ _ h=>h)
def SI.br{kind:Int}(l:1<=i):∀(ks:List Nat) {H:Hs} {ex:Nat->Int->Prop},SI H G ex->Wf H->Di H->H.c=3->i<=H.m->(∀k∈ks,k<2)->((kind=3/\(H.tx i).aa=3)\/(kind=4/\(H.tx i).aa=4))->
  SI (Go.Proofs.YtccahlhdifadfaaGreatDoor.telld H i kind ks) G (λk x=>ex k x/\(k ∉ ks\/x≠(i:Int)))
 |[],H,ex,h,_,_,_,_,_,_=>h.eN (λk j f q=>((h.cv k j f q).1).mono (λx d=>⟨d,eR Z3⟩) (λ_ _ _ _ h=>h))
 |k::ks,H,ex,h,wf,lgi,hc,hi,f,hs=>by
  have e:=Ee H i kind k;have t:=SI.br l ks (h.aC wf lgi hc l hi (f k VB) hs) (wf.aC l hi (Z4 (f k VB)) _)
   (lgi.aC l hi (f k VB) (hs.imp (λ⟨a,b⟩=>⟨a,b,lgi.ct i l hi b⟩) id)) (e.2.1.trans hc) (by rw[e.2.2.1];exact hi) (λx d=>f x (VE _ d)) (by rw[(e.2.2.2.2 i).1];exact hs)
  refine t.eN (λk' j p q=>((t.cv k' j p q).1).mono (λx d=>⟨d.1.1,?_⟩) (λ_ _ _ _ h=>h));obtain a|a:=d.1.2;obtain b|b:=d.2;exact eR (by simp[a,b]);exact eS b;exact eS a
def q8i(i:Nat):∀(ks:List Nat)(H:Hs),ks.Nodup->∀k,(reld H i ks).sh k=if k∈ks then {H.sh k with tab:=Bp (H.sh k).tab i}else H.sh k
 |[],H,_,k=>by rw[Z7 Z3];rfl
 |q::ks,H,hn,k=>by
  rw[YN]at hn;show(reld (H.bF q i) i ks).sh k=_;rw[q8i i ks _ hn.2 k];have f:∀k,(H.bF q i).sh k=if k=q then {H.sh q with tab:=Bp (H.sh q).tab i}else H.sh k:=λk=>by
   show(Af H.sh q _ k)=_;unfold Af;rfl
  rw[f];by_cases e:k=q;subst e;simp[hn.1];by_cases d:k∈ks;simp[e,d];simp[e,d]
def qch(i:Nat):∀(ks:List Nat)(H:Hs),ks.Nodup->∀a w,w∈((reld H i ks).tx a).ak↔w∈(H.tx a).ak/\∀k∈ks,¬KV (H.sh k).tab i a w.1
 |[],H,_,a,w=>⟨λh=>⟨h,λ_ h=>(nomatch h)⟩,λh=>h.1⟩
 |q::ks,H,hn,a,w=>by
  rw[YN]at hn;show w∈((reld (H.bF q i) i ks).tx a).ak↔_;rw[qch i ks _ hn.2 a w];have p:∀k,k∈ks->(H.bF q i).sh k=H.sh k:=λk d=>by
   show(Af H.sh q _ k)=_;exact Ay (show k≠q from λe=>hn.1 (by rw[<- e];exact d)) _
  have t:w∈((H.bF q i).tx a).ak↔w∈(H.tx a).ak/\¬KV (H.sh q).tab i a w.1:=q77;rw[t];constructor;rintro ⟨⟨l,f⟩,a3⟩;refine⟨l,λk d=>?_⟩;obtain rfl|d:=ZF.1 d;exact f;rw[<- p k d];exact a3 k d;rintro ⟨l,f⟩;exact⟨⟨l,f q VB⟩,λk d=>by rw[p k d];exact f k (VE _ d)⟩
def qae(i:Nat)(ks:List Nat)(H:Hs)(d:ks.Nodup)(k:Nat):(reld H i ks).head k=H.head k:=by refine PZ (Gv i ks H).2.1 ?_ (λa=>?_);rw[q8i i ks H d];split<;>rfl;rw[q8i i ks H d];split<;>exact⟨rfl,rfl⟩
def SI.bM(h:SI H G (λ_ _=>False))(h1:1<=i)(hi:i<=H.m)(hs:(H.tx i).aa=1\/((H.tx i).aa=2/\(H.tx i).ah=0)):SI (reld (H.an i) i (H.tx i).ag) G (λk x=>x=(i:Int)/\k∈(H.tx i).ag):=by
 have hn:=q2x (H.tx i);generalize a6:(H.tx i).ag=ks at *;have V:=Gv i ks (H.an i);have aa:=q8i i ks (H.an i) hn;have O:=qch i ks (H.an i) hn;have ac:∀k,(reld (H.an i) i ks).head k=H.head k:=λk=>(qae i ks (H.an i) hn k).trans (RD rfl rfl)
 have z:AP H (reld (H.an i) i ks):=(AP.ay H i _).trans (LV i ks _);generalize hK:reld (H.an i) i ks=K at *;have S:∀a,((H.an i).tx a).aa=(if a=i then 4 else(H.tx a).aa)/\((H.an i).tx a).ae=(H.tx a).ae/\((H.an i).tx a).af=(H.tx a).af/\((H.an i).tx a).ah=(H.tx a).ah/\((H.an i).tx a).ak=(if a=i then []else(H.tx a).ak):=λa=>by
  show((Af H.tx i _ a).aa=_/\(Af H.tx i _ a).ae=_/\(Af H.tx i _ a).af=_/\(Af H.tx i _ a).ah=_/\(Af H.tx i _ a).ak=_);by_cases e:a=i;subst e;rw[Aq,Z8 rfl,Z8 rfl];exact⟨rfl,rfl,rfl,rfl,rfl⟩;rw[Ay e,Z7 e,Z7 e];exact⟨rfl,rfl,rfl,rfl,rfl⟩
 have u:∀a,(K.tx a).aa=if a=i then 4 else(H.tx a).aa:=λa=>((V.2.2.2.2 a).1).trans (S a).1
 have E:∀a,(K.tx a).ae=(H.tx a).ae:=λa=>((V.2.2.2.2 a).2.1).trans (S a).2.1
 have C:∀a,(K.tx a).af=(H.tx a).af:=λa=>((V.2.2.2.2 a).2.2.1).trans (S a).2.2.1
 have R:∀a,(K.tx a).ah=(H.tx a).ah:=λa=>((V.2.2.2.2 a).2.2.2.2).trans (S a).2.2.2.1
 have hm:K.m=H.m:=V.2.2.1;have l:∀a,Ir K a↔Ir H a:=λa=>by unfold Ir;rw[hm]
 have W:∀a,(K.tx a).ag=(H.tx a).ag:=λa=>DQ (C a)
 have X:∀a x,Wr K a x↔Wr H a x:=λa x=>Wr.congr (E a)
 have a9:∀a x,CH K G a x↔CH H G a x:=λa x=>CH.congr (E a)
 have al:(H.tx i).ah=0:=Wc (λe=>by have:=(h.tp i ⟨h1,hi⟩ e).1;obtain h|⟨_,h⟩:=hs<;> omega);have I:∀k,(K.sh k).tab=if k∈ks then Bp (H.sh k).tab i else(H.sh k).tab:=λk=>by rw[aa];split<;>rfl
 have y:∀k,(K.sh k).sto=(H.sh k).sto/\(K.sh k).done=(H.sh k).done/\(K.sh k).ad=(H.sh k).ad:=λk=>by rw[aa];split<;>exact⟨rfl,rfl,rfl⟩
 have a7:∀k∈ks,k<2:=λk d=>Cb (a6▸d)
 have M:∀k,k<3->∀x (o m:Int),o≠i->Hd (H.sh k).tab x o m->Hd (K.sh k).tab x o m:=λk d x o m Z hd=>by
  rw[I];split;exact hd.bF (h.gt k d) Z;exact hd
 have ag:∀k,k<2->∀x (o m:Int),Wt (K.sh k).tab x o m->o≠i/\Wt (H.sh k).tab x o m:=λk d x o m O=>by
  rw[I]at O;split at O;exact qci (h.gt k Z0) O;rename_i an;refine⟨λe=>an ?_,O⟩;obtain⟨_,_,a3,_⟩:=h.wt k d x o m O;subst e;rw[<- a6];exact D5.2 ⟨Z0,by rw[show((i:Int).toNat)=i by omega]at a3;rw[a3];simp⟩
 have ap:∀w,BV H w->BV K w:=λw hd=>hd.mono (R w) (C w) (λk _=>(y k).2.2) (λk j d N e=>⟨j,z.lv.1 N,by rw[z.lg]at e;exact e⟩)
 have ae:∀A x,Ba K A x=Ba H A x:=λA x=>SW (λa _=>by
  unfold FC;rw[u,E];by_cases e:a=i;subst e;rw[Z8 rfl,Z7 Z2,Z7 (by obtain h|⟨h,_⟩:=hs<;> omega)];rw[Z7 e])
 refine⟨λk d=>by rw[I];split;exact(h.gt k d).bF i;exact h.gt k d,λx=>by rw[I,Z7 (λe=>Z4 (a7 2 e))];exact h.t2 x,λk j d N=>by rw[(y k).2.1,z.lg];rw[ac]at N;exact h.dn k j d N,
  λk j d N c hc ao=>?_,λk j d N=>by rw[z.lg];exact h.wl k j d (z.lv.1 N),λk j d N=>?_,λa D=>?_,λa D k d e he=>?_,λa k D d f he x U=>?_,λa D ht=>?_,λa b D hb=>by rw[R,R];exact h.tu a b ((l a).1 D) ((l b).1 hb),λa D=>?_,?_,λt w x ht ak Z Y hb U af=>?_,λv w x hb h1 h2=>by rw[R,R];exact h.tm v w x hb ((X v x).1 h1) ((X w x).1 h2),λt ht x v hv=>?_,λk d x o m ho=>?_,λa k D d f he x m U=>?_,λa D x m U=>?_⟩
 rw[z.lg]at hc;obtain⟨a1,a2,a3⟩:=h.pw k j d (z.lv.1 N) c hc ao;rw[u,W];refine⟨?_,a2,by unfold Bu.of;rw[E];exact a3⟩;split;decide;exact a1;rw[ac]at N;obtain⟨c1,c2⟩:=h.cv k j d N;rw[z.lg,(y k).1];refine⟨λw O ab ho U p hp=>?_,c2⟩;refine M k Z0 _ _ _ (λe=>U ⟨e,?_⟩) (c1 w O ab ho (λe=>e) p hp);have:=(h.pw k j d (CS N).1 w O ab).2.1;rw[e,show((i:Int).toNat)=i by omega,a6]at this;exact this;obtain⟨q1,L⟩:=h.wc a ((l a).1 D);rw[W,E];exact⟨λx U=>q1 x ((a9 a x).1 U),L⟩;rw[W]at d;rw[C]at he;rw[(y k).2.2];exact h.se a ((l a).1 D) k d e he;rw[u]at f;have J:a≠i:=λe=>by rw[Z8 e]at f;omega
 rw[Z7 J]at f;rw[C,(y k).2.2]at he;obtain⟨q1,L⟩:=h.ho a k ((l a).1 D) d f he x U;exact⟨λO=>M k Z0 _ _ _ Z0 (q1 ((X a x).1 O)),λhr=>M k Z0 _ _ _ Z0 (L hr)⟩;rw[R]at ht;have J:a≠i:=λe=>by subst e;exact ht al
 rw[u,Z7 J,W];obtain⟨q1,L⟩:=h.tp a ((l a).1 D) ht;exact⟨q1,λk d j N=>by rw[z.lg];exact L k d j (z.lv.1 N)⟩;rw[u];split;decide;exact h.st a ((l a).1 D);refine⟨h.en.1,λa D=>?_,λa D f=>?_⟩;obtain⟨q1,L⟩:=h.en.2.1 a D;refine⟨(l a).2 q1,?_⟩;rw[u];split;decide;exact L;rw[u]at f;have J:a≠i:=λe=>by rw[Z8 e]at f;omega
 rw[Z7 J]at f;exact h.en.2.2 a ((l a).1 D) f;rw[u]at Y;have ai:w≠i:=λe=>by rw[Z8 e]at Y;omega
 rw[Z7 ai]at Y;rw[u]at hb;have a8:t≠i:=λe=>by rw[Z8 e]at hb;omega
 rw[Z7 a8]at hb;exact ap w (h.dm t w x ((l t).1 ht) ((l w).1 ak) Z Y hb ((a9 t x).1 U) ((X w x).1 af));obtain⟨q1,L⟩:=h.ri t ((l t).1 ht) x v hv;rw[u,ae];by_cases e:t=i;rw[Z8 e];exact⟨λh=>Z0,λh=>Z0⟩;rw[Z7 e];exact⟨q1,λam A B hE=>by rw[ae];exact L am A B hE⟩;obtain⟨q1,L⟩:=ag k d x o m ho;obtain⟨a1,a2,a3,a4⟩:=h.wt k d x o m L;rw[hm,u,C,(y k).2.2,Z7 Z0];exact⟨a1,a2,a3,a4⟩;rw[u]at f;have J:a≠i:=λe=>by rw[Z8 e]at f;omega
 rw[Z7 J]at f;rw[C,(y k).2.2]at he;have a5:=h.ww a k ((l a).1 D) d f he x m U;have aj:((H.an i).tx a).ak=(H.tx a).ak:=by rw[(S a).2.2.2.2,Z7 J]
 rw[O,aj];have ad:∀q∈ks,q≠k->¬KV ((H.an i).sh q).tab i a x:=λq hq Z hg=>by
  obtain⟨_,m',ah⟩:=II (h.gt q (Z4 (a7 q hq))) hg;have:=(h.wt q (a7 q hq) x _ _ ah).2.2.2;omega
 rw[I];by_cases e:k∈ks;rw[Z8 e];constructor;rintro ⟨q1,L⟩;obtain q|q:=q7q (h.gt k Z0) (tx:=i) (a5.1 q1) Z0;exact q.1;exact ZB q.1 (L k e);intro q;obtain⟨_,L⟩:=qci (h.gt k Z0) q;refine⟨a5.2 L,λk' a0 hg=>?_⟩;by_cases e2:k'=k;subst e2;obtain q3|q3:=q7q (h.gt k' Z0) (tx:=i) L Z0;exact q3.2 hg;exact q3.2.2 m q;exact ad k' a0 e2 hg;rw[Z7 e,<- a5];exact⟨λq=>q.1,λq=>⟨q,λk' a0 hg=>ad k' a0 (λe2=>e (e2▸a0)) hg⟩⟩;rw[W];have:=((O a (x,m)).1 U).1;rw[(S a).2.2.2.2]at this;split at this;cases this;exact h.wn a ((l a).1 D) x m this
def SI.a3(h:SI H G (λ_ _=>False))(J:Wf H)(q:Di H)(N:H.c=3)(C:1<=i)(y:i<=H.m)(hs:(H.tx i).aa=1\/((H.tx i).aa=2/\(H.tx i).ah=0)):SI (H.a3 i) G (λ_ _=>False):=by
 rw[I9];have O:=h.bM C y hs;have d:=Gv i (H.tx i).ag (H.an i);have p:Wf (reld (H.an i) i (H.tx i).ag):=(J.an C y).cK i _ (λk l=>by show k<H.c;have:=Cb l;omega);have u:((reld (H.an i) i (H.tx i).ag).tx i).aa=4:=by
  rw[(d.2.2.2.2 i).1];show(Af H.tx i _ i).aa=4;rw[Aq]
 have z:((reld (H.an i) i (H.tx i).ag).tx i).ag=(H.tx i).ag:=DQ (by rw[(d.2.2.2.2 i).2.2.1];show(Af H.tx i _ i).af=_;rw[Aq]);have f:Di (reld (H.an i) i (H.tx i).ag):=by
  have t1:BC H (H.an i):=by
   refine⟨Hi _,λa _ _ e=>?_,λa _ _ e=>?_,λa _ _ e=>?_⟩;show(Af H.tx i _ a).aa=_;by_cases d:a=i;subst d;rw[e]at hs;obtain h|⟨h,_⟩:=hs<;> cases h;rw[Ay d];exact e;show(Af H.tx i _ a).aa=_;by_cases d:a=i;subst d;rw[Aq];rw[Ay d];exact e;show(Af H.tx i _ a).ah=_;by_cases d:a=i;subst d;rw[Aq];rw[Ay d]
  have L:BC (H.an i) (reld (H.an i) i (H.tx i).ag):=BC.of d.2.2.1 (λa=>⟨(d.2.2.2.2 a).1,(d.2.2.2.2 a).2.2.2.2⟩);have v:AU H (reld (H.an i) i (H.tx i).ag):=λa R E e=>by
   rw[(d.2.2.2.2 a).1]at e;have e:(Af H.tx i _ a).aa=3:=e;refine⟨by rw[d.2.2.1]at E;exact E,?_⟩;by_cases I:a=i;subst I;rw[Aq]at e;cases e;rw[Ay I]at e;exact e
  exact q.sub (t1.trans L) v (BU.same ((AP.ay H i _).trans (LV i _ _)))
 show SI (Go.Proofs.YtccahlhdifadfaaGreatDoor.telld _ i 4 _) G _;rw[z];have D:=SI.br (kind:=4) C (H.tx i).ag O p f (d.1.trans N) (by rw[d.2.2.1];exact y) (λk l=>Cb l) (eS ⟨rfl,u⟩);refine D.eN (λk j l M=>((D.cv k j l M).1).mono (λx t=>?_) (λ_ _ _ _ h=>h));obtain a|a:=t.2;exact a t.1.2;exact a t.1.1
def SI.db(h:SI H G (λ_ _=>False))(a:Ac H B){k j:Nat}(L:1<=i)(E:i<=H.m)(N:k∈(H.tx i).ag)(O:H.head k=Bs j)(f:¬An (lg H k j) 2 i)(hs:(H.tx i).aa=2)
  (R:(H.tx i).af k=Bs (H.sh k).ad):UO H k j i ⟨2,i,0,(H.tx i).of k⟩:=by
 have d:=Cb N;obtain⟨hl,_⟩:=CS O;have I:=λx=>h.ho i k ⟨L,E⟩ d (eS hs) R x
 have l:∀y,y=3\/y=4->¬An (lg H k j) y i:=λy W J=>by
  obtain⟨c,J,e1,M⟩:=J;obtain⟨p,f⟩:=ZI.1 J;obtain⟨_,t⟩:=a.bT.pl k d j hl p c f;have X:Sn H c.tx=(H.tx i).aa:=by rw[M];rfl
  obtain t|t|t:=t;omega;have:=t.2.1;omega;have:=t.2;omega
 have u:∀p∈(H.tx i).of k,Hd (H.sh k).tab (sx p.key) i 2:=λp f=>by
  obtain⟨q1,S⟩:=YO.1 f;exact(I (sx p.key) (Z6 S)).1 ⟨p,q1,rfl⟩
 refine⟨rfl,⟨L,E⟩,eR rfl,λe=>Z0,a.wf.db L E k,f,λ_=>⟨hs,N,rfl,R,l 3 (eR rfl),l 4 (eS rfl),λw z v C V=>?_,λp f=>?_⟩,λ_ e=>by
  have e:(2:Int)=3\/(2:Int)=4:=e;omega⟩
 ·obtain⟨p,D,q,U,e⟩:=C;have e1:=(h.cv k j d O).1 w z v V (λe=>e) p D;have M:=u q U;rw[e]at e1;have:=Hd.eM (h.gt k Z0) e1 (M.mono Z0);exact f ⟨w,z,v,this⟩
 exact DT.of_hd (u p f) (λm z=>by
  have:=(h.wt k d _ _ _ z).2.1;rw[show((i:Int).toNat)=i by omega]at this;omega)
def SI.prep(h:SI H G (λ_ _=>False))(a:Ac H B){k j:Nat}(b:Bool)(C:1<=i)(y:i<=H.m)(l:k∈(H.tx i).ag)(d:H.head k=Bs j)(u:¬An (lg H k j) 2 i)(hs:(H.tx i).aa=2)
  (z:(H.tx i).af k=Bs (H.sh k).ad):SI (H.add k j ⟨2,i,0,(H.tx i).of k⟩ b).2 G (λ_ _=>False):=by
 have v:=Cb l;have p:=h.ee a.wf a.c Z0 d (h.db a C y l d u hs z) (q5n (b:=b) d (h.dB a.bT a.wf.cr Z0 d _ _) (h.dn k j Z0 d));exact p.eN (λk' q e f=>((p.cv k' q e f).1).mono (λx t=>t.1) (λ_ _ _ _ h=>h))
def SI.decide(h:SI H G (λ_ _=>False))(a:Ac H B){j:Nat}(b:Bool)(t:1<=i)(p:i<=H.m)(d:H.head 2=Bs j)(y:¬An (lg H 2 j) 3 i):SI (H.add 2 j ⟨3,i,(H.tx i).ah,[]⟩ b).2 G (λ_ _=>False):=by
 have z:UO H 2 j i ⟨3,i,(H.tx i).ah,[]⟩:=⟨rfl,⟨t,p⟩,eS (eR rfl),λ_=>rfl,a.wf.eB t p,y,λe=>by
  have e:(3:Int)=2:=e;omega,λe=>Z0⟩
 have q:=h.ee a.wf a.c Z0 d z (q5n (b:=b) d (h.dB a.bT a.wf.cr Z0 d _ _) (h.dn 2 j Z0 d));exact q.eN (λk' u f l=>((q.cv k' u f l).1).mono (λx v=>v.1) (λ_ _ _ _ h=>h))
def O3{a b:Nat}(h:Bef E a b):a∈E/\b∈E:=by obtain⟨A,C,rfl,d⟩:=h;exact⟨by simp[d],Z3⟩
def Uc{a b:Nat}(h:Bef E a b)(d:E.Nodup):a≠b:=by obtain⟨A,C,rfl,e⟩:=h;rintro rfl;rw[Xg]at d;exact d.2.2 a e a Z3 rfl
def SI.av(h:SI H G (λ_ _=>False))(a:Ac H B)(h1:1<=i)(hi:i<=H.m)(hs:(H.tx i).aa=2)(hp:∀k∈(H.tx i).ag,AK H k 2 i):SI (H.av i) G (λ_ _=>False):=by
 rw[qd5 a.wf];split
 ·rename_i h0;have d:∀b,((H.bx i).tx b).aa=(H.tx b).aa/\((H.bx i).tx b).ae=(H.tx b).ae/\((H.bx i).tx b).af=(H.tx b).af/\((H.bx i).tx b).ak=(H.tx b).ak/\((H.bx i).tx b).ah=(if b=i then H.ah+1 else(H.tx b).ah):=λb=>by
   show((Af H.tx i _ b).aa=_/\(Af H.tx i _ b).ae=_/\(Af H.tx i _ b).af=_/\(Af H.tx i _ b).ak=_/\(Af H.tx i _ b).ah=_);by_cases e:b=i;subst e;rw[Aq,Z8 rfl];exact⟨rfl,rfl,rfl,rfl,rfl⟩;rw[Ay e,Z7 e];exact⟨rfl,rfl,rfl,rfl,rfl⟩
  have J:∀b,((H.bx i).tx b).ag=(H.tx b).ag:=λb=>DQ (d b).2.2.1
  have E:∀b x,Wr (H.bx i) b x↔Wr H b x:=λb x=>Wr.congr (d b).2.1
  have Y:∀b x,CH (H.bx i) G b x↔CH H G b x:=λb x=>CH.congr (d b).2.1
  have a1:∀A x,Ba (H.bx i) A x=Ba H A x:=λA x=>SW (λb _=>q35 (d b).1 (d b).2.1)
  have a3:∀k∈(H.tx i).ag,∀j,Lv H k j->An (lg H k j) 2 i:=λk u j R=>by
   obtain⟨M,p,c,q1,z,U,q4,q5⟩:=hp k u;have a9:=Cb u;have a5:=a.ch.st k (by rw[a.c];omega) M j (CS q1).1 R;have a0:p<(lg H k j).length:=by
    have:H.ao k M<=(lg H k j).length:=a5;omega
   obtain y|y:=Nat.le_total M j;have I:=a.ch.pre k (by rw[a.c];omega) M j y (CS q1).1 R;have e:(lg H k j)[p]? = Bs c:=by
    have:=getElem?_prefix I (K0 a0);rw[z]at this;rw[K0 a0,<- this]
   exact⟨c,N2 e,U,q4⟩;have I:=a.ch.pre k (by rw[a.c];omega) j M y R (CS q1).1;exact⟨c,N2 (getElem?_prefix I z),U,q4⟩
  have Z:¬BV H i:=by
   rintro ⟨_,k,u,_,h4⟩;obtain⟨M,p,c,q1,z,U,q4,_⟩:=hp k u;exact h4 M (CS q1).1 ⟨c,N2 z,U,q4⟩
  have a7:∀w,BV H w->BV (H.bx i) w:=λw hd=>by
   have O:w≠i:=λe=>Z (e▸hd)
   exact hd.mono (by rw[(d w).2.2.2.2,Z7 O]) (d w).2.2.1 (λ_ _=>rfl) (λk j u R e=>⟨j,R,e⟩)
  have y:∀b,Ir H b->(H.tx b).ah<=H.ah:=λb f=>(a.wf.dY b f.1 f.2).2
  have a8:=a.wf.bU;refine⟨h.gt,h.t2,h.dn,λk j u R c hc a6=>?_,h.wl,h.cv,λb f=>?_,λb f k u e D=>?_,λb k f u q D x l=>?_,λb f V=>?_,λb c f hc N D=>?_,λb f=>by rw[(d b).1];exact h.st b f,⟨h.en.1,λb f=>by rw[(d b).1];exact h.en.2.1 b f,λb f q=>by rw[(d b).1]at q;exact h.en.2.2 b f q⟩,λt w x V hw O L f l a2=>?_,λv w x f q1 z tv W=>?_,λt V x v hv=>?_,λk u x o m ho=>?_,λb k f u q D x m l=>?_,λb f x m l=>?_⟩;rw[(d _).1,J];obtain⟨q1,z,U⟩:=h.pw k j u R c hc a6;exact⟨q1,z,by unfold Bu.of;rw[(d _).2.1];exact U⟩;rw[J,(d b).2.1];obtain⟨q1,z⟩:=h.wc b f;exact⟨λx l=>q1 x ((Y b x).1 l),z⟩;rw[J]at u;rw[(d b).2.2.1]at D;exact h.se b f k u e D;rw[(d b).1]at q;rw[(d b).2.2.1]at D;rw[E];exact h.ho b k f u q D x l;rw[(d b).1,J];by_cases e:b=i;subst e;exact⟨eR hs,a3⟩;rw[(d b).2.2.2.2,Z7 e]at V;exact h.tp b f V;rw[(d b).2.2.2.2]at N;rw[(d b).2.2.2.2,(d c).2.2.2.2]at D;have q1:=y b f;have z:=y c hc;by_cases e:b=i;by_cases S:c=i;omega;rw[Z8 e,Z7 S]at D;omega;by_cases S:c=i;rw[Z7 e,Z8 S]at D;omega;rw[Z7 e]at N;rw[Z7 e,Z7 S]at D;exact h.tu b c f hc N D;rw[(d w).1]at L;rw[(d t).1]at f;exact a7 w (h.dm t w x V hw O L f ((Y t x).1 l) ((E w x).1 a2));have hv:=h.en.2.1 v (O3 f).1;have hw:=h.en.2.1 w (O3 f).2;have X:=Uc f h.en.1;rw[(d v).2.2.2.2]at tv ⊢;rw[(d w).2.2.2.2]at W ⊢;by_cases e:v=i;subst e;exfalso;rw[Z7 (λe=>X e.symm)]at W;have L:=(h.tp w hw.1 W).1;exact Z (h.dm w v x hw.1 hv.1 (λe=>X e.symm) hs (eS ⟨L,f⟩) (eR ((E w x).1 z)) ((E v x).1 q1));rw[Z7 e]at tv ⊢;by_cases S:w=i;rw[Z8 S];have:=y v hv.1;omega;rw[Z7 S]at W ⊢;exact h.tm v w x f ((E v x).1 q1) ((E w x).1 z) tv W;rw[(d t).1,a1];obtain⟨q1,z⟩:=h.ri t V x v hv;exact⟨q1,λa4 A C hE=>by rw[a1];exact z a4 A C hE⟩;rw[(d _).1,(d _).2.2.1];exact h.wt k u x o m ho;rw[(d b).1]at q;rw[(d b).2.2.1]at D;rw[(d b).2.2.2.1];exact h.ww b k f u q D x m l;rw[J];rw[(d b).2.2.2.1]at l;exact h.wn b f x m l
 exact h
def SI.commit(h:SI H G (λ_ _=>False))(a:Ac H B)(h1:1<=i)(hi:i<=H.m)(hs:(H.tx i).aa=2)(hp:AK H 2 3 i):SI (H.aF i 3) G (λ_ _=>False):=by
 have R:(H.tx i).ah≠0:=by
  obtain⟨j,p,c,q1,u,Y,Z,_⟩:=hp;have q5:=a.bT.p2 j (CS q1).1 c (N2 u);have q6:=q5.2.2.1;have q7:=q5.2.2.2;rw[Z]at q6;have q8:UP H (i:Int)=(H.tx i).ah:=rfl;omega
 have W:¬BV H i:=λhd=>R hd.1
 have d:∀b,((H.aF i 3).tx b).aa=(if b=i then 3 else(H.tx b).aa)/\((H.aF i 3).tx b).ae=(H.tx b).ae/\((H.aF i 3).tx b).af=(H.tx b).af/\((H.aF i 3).tx b).ak=(H.tx b).ak/\((H.aF i 3).tx b).ah=(H.tx b).ah:=λb=>by
  show((Af H.tx i _ b).aa=_/\(Af H.tx i _ b).ae=_/\(Af H.tx i _ b).af=_/\(Af H.tx i _ b).ak=_/\(Af H.tx i _ b).ah=_);by_cases e:b=i;subst e;rw[Aq,Z8 rfl];exact⟨rfl,rfl,rfl,rfl,rfl⟩;rw[Ay e,Z7 e];exact⟨rfl,rfl,rfl,rfl,rfl⟩
 have E:∀b,((H.aF i 3).tx b).ag=(H.tx b).ag:=λb=>DQ (d b).2.2.1
 have I:∀b x,Wr (H.aF i 3) b x↔Wr H b x:=λb x=>Wr.congr (d b).2.1
 have U:∀b x,CH (H.aF i 3) G b x↔CH H G b x:=λb x=>CH.congr (d b).2.1
 have a5:∀w,BV H w->BV (H.aF i 3) w:=λw hd=>hd.mono (d w).2.2.2.2 (d w).2.2.1 (λ_ _=>rfl) (λk j z hj e=>⟨j,hj,e⟩)
 have J:∀b,(((H.aF i 3).tx b).aa=2\/((H.aF i 3).tx b).aa=3)↔((H.tx b).aa=2\/(H.tx b).aa=3):=λb=>by
  rw[(d b).1];by_cases e:b=i;subst e;rw[Z8 rfl];exact⟨λ_=>eR hs,λ_=>eS rfl⟩;rw[Z7 e]
 have y:∀b,((H.aF i 3).tx b).aa=1↔(H.tx b).aa=1:=λb=>by
  rw[(d b).1];by_cases e:b=i;subst e;rw[Z8 rfl];exact⟨λe=>Z0,λe=>Z0⟩;rw[Z7 e]
 have L:∀(A:List Nat)(x:Sx),(i∈A->¬Wr H i x)->Ba (H.aF i 3) A x=Ba H A x:=λA x hA=>SW (λb f=>by
  unfold FC;rw[(d b).1,(d b).2.1];by_cases e:b=i;subst e;have M:Jl (H.tx b).ae x=B0:=q6b.2 (λp hp e=>hA f ⟨p,hp,e⟩);rw[Z8 rfl,Z8 rfl,M,Z7 Z0];rw[Z7 e])
 refine⟨h.gt,h.t2,h.dn,λk j z hj c hc a4=>?_,h.wl,h.cv,λb f=>?_,λb f k z e D=>?_,λb k f z q D x l=>?_,λb f R=>?_,λb c f hc V D=>?_,λb f=>?_,⟨h.en.1,λb f=>?_,λb f q=>h.en.2.2 b f ((J b).1 q)⟩,λt w x R M a3 O f l a0=>?_,λv w x f q1 u tv tw=>?_,λt N x v hv=>?_,λk z x o m ho=>?_,λb k f z q D x m l=>?_,λb f x m l=>?_⟩;obtain⟨q1,u,Y⟩:=h.pw k j z hj c hc a4;rw[ne_eq,y,E];exact⟨q1,u,by unfold Bu.of;rw[(d _).2.1];exact Y⟩;rw[E,(d b).2.1];obtain⟨q1,u⟩:=h.wc b f;exact⟨λx l=>q1 x ((U b x).1 l),u⟩;rw[E]at z;rw[(d b).2.2.1]at D;exact h.se b f k z e D;have a6:b≠i:=λe=>by rw[(d b).1,Z8 e]at q;omega
 rw[(d b).1,Z7 a6]at q;rw[(d b).2.2.1]at D;rw[I];exact h.ho b k f z q D x l;rw[(d b).2.2.2.2]at R;rw[E];obtain⟨q1,u⟩:=h.tp b f R;exact⟨(J b).2 q1,u⟩;rw[(d b).2.2.2.2]at V;rw[(d b).2.2.2.2,(d c).2.2.2.2]at D;exact h.tu b c f hc V D;rw[(d b).1];split;decide;exact h.st b f;obtain⟨q1,u⟩:=h.en.2.1 b f;exact⟨q1,λe=>u ((y b).1 e)⟩;have a1:w≠i:=λe=>by rw[(d w).1,Z8 e]at O;omega
 rw[(d w).1,Z7 a1]at O;exact a5 w (h.dm t w x R M a3 O (f.imp (λe=>(y t).1 e) (λ⟨a,b⟩=>⟨(J t).1 a,b⟩)) ((U t x).1 l) ((I w x).1 a0));rw[(d v).2.2.2.2]at tv ⊢;rw[(d w).2.2.2.2]at tw ⊢;exact h.tm v w x f ((I v x).1 q1) ((I w x).1 u) tv tw;obtain⟨q1,u⟩:=h.ri t N x v hv;have S:CH H G t x:=eS ⟨v,hv⟩;refine⟨λe=>?_,λe A C hE=>?_⟩;have e:=(y t).1 e;have a2:t≠i:=λe2=>by subst e2;omega
 rw[L _ _ (λ_ M=>W (h.dm t i x N ⟨h1,hi⟩ a2 hs (eR e) S M))];exact q1 e;have e:=(J t).1 e;rw[L _ _ (λhA M=>?_)];exact u e A C hE;have X:Bef G.E i t:=⟨A,C,hE,hA⟩
 exact W (h.dm t i x N ⟨h1,hi⟩ (λe2=>Uc X h.en.1 e2.symm) hs (eS ⟨e,X⟩) S M);obtain⟨q1,u,Y,Z⟩:=h.wt k z x o m ho;exact⟨q1,(y _).2 u,by rw[(d _).2.2.1];exact Y,Z⟩;have q:=(y b).1 q;rw[(d b).2.2.1]at D;rw[(d b).2.2.2.1];exact h.ww b k f z q D x m l;rw[E];rw[(d b).2.2.2.1]at l;exact h.wn b f x m l
def SI.aA(h:SI H G (λ_ _=>False))(a:Ac H B)(h1:1<=i)(hi:i<=H.m){k:Nat}(hk:k<2)(hs:(H.tx i).aa=1)(D:(H.tx i).af k=B0\/(H.tx i).af k=Bs (H.sh k).ad):SI (H.aA i k) G (λ_ _=>False):=by
 have f:∀b,((H.aA i k).tx b).aa=(H.tx b).aa/\((H.aA i k).tx b).ae=(H.tx b).ae/\((H.aA i k).tx b).ak=(H.tx b).ak/\((H.aA i k).tx b).ah=(H.tx b).ah/\((H.aA i k).tx b).af=(if b=i then AS (H.tx i).af k (H.sh k).ad else(H.tx b).af):=λb=>by
  show((Af H.tx i _ b).aa=_/\(Af H.tx i _ b).ae=_/\(Af H.tx i _ b).ak=_/\(Af H.tx i _ b).ah=_/\(Af H.tx i _ b).af=_);by_cases e:b=i;subst e;rw[Aq,Z8 rfl];exact⟨rfl,rfl,rfl,rfl,rfl⟩;rw[Ay e,Z7 e];exact⟨rfl,rfl,rfl,rfl,rfl⟩
 have z:∀q:Nat,((H.aA i k).tx i).af q=if q=k then Bs (H.sh k).ad else(H.tx i).af q:=λq=>by
  rw[(f i).2.2.2.2,Z8 rfl];unfold AS;by_cases e:q=k;subst e;simp;rw[Z7 Z0,Z7 e]
 have S:∀b q,q∈(H.tx b).ag->q∈((H.aA i k).tx b).ag:=λb q y=>by
  rw[D5]at y ⊢;refine⟨y.1,?_⟩;by_cases e:b=i;subst e;rw[z];split;simp;exact y.2;rw[(f b).2.2.2.2,Z7 e];exact y.2
 have N:∀b,b≠i->((H.aA i k).tx b).ag=(H.tx b).ag:=λb e=>DQ (by rw[(f b).2.2.2.2,Z7 e])
 have J:∀b x,Wr (H.aA i k) b x↔Wr H b x:=λb x=>Wr.congr (f b).2.1
 have U:∀b x,CH (H.aA i k) G b x↔CH H G b x:=λb x=>CH.congr (f b).2.1
 have Y:∀A x,Ba (H.aA i k) A x=Ba H A x:=λA x=>SW (λb _=>q35 (f b).1 (f b).2.1)
 have a1:(H.tx i).ah=0:=Wc (λe=>Z4 ((h.tp i ⟨h1,hi⟩ e).1));have a3:∀b,((H.tx b).aa=2\/(H.tx b).aa=3)->b≠i:=λb p e=>by subst e;omega
 have a5:∀w,(H.tx w).aa=2->BV H w->BV (H.aA i k) w:=λw O hd=>hd.mono (f w).2.2.2.1 (by rw[(f w).2.2.2.2,Z7 (a3 w (eR O))]) (λ_ _=>rfl) (λk j hk hj e=>⟨j,hj,e⟩)
 refine⟨h.gt,h.t2,h.dn,λq j y hj c hc a4=>?_,h.wl,h.cv,λb p=>?_,λb p q y e d=>?_,λb q p y u d x l=>?_,λb p L=>?_,λb c p hc V d=>by rw[(f b).2.2.2.1]at V;rw[(f b).2.2.2.1,(f c).2.2.2.1]at d;exact h.tu b c p hc V d,λb p=>by rw[(f b).1];exact h.st b p,⟨h.en.1,λb p=>by rw[(f b).1];exact h.en.2.1 b p,λb p u=>by rw[(f b).1]at u;exact h.en.2.2 b p u⟩,λt w x L O X R p l a0=>?_,λv w x p q1 I tv tw=>?_,λt L x v hv=>?_,λq y x o m ho=>?_,λb q p y u d x m l=>?_,λb p x m l=>?_⟩;obtain⟨q1,I,Z⟩:=h.pw q j y hj c hc a4;rw[(f _).1];exact⟨q1,S _ _ I,by unfold Bu.of;rw[(f _).2.1];exact Z⟩;obtain⟨q1,I⟩:=h.wc b p;rw[(f b).2.1];exact⟨λx l=>S _ _ (q1 x ((U b x).1 l)),I⟩;by_cases M:b=i;subst M;rw[z]at d;split at d;rename_i E;subst E;injection d with d;rw[<- d];exact WH _;rename_i E;refine h.se b p q (D5.2 ⟨(D5.1 y).1,by rw[d];simp⟩) e d;rw[N b M]at y;rw[(f b).2.2.2.2,Z7 M]at d;exact h.se b p q y e d;rw[(f b).1]at u;rw[J];by_cases M:b=i;subst M;rw[z]at d;by_cases E:q=k;subst E;obtain D|D:=D;have W:¬CH H G b x:=λL=>by
  have:=(h.wc b p).1 x L;rw[l]at this;exact(D5.1 this).2 D
 exact⟨λO=>(W (eR O)).elim,λhr=>(W (eS hr)).elim⟩;exact h.ho b q p y u D x l;rw[Z7 E]at d;exact h.ho b q p y u d x l;rw[(f b).2.2.2.2,Z7 M]at d;exact h.ho b q p y u d x l;rw[(f b).2.2.2.1]at L;have a6:b≠i:=λe=>by subst e;exact L a1
 rw[(f b).1,N b a6];exact h.tp b p L;rw[(f w).1]at R;rw[(f t).1]at p;exact a5 w R (h.dm t w x L O X R p ((U t x).1 l) ((J w x).1 a0));rw[(f v).2.2.2.1]at tv ⊢;rw[(f w).2.2.2.1]at tw ⊢;exact h.tm v w x p ((J v x).1 q1) ((J w x).1 I) tv tw;rw[(f t).1,Y];obtain⟨q1,I⟩:=h.ri t L x v hv;exact⟨q1,λa2 A C hE=>by rw[Y];exact I a2 A C hE⟩;obtain⟨q1,I,Z,q4⟩:=h.wt q y x o m ho;refine⟨q1,by rw[(f _).1];exact I,?_,q4⟩;by_cases e:o.toNat=i;rw[e,z];split;rename_i E;subst E;rfl;rw[<- e];exact Z;rw[(f _).2.2.2.2,Z7 e];exact Z;rw[(f b).1]at u;rw[(f b).2.2.1];by_cases M:b=i;subst M;rw[z]at d;by_cases E:q=k;subst E;obtain D|D:=D;constructor;intro hm;have:=h.wn b p x m hm;rw[l]at this;exact ZB D (D5.1 this).2;intro O;have:=(h.wt q y x _ _ O).2.2.1;rw[show((b:Int).toNat)=b by omega,D]at this;cases this;exact h.ww b q p y u D x m l;rw[Z7 E]at d;exact h.ww b q p y u d x m l;rw[(f b).2.2.2.2,Z7 M]at d;exact h.ww b q p y u d x m l;rw[(f b).2.2.1]at l;exact S _ _ (h.wn b p x m l)
def SI.e5(h:SI H G (λ_ _=>False))(a:Ac H B)(ah:H.m<=40)(h1:1<=i)(hi:i<=H.m)(hs:(H.tx i).aa=1){mode:Int}(hm:Bt mode)(he:(H.tx i).af (Aa x)=Bs (H.sh (Aa x)).ad)
  (hw:CF (Ad (H.sh (Aa x)).tab x).ws i=L1) (f:Bool) (hf:Ai (Ad (H.sh (Aa x)).tab x).h i mode (Ad (H.sh (Aa x)).tab x).ws=f) (p:H'=if f then H.b7 i (Aa x) x mode else(H.b7 i (Aa x) x mode).bq i x mode):SI H' G (λ_ _=>False):=by
 have ad:=FJ x;have d:∀b,(H'.tx b).aa=(H.tx b).aa/\(H'.tx b).ae=(H.tx b).ae/\(H'.tx b).ah=(H.tx b).ah/\(H'.tx b).af=(H.tx b).af/\(H'.tx b).ak=(if b=i/\f=L1 then(H.tx i).ak++[(x,mode)]else(H.tx b).ak):=λb=>by
  subst p;cases f with
  |true=>exact⟨rfl,rfl,rfl,rfl,by simp[Hs.b7,Hs.ax]⟩
  |false=>
   show((Af H.tx i _ b).aa=_/\(Af H.tx i _ b).ae=_/\(Af H.tx i _ b).ah=_/\(Af H.tx i _ b).af=_/\(Af H.tx i _ b).ak=_);by_cases e:b=i;subst e;rw[Aq,Z8 ⟨rfl,rfl⟩];exact⟨rfl,rfl,rfl,rfl,rfl⟩;rw[Ay e,Z7 (λh=>e h.1)];exact⟨rfl,rfl,rfl,rfl,rfl⟩
 have a4:∀k,H'.sh k=if k=Aa x then {H.sh k with tab:=Ap (H.sh k).tab i x mode}else H.sh k:=λk=>by
  subst p;have e:(if f=VD then H.b7 i (Aa x) x mode else(H.b7 i (Aa x) x mode).bq i x mode).sh k=Af H.sh (Aa x) {H.sh (Aa x)with tab:=Ap (H.sh (Aa x)).tab i x mode} k:=by cases f<;>rfl
  rw[e];unfold Af;by_cases X:k=Aa x;rw[Z8 X,Z8 X,X];rw[Z7 X,Z7 X]
 have V:H'.m=H.m/\H'.n=H.n:=by subst p;cases f<;>exact⟨rfl,rfl⟩
 have I:∀k,(H'.sh k).tab=if k=Aa x then Ap (H.sh k).tab i x mode else(H.sh k).tab:=λk=>by rw[a4];split<;>rfl
 have u:∀k,(H'.sh k).sto=(H.sh k).sto/\(H'.sh k).done=(H.sh k).done/\(H'.sh k).ad=(H.sh k).ad/\(H'.sh k).nd=(H.sh k).nd/\(H'.sh k).aq=(H.sh k).aq:=λk=>by rw[a4];split<;>exact⟨rfl,rfl,rfl,rfl,rfl⟩
 have M:∀k j,lg H' k j=lg H k j:=λk j=>by unfold lg;rw[(u k).2.2.2.1]
 have W:∀k j,Lv H' k j↔Lv H k j:=λk j=>by unfold Lv;rw[V.2,(u k).2.2.2.1,(u k).2.2.2.2]
 have a7:∀k,H'.head k=H.head k:=λk=>PZ V.2 (u k).2.2.2.2 (λj=>by rw[(u k).2.2.2.1];exact⟨rfl,rfl⟩)
 have l:∀b,Ir H' b↔Ir H b:=λb=>by unfold Ir;rw[V.1]
 have S:∀b,(H'.tx b).ag=(H.tx b).ag:=λb=>DQ (d b).2.2.2.1
 have U:∀b x,Wr H' b x↔Wr H b x:=λb x=>Wr.congr (d b).2.1
 have a0:∀b x,CH H' G b x↔CH H G b x:=λb x=>CH.congr (d b).2.1
 have a8:∀A x,Ba H' A x=Ba H A x:=λA x=>SW (λb _=>q35 (d b).1 (d b).2.1)
 have af:∀w,BV H w->BV H' w:=λw hd=>hd.mono (d w).2.2.1 (d w).2.2.2.1 (λk _=>(u k).2.2.1) (λk j p N e=>⟨j,(W k j).1 N,by rw[M]at e;exact e⟩)
 have L:∀k y (o m:Int),Hd (H.sh k).tab y o m->Hd (H'.sh k).tab y o m:=λk y o m hd=>by
  rw[I];split;exact hd.aJ _ _ _;exact hd
 have ag:(Ad (H.sh (Aa x)).tab x).ws.length≠50:=by
  have hg:=h.gt (Aa x) Z0 x;have ac:((Ad (H.sh (Aa x)).tab x).ws.map (·.1)).Nodup:=by
   rw[Yz,Xb];exact hg.aH.imp (λh=>Z0)
  have a3:∀o∈(Ad (H.sh (Aa x)).tab x).ws.map (·.1),o∈(Ww 41).map Int.ofNat:=λo ho=>by
   obtain⟨w,Y,rfl⟩:=ZE.1 ho;have:=(h.wt (Aa x) ad x w.1 w.2 Y).1;exact ZE.2 ⟨w.1.toNat,Zs.2 Z0,by show((w.1.toNat:Nat):Int)=w.1;omega⟩
  have:=WL ac a3;simp at this;omega
 refine⟨λk p=>by rw[I];split;exact(h.gt k p).aJ hm x;exact h.gt k p,λy=>by rw[I,Z7 Z0];exact h.t2 y,λk j p N=>by rw[(u k).2.1,M];rw[a7]at N;exact h.dn k j p N,
  λk j p N c hc ae=>?_,λk j p N=>by rw[M];exact h.wl k j p ((W k j).1 N),λk j p N=>?_,λb z=>?_,λb z k p e D=>?_,λb k z p J D y O=>?_,λb z Z=>?_,λb c z hc a1 D=>by rw[(d b).2.2.1]at a1;rw[(d b).2.2.1,(d c).2.2.1]at D;exact h.tu b c ((l b).1 z) ((l c).1 hc) a1 D,λb z=>by rw[(d b).1];exact h.st b ((l b).1 z),⟨h.en.1,λb z=>by rw[(d b).1,l];exact h.en.2.1 b z,λb z J=>by rw[(d b).1]at J;exact h.en.2.2 b ((l b).1 z) J⟩,λt w y Z Y a6 a2 z a9 aa=>?_,λv w y z q1 E tv tw=>?_,λt Z y v hv=>?_,λk p y o m ho=>?_,λb k z p J D y m O=>?_,λb z y m O=>?_⟩
 rw[M]at hc;obtain⟨q1,E,q3⟩:=h.pw k j p ((W k j).1 N) c hc ae;rw[(d _).1,S];exact⟨q1,E,by unfold Bu.of;rw[(d _).2.1];exact q3⟩
 ·rw[a7]at N;obtain⟨c1,c2⟩:=h.cv k j p N;rw[M,(u k).1];exact⟨c1.mono (λ_ e=>e) (λy o m _ hd=>L k y o m hd),c2⟩
 rw[S,(d b).2.1];obtain⟨q1,E⟩:=h.wc b ((l b).1 z);exact⟨λy O=>q1 y ((a0 b y).1 O),E⟩;rw[S]at p;rw[(d b).2.2.2.1]at D;rw[(u k).2.2.1];exact h.se b ((l b).1 z) k p e D;rw[(d b).1]at J;rw[(d b).2.2.2.1,(u k).2.2.1]at D;obtain⟨q1,E⟩:=h.ho b k ((l b).1 z) p J D y O;exact⟨λhw=>L _ _ _ _ (q1 ((U b y).1 hw)),λhr=>L _ _ _ _ (E hr)⟩;rw[(d b).2.2.1]at Z;rw[(d b).1,S];obtain⟨q1,E⟩:=h.tp b ((l b).1 z) Z;exact⟨q1,λk p j N=>by rw[M];exact E k p j ((W k j).1 N)⟩;rw[(d w).1]at a2;rw[(d t).1]at z;exact af w (h.dm t w y ((l t).1 Z) ((l w).1 Y) a6 a2 z ((a0 t y).1 a9) ((U w y).1 aa));rw[(d v).2.2.1]at tv ⊢;rw[(d w).2.2.1]at tw ⊢;exact h.tm v w y z ((U v y).1 q1) ((U w y).1 E) tv tw;rw[(d t).1,a8];obtain⟨q1,E⟩:=h.ri t ((l t).1 Z) y v hv;exact⟨q1,λab A C hE=>by rw[a8];exact E ab A C hE⟩;have a5:Wt (H.sh k).tab y o m\/(o=i/\y=x/\k=Aa x):=by
  rw[I]at ho;split at ho;rename_i e;obtain h2|⟨h2,h3,_,_⟩:=E2 ho;exact eR h2;exact eS ⟨h2,h3,e⟩;exact eR ho
 rw[V.1,(d _).1,(d _).2.2.2.1,(u k).2.2.1];obtain h2|⟨rfl,rfl,rfl⟩:=a5;exact h.wt k p y o m h2;rw[show((i:Int).toNat)=i by omega];exact⟨Z0,hs,he,rfl⟩;rw[(d b).1]at J;rw[(d b).2.2.2.1,(u k).2.2.1]at D;have R:=h.ww b k ((l b).1 z) p J D y m O;rw[(d b).2.2.2.2,I];cases f with
 |true=>
  rw[Z7 Z3,R];split;rename_i e;subst e;refine⟨λq=>q.aJ _ _ _,λq=>?_⟩;obtain q|⟨_,E,_,q4⟩:=E2 q;exact q;rw[hf]at q4;cases q4;exact Yw
 |false=>
  by_cases X:b=i;subst X;rw[Z8 ⟨rfl,rfl⟩];split;rename_i e;subst e;constructor;intro q;obtain q|q:=XA.1 q;exact(R.1 q).aJ _ _ _;rw[VU]at q;injection q with q1 E;subst q1 E;exact GQ hw hf ag;intro q;obtain q|⟨_,rfl,rfl,_⟩:=E2 q;exact VM _ (R.2 q);simp;rename_i e;rw[<- R];constructor;intro q;obtain q|q:=XA.1 q;exact q;rw[VU]at q;injection q with q1 E;subst q1;exact ZB O.symm e;exact λq=>VM _ q
  rw[Z7 (λh=>X h.1),R];split;rename_i e;subst e;refine⟨λq=>q.aJ _ _ _,λq=>?_⟩;obtain q|⟨E,_⟩:=E2 q;exact q;exact ZB Z0 X;exact Yw
 rw[S];rw[(d b).2.2.2.2]at O;split at O;rename_i e;obtain⟨rfl,_⟩:=e;obtain q|q:=XA.1 O;exact h.wn b ((l b).1 z) y m q;rw[VU]at q;injection q with q1 E;subst q1;exact D5.2 ⟨Z0,by rw[he];simp⟩;exact h.wn b ((l b).1 z) y m O
def H7{H:Hs}(h:∀j,H.head s=Bs j->(H.sh s).done=(lg H s j).length):H.take s=H:=by
 unfold Hs.take;cases e:H.head s with
 |none=>rfl
 |some j=>
  have:=h j e;show Hs.bu s ((H.sh s).nd j).a4 (((H.sh s).nd j).a4.length-(H.sh s).done) H=H;have d:((H.sh s).nd j).a4.length-(H.sh s).done=0:=by unfold lg at this;omega
  rw[d];rfl
def q9g(d:Nd)(m:Ms):(d.step m).1.aN=d.aN/\(d.head=VD->(d.step m).1.a4=d.a4):=by
 have f:(d.aP m.aY).1.aN=d.aN:=by
  unfold Nd.aP;split;exact(ES _).2.2.2.2;rfl
 unfold Nd.step;split;exact⟨rfl,λ_=>rfl⟩;simp only;split;exact⟨rfl,λ_=>rfl⟩;split;exact⟨rfl,λ_=>rfl⟩;split;rename_i l;refine⟨f,λe=>?_⟩;have h:=l.2.1;unfold Nd.head at e;simp only[Wl,decide_eq_true_eq,beq_iff_eq]at h e;omega;split<;>exact⟨rfl,λ_=>rfl⟩
def O9.nd{d:Nd}(hs:s<3)(u:d.id=((H.sh s).nd j).id)(z:d.aN=((H.sh s).nd j).aN)(x:lg H s j <+: d.a4)(t:Lv H s j->∃q,Lv H s q/\d.a4 <+: lg H s q)(y:((H.sh s).nd j).head=VD->d.a4=lg H s j)(ms:List Ms)(net:Be) :
  O9 H ((({H with net:=net} : Hs).au s j d).aO ms):=by
 have l:∀{a q},Lv ((({H with net:=net} : Hs).au s j d).aO ms) a q↔Lv H a q:=λ{a q}=>q6m (H:={H with net:=net}) u
 have p:∀a q,lg ((({H with net:=net} : Hs).au s j d).aO ms) a q=if a=s/\q=j then d.a4 else lg H a q:=q5i {H with net:=net} s j d
 have f:∀a,(((({H with net:=net} : Hs).au s j d).aO ms).sh a).tab=(H.sh a).tab/\(((({H with net:=net} : Hs).au s j d).aO ms).sh a).sto=(H.sh a).sto/\(((({H with net:=net} : Hs).au s j d).aO ms).sh a).done=(H.sh a).done/\(((({H with net:=net} : Hs).au s j d).aO ms).sh a).ad=(H.sh a).ad/\(((({H with net:=net} : Hs).au s j d).aO ms).sh a).aq=(H.sh a).aq:=λa=>by
  show((({H with net:=net} : Hs).au s j d).sh a).tab=_/\((({H with net:=net} : Hs).au s j d).sh a).sto=_/\((({H with net:=net} : Hs).au s j d).sh a).done=_/\((({H with net:=net} : Hs).au s j d).sh a).ad=_/\((({H with net:=net} : Hs).au s j d).sh a).aq=_;by_cases e:a=s;subst e;rw[EH];exact⟨rfl,rfl,rfl,rfl,rfl⟩;rw[Jb _ j d e];exact⟨rfl,rfl,rfl,rfl,rfl⟩
 have v:∀a,((({H with net:=net} : Hs).au s j d).aO ms).head a=H.head a:=λa=>PZ rfl (f a).2.2.2.2 (λq=>by
  show(((({H with net:=net} : Hs).au s j d).sh a).nd q).id=_/\(((({H with net:=net} : Hs).au s j d).sh a).nd q).head=_;by_cases e:a=s
  ·subst e;rw[EH];by_cases C:q=j;subst C;simp only[Aq];exact⟨u,by unfold Nd.head;rw[z]⟩;simp only[Ay C];exact⟨by first|rfl|trivial,by first|rfl|trivial⟩
  rw[Jb _ j d e];exact⟨rfl,rfl⟩)
 refine⟨rfl,λa q _ h=>l.1 h,λa q _ h=>by rw[<- v];exact h,λa q _ _=>?_,λa q _ h=>?_,λa q _ h=>?_,λa _=>⟨(f a).1,(f a).2.1,(f a).2.2.1,(f a).2.2.2.1⟩,λ_=>⟨rfl,rfl,rfl,rfl,rfl⟩⟩;rw[p];split;rename_i e;obtain⟨rfl,rfl⟩:=e;exact x;exact VO _;rw[p];split;rename_i e;obtain⟨rfl,rfl⟩:=e;exact t (l.1 h);exact⟨q,l.1 h,VO _⟩;rw[p];split;rename_i e;obtain⟨rfl,rfl⟩:=e;rw[v]at h;exact y (CS h).2;rfl
def SI.aE(h:SI H G (λ_ _=>False))(a:Ac H B){k:Nat}{m:Ms}(u:H.net.l[k]? = Bs m):SI (({H with net:=takeS H.net k} : Hs).aE m) G (λ_ _=>False):=by
 cases f:Hs.node {H with net:=takeS H.net k} m.a8 with
 |none=>
  rw[Je f];exact h.same ⟨rfl,λ_ _ _ h=>h,λ_ _ _ h=>h,λ_ _ _ _=>VO _,λ_ j _ h=>⟨j,h,VO _⟩,λ_ _ _ _=>rfl,λ_ _=>⟨rfl,rfl,rfl,rfl⟩,λ_=>⟨rfl,rfl,rfl,rfl,rfl⟩⟩
 |some r=>
  obtain⟨s,j⟩:=r;obtain⟨hs,hl,_⟩:=q4c (H:={H with net:=takeS H.net k}) a.c f;have d:s<3:=by have:=a.c;have hs:s<H.c:=hs;omega
  rw[Jf f];have x:O9 H ((({H with net:=takeS H.net k} : Hs).au s j (((H.sh s).nd j).step m).1).aO (((H.sh s).nd j).step m).2):=
   O9.nd d (q5g _ m).2 (q9g _ m).1 (q5g _ m).1 (λl=>qdb a.ch (s:=s) (j:=j) (by rw[a.c];exact d) l (N2 u)) (λv=>(q9g _ m).2 v) _ _
  have p:=h.same x;have e:(((({H with net:=takeS H.net k} : Hs).au s j (((H.sh s).nd j).step m).1).aO (((H.sh s).nd j).step m).2).take s)=((({H with net:=takeS H.net k} : Hs).au s j (((H.sh s).nd j).step m).1).aO (((H.sh s).nd j).step m).2):=H7 (λq t=>p.dn s q d t);show SI (((({H with net:=takeS H.net k} : Hs).au s j (((H.sh s).nd j).step m).1).aO (((H.sh s).nd j).step m).2).take s) G _;rw[e];exact p
def SI.step(h:SI H G (λ_ _=>False))(a:Ac H B)(u:H.m<=40)(s:By H H'):SI H' G (λ_ _=>False):=by
 cases s with
 |a3 f d hs=>exact h.a3 a.wf a.bT a.c f d hs
 |@tell i k kind f d l hs=>
  have I:=h.aC a.wf a.bT a.c f d l hs;exact I.eN (λk' J C D=>((I.cv k' J C D).1).mono (λx v=>v.1) (λ_ _ _ _ h=>h))
 |prep b f d l t p hs M q N=>exact h.prep a b f d l t p hs q
 |@place i k at_ f d l O hs=>
  refine h.same ⟨rfl,λ_ _ _ h=>h,λ_ _ _ h=>h,λ_ _ _ _=>VO _,λ_ j _ h=>⟨j,h,VO _⟩,λ_ _ _ _=>rfl,λ_ _=>⟨rfl,rfl,rfl,rfl⟩,λb=>?_⟩;show(Af H.tx i _ b).aa=_/\(Af H.tx i _ b).ae=_/\(Af H.tx i _ b).af=_/\(Af H.tx i _ b).ah=_/\(Af H.tx i _ b).ak=_;by_cases e:b=i;subst e;rw[Aq];exact⟨rfl,rfl,rfl,rfl,rfl⟩;rw[Ay e];exact⟨rfl,rfl,rfl,rfl,rfl⟩
 |av f d hs p=>exact h.av a f d hs p
 |decide b f d t p hs M=>exact h.decide a b f d t p
 |commit f d hs p=>exact h.commit a f d hs p
 |aA f d l hs t q=>exact h.aA a f d l hs q
 |got f d hs v z t q y E=>exact h.e5 a u f d hs z q y VD E rfl
 |wait f d hs v z t q L y E=>exact h.e5 a u f d hs z q y L1 E rfl
 |@aD s j hs hl=>
  exact h.same (O9.nd (H:=H) hs (ES _).1 (ES _).2.2.2.2 (by rw[(ES _).2.1];exact VO _) (λhl=>⟨j,hl,by rw[(ES _).2.1];exact VO _⟩) (λ_=>(ES _).2.1) _ H.net)
 |aE l=>exact h.aE a l
def SI.aK(s:Ag H H'):SI H G (λ_ _=>False)->Ac H B->H.m<=40->SI H' G (λ_ _=>False)/\Ac H' B:=by
 induction s with
 |refl=>exact λh a _=>⟨h,a⟩
 |step s _ e=>exact λh a d=>e (h.step a d s) (a.step s).1 (by rw[s.sm.m];exact d)
end
section
variable {H H':Hs}{G:Gh}{i s:Nat}{B:Int}
def no_gr{T:Tb}(g:GT T)(h:∀x,(Ad T x).ws=[]){o:Int} : ¬KV T tx o x:=λe=>by
 obtain⟨_,m,d⟩:=II g e;unfold Wt at d;rw[h]at d;cases d
def qc4{l:List Cm}(f:Ul l)(q:∀c∈l,(c.aj=2\/c.aj=3\/c.aj=4)/\Eo c):∀(k:Nat)(H:Hs),(H.sh s).done+k=l.length->U4 (H.sh s).tab (l.take (H.sh s).done)->
  (∀a w,w∈((Hs.bu s l k H).tx a).ak↔w∈(H.tx a).ak)/\((∀c∈l,c.aj=3)->(H.sh s).tab=(λ_=>B0)->((Hs.bu s l k H).sh s).tab=(λ_=>B0))
 |0,H,_,_=>⟨λ_ _=>Yw,λ_ h=>h⟩
 |k+1,H,C,e=>by
  obtain⟨c,d⟩:∃c,l[(H.sh s).done]? = Bs c:=⟨_,K0 Z0⟩
  rw[q6f rfl d];obtain⟨e1,D,v⟩:=qa3 (H:=H) (s:=s) l (H.sh s).done c;have u:l.take ((H.sh s).done+1)=l.take (H.sh s).done++[c]:=by rw[VV,d];rfl
  obtain⟨x,z⟩:=q c (N2 d);have p:=qc4 f q k (H.bG s l (H.sh s).done c) (by rw[v];omega) (by
   rw[e1,v,u];exact e.step (f.pre (by rw[<- u];exact List.take_prefix _ _)) x)
  refine⟨λa w=>(p.1 a w).trans ?_,λt y=>p.2 t ?_⟩;rw[qa2];exact⟨λh=>h.1,λh=>⟨h,λ_=>no_gr e.gt e.ws⟩⟩;rw[e1,SQ (eR (t c (N2 d))),y];rfl
structure FixT(H H':Hs)(s:Nat):Prop where
 gt:GT (H'.sh s).tab
 ws:∀x,(Ad (H'.sh s).tab x).ws=[]
 two:s=2->∀x,(H'.sh s).tab x=B0
 dn:∀j,H'.head s=Bs j->(H'.sh s).done=(lg H s j).length
 cv:∀j,H'.head s=Bs j->Fq (H'.sh s).tab (lg H s j) (λ_=>False)/\Fs (H'.sh s).sto (lg H s j)
 ak:∀a w,w∈(H'.tx a).ak↔w∈(H.tx a).ak
 cq:∀x o m,(Ad (H'.sh s).tab x).h o=Bs m->∃j,H'.head s=Bs j/\EL (lg H s j) o/\∃w∈lg H s j,w.aj=2/\w.tx=o
def SI.fixT(h:SI H G (λ_ _=>False))(a:Ac H B)(Y:B<=1000000)(hs:s<3)(hl:(H.sh s).ai H.n≠[]):FixT H (H.fix s) s:=by
 have I:=(a.fix Y hs).2.2.2;have hw:wrap64 ((H.sh s).ad+1)=(H.sh s).ad+1:=IntWalk.wrap64_in _ ⟨Z4 (a.ep s hs),Z4 (a.ep s hs)⟩;have v:=I.lg;have u:=I.lv;have R:H.fix s=H.bN s:=q9n hl;rw[R]at v u ⊢;clear R I;unfold Hs.bN at v u ⊢;simp only at v u ⊢;generalize W:H.ax s {H.sh s with ad:=wrap64 ((H.sh s).ad+1),size:=((H.sh s).ai H.n).length} = H1 at *;have D:=q7a s ((H.sh s).bL H.n) ((H.sh s).ai H.n) H1;have L:H1.tx=H.tx:=by rw[<- W];rfl
 generalize List.foldl (Hs.aM s ((H.sh s).bL H.n)) H1 ((H.sh s).ai H.n)=H2 at *;generalize hM:H2.ax s {H2.sh s with tab:=λ_=>B0,sto:=λ_=>[],done:=0} = M at *;have d:(M.sh s).tab=(λ_=>B0)/\(M.sh s).sto=(λ_=>[])/\(M.sh s).done=0:=by rw[<- hM,CJ];exact⟨rfl,rfl,rfl⟩
 have z:M.tx=H.tx:=by rw[<- hM];show H2.tx=_;rw[D.2.2.2.2,L]
 have p:=AP.take M s;have V:(M.take s).head s=M.head s:=PZ p.n (p.aq s) (λj=>by rw[p.nd];exact⟨rfl,rfl⟩);cases y:M.head s with
 |none=>
  have e:M.take s=M:=by unfold Hs.take;rw[y]
  rw[e];refine⟨by rw[d.1];exact GT.bo,λx=>by rw[d.1];rfl,λ_ x=>by rw[d.1],λj E=>ZB (y.symm.trans E) Z3,λj E=>ZB (y.symm.trans E) Z3,λb w=>by rw[z],λx o m N=>by rw[d.1]at N;cases N⟩
 |some j=>
  have e:M.take s=Hs.bu s (lg M s j) ((lg M s j).length-(M.sh s).done) M:=by unfold Hs.take;rw[y];rfl
  have U:lg M s j=lg H s j:=by rw[<- p.lg];exact v s j
  have f:Lv H s j:=(u s j (by rw[a.c];exact hs)).1 (p.lv.2 (CS y).1);have J:=(h.wl s j hs f).1;have O:∀c∈lg H s j,(c.aj=2\/c.aj=3\/c.aj=4)/\Eo c:=λc S=>⟨(a.aj hs f S).1,(a.wf.nd s j (by rw[a.c];exact hs) f.1).a4 c S⟩
  rw[U,d.2.2]at e;have C:=F8 (s:=s) J O ((lg H s j).length-0) M (by rw[d.2.2];omega) (by rw[d.1,d.2.2];exact U4.nil) (by rw[d.2.1,d.2.2];exact Fs.nil);have X:=qc4 (s:=s) J O ((lg H s j).length-0) M (by rw[d.2.2];omega) (by rw[d.1,d.2.2];exact U4.nil);have l:=V;rw[e]at l ⊢;refine⟨C.2.1.gt,C.2.1.ws,λZ x=>?_,λq t=>?_,λq t=>?_,λb w=>by rw[<- z];exact X.1 b w,λx o m N=>⟨j,l.trans y,(C.2.1.cq x o m N).1,(C.2.1.cq x o m N).2.imp λw h=>⟨h.1,h.2.1,h.2.2.1⟩⟩⟩;subst Z;have:=X.2 (λc S=>(a.bT.p2 j f c S).2.1) d.1;rw[this];rw[l,y]at t;injection t with t;subst t;exact C.1;rw[l,y]at t;injection t with t;subst t;exact⟨C.2.1.cov,C.2.2⟩
def SI.fix(h:SI H G (λ_ _=>False))(a:Ac H B)(hB:B<=1000000)(hs:s<3):SI (H.fix s) G (λ_ _=>False):=by
 by_cases hl:(H.sh s).ai H.n=[];rw[qe3 hl];exact h;have t:=h.fixT a hB hs hl;have f:=(a.fix hB hs).2.2.2;have Y:((H.fix s).sh s).ad=(H.sh s).ad+1:=by
  obtain⟨_,e⟩|e:=f.ad;exact ZB e hl;exact e
 generalize H.fix s=H' at *;have d:∀b,Ir H' b↔Ir H b:=λb=>by unfold Ir;rw[f.m]
 have p:=f.tx;have E:∀b,(H'.tx b).ag=(H.tx b).ag:=λb=>DQ (p b).2.2.1
 have L:∀b x,Wr H' b x↔Wr H b x:=λb x=>Wr.congr (p b).2.1
 have R:∀b x,CH H' G b x↔CH H G b x:=λb x=>CH.congr (p b).2.1
 have Z:∀A x,Ba H' A x=Ba H A x:=λA x=>SW (λb _=>q35 (p b).1 (p b).2.1)
 have M:∀k j,k<3->(Lv H' k j↔Lv H k j):=λk j u=>f.lv k j (by rw[a.c];exact u)
 have X:∀k,k≠s->H'.head k=H.head k:=λk u=>RD f.n (f.sh k u)
 have I:∀b,Ir H b->(H.tx b).af s≠Bs (H'.sh s).ad:=λb q e=>by
  rw[Y]at e;by_cases h2:s<2;have:=h.se b q s (D5.2 ⟨Z0,by rw[e];simp⟩) _ e;omega;have:=(a.wf.tx b q.1 q.2).sh _ _ e;omega
 have a3:∀w,Ir H w->BV H w->BV H' w:=λw hw hd=>by
  obtain⟨d1,k,d2,d3,d4⟩:=hd;have u:=Cb d2;refine⟨(p w).2.2.2.2.trans d1,k,by rw[E];exact d2,?_,λj D e=>?_⟩;rw[(p w).2.2.1];by_cases e:k=s;subst e;exact I w hw;rw[f.sh k e];exact d3;rw[f.lg]at e;exact d4 j ((M k j Z0).1 D) e
 refine⟨λk u=>?_,λx=>?_,λk j u D=>?_,λk j u D c hc a2=>?_,λk j u D=>by rw[f.lg];exact h.wl k j u ((M k j u).1 D),λk j u D=>?_,λb q=>?_,λb q k u e l=>?_,λb k q u z l x y=>?_,λb q O=>?_,λb c q hc S l=>by rw[(p b).2.2.2.2]at S;rw[(p b).2.2.2.2,(p c).2.2.2.2]at l;exact h.tu b c ((d b).1 q) ((d c).1 hc) S l,λb q=>by rw[(p b).1];exact h.st b ((d b).1 q),⟨h.en.1,λb q=>by rw[(p b).1,d];exact h.en.2.1 b q,λb q z=>by rw[(p b).1]at z;exact h.en.2.2 b ((d b).1 q) z⟩,λt' w x O hw W U q y a0=>?_,λv w x q q1 J tv tw=>?_,λt' O x v hv=>?_,λk u x o m V=>?_,λb k q u z l x m y=>?_,λb q x m y=>?_⟩;by_cases e:k=s;subst e;exact t.gt;rw[f.sh k e];exact h.gt k u;by_cases e:2=s;subst e;exact t.two rfl x;rw[f.sh 2 e];exact h.t2 x;rw[f.lg];by_cases e:k=s;subst e;exact t.dn j D;rw[X k e]at D;rw[f.sh k e];exact h.dn k j u D;rw[f.lg]at hc;obtain⟨q1,J,q3⟩:=h.pw k j u ((M k j Z0).1 D) c hc a2;rw[(p _).1,E];exact⟨q1,J,by unfold Bu.of;rw[(p _).2.1];exact q3⟩;rw[f.lg];by_cases e:k=s;subst e;exact t.cv j D;rw[X k e]at D;rw[f.sh k e];exact h.cv k j u D;rw[E,(p b).2.1];obtain⟨q1,J⟩:=h.wc b ((d b).1 q);exact⟨λx y=>q1 x ((R b x).1 y),J⟩;rw[E]at u;rw[(p b).2.2.1]at l;have:=h.se b ((d b).1 q) k u e l;by_cases N:k=s;subst N;rw[Y];omega;rw[f.sh k N];exact this;rw[(p b).1]at z;rw[(p b).2.2.1]at l;by_cases N:k=s;subst N;exact ZB l (I b ((d b).1 q));rw[f.sh k N]at l ⊢;rw[L];exact h.ho b k ((d b).1 q) u z l x y;rw[(p b).2.2.2.2]at O;rw[(p b).1,E];obtain⟨q1,J⟩:=h.tp b ((d b).1 q) O;exact⟨q1,λk u j D=>by rw[f.lg];exact J k u j ((M k j (Z4 (Cb u))).1 D)⟩;rw[(p w).1]at U;rw[(p t').1]at q;exact a3 w ((d w).1 hw) (h.dm t' w x ((d t').1 O) ((d w).1 hw) W U q ((R t' x).1 y) ((L w x).1 a0));rw[(p v).2.2.2.2]at tv ⊢;rw[(p w).2.2.2.2]at tw ⊢;exact h.tm v w x q ((L v x).1 q1) ((L w x).1 J) tv tw;rw[(p t').1,Z];obtain⟨q1,J⟩:=h.ri t' ((d t').1 O) x v hv;exact⟨q1,λa1 A C hE=>by rw[Z];exact J a1 A C hE⟩;by_cases e:k=s;subst e;unfold Wt at V;rw[t.ws]at V;cases V;rw[f.sh k e]at V ⊢;rw[f.m,(p _).1,(p _).2.2.1];exact h.wt k u x o m V;rw[(p b).1]at z;rw[(p b).2.2.1]at l;by_cases N:k=s;subst N;exact ZB l (I b ((d b).1 q));rw[f.sh k N]at l ⊢;rw[t.ak];exact h.ww b k ((d b).1 q) u z l x m y;rw[E];exact h.wn b ((d b).1 q) x m ((t.ak b _).1 y)
def SI.aT(h:SI H G (λ_ _=>False))(a:Ac H B)(d:B<=1000000)(hs:s<3):SI (H.aT s) G (λ_ _=>False):=by unfold Hs.aT;split;exact h;exact h.fix a d hs
def SI.cu(h:SI H G (λ_ _=>False))(a:Ac H B)(f:B<=999000):SI ([0,1,2].foldl Hs.aT H) G (λ_ _=>False):=by obtain⟨d,_⟩:=a.aT Z0 (s:=0) Z0;obtain⟨e,_⟩:=d.aT Z0 (s:=1) Z0;exact((h.aT a Z0 Z0).aT d Z0 Z0).aT e Z0 Z0
def Rn(H:Hs)(i:Nat):Prop:=(H.tx i).aa=1->∀k∈(H.tx i).ag,(H.tx i).af k=Bs (H.sh k).ad
def OP(H:Hs):Prop:=∀i,Ir H i->Rn H i
def Rn.a3(h:Rn H i)(b:Nat):Rn (H.a3 b) i:=λhs k e=>by
 obtain⟨_,_,d⟩:=Ik H b;rw[(d i).1]at hs;split at hs;omega;rw[DQ (d i).2.2.1]at e;rw[(d i).2.2.1,(qeb H b).ep];exact h hs k e
def Rn.stale(h:Rn H i)(b:Nat):Rn (H.aQ b) i:=by unfold Hs.aQ;split;exact h.a3 b;exact h
def Su(H:Hs)(i:Nat):Rn (H.aQ i) i:=by unfold Hs.aQ;split;intro hs;rw[((Ik H i).2.2 i).1,Z8 rfl]at hs;omega;rename_i d;exact λhs k f=>Wc (λe=>d ⟨hs,k,f,e⟩)
def Gd:∀(l:List Nat)(H:Hs),(∀i,Rn H i->Rn (l.foldl Hs.aQ H) i)/\∀i∈l,Rn (l.foldl Hs.aQ H) i
 |[],H=>⟨λ_ h=>h,λ_ h=>(nomatch h)⟩
 |b::l,H=>by
  have d:=Gd l (H.aQ b);refine⟨λi h=>d.1 i (h.stale b),λi e=>?_⟩;obtain rfl|e:=ZF.1 e;exact d.1 i (Su H i);exact d.2 i e
def JS:∀(l:List Nat)(H:Hs),(l.foldl Hs.aQ H).m=H.m
 |[],H=>rfl
 |b::l,H=>by
  have d:=JS l (H.aQ b);refine d.trans ?_;unfold Hs.aQ;split;exact(Ik H b).1.m;rfl
def OP.bE(H:Hs):OP H.bE:=λi d=>by
 refine(Gd (Wh 1 H.m) H).2 i (List.mem_range'_1.2 ?_);have:=d.1;have e:i<=((Wh 1 H.m).foldl Hs.aQ H).m:=d.2;rw[JS]at e;omega
def OP.step(h:OP H)(s:By H H'):OP H':=λi J=>by
 have M:=s.sm.m;have I:Ir H i:=⟨J.1,by rw[<- M];exact J.2⟩
 have t:=h i I;have y:=s.up.ep;have d:(H'.tx i).aa=(H.tx i).aa->(H'.tx i).af=(H.tx i).af->Rn H' i:=λe1 D hs k l=>by
  rw[DQ D]at l;rw[D,y];exact t (e1▸hs) k l
 have p:∀q j c b,H'=(H.add q j c b).2->Rn H' i:=λq j c b e=>by
  subst e;exact d ((Dt H q j c b).2.2.2.2 i).1 ((Dt H q j c b).2.2.2.2 i).2.2.1
 cases s with
 |a3 z v hs=>exact t.a3 _
 |@tell f k kind z v l hs=>exact d ((Ee H f kind k).2.2.2.2 i).1 ((Ee H f kind k).2.2.2.2 i).2.2.1
 |prep=>exact p _ _ _ _ rfl
 |@place f k at_=>
  refine d (q29 H f k at_ i) ?_;show(Af H.tx f _ i).af=_;by_cases e:i=f;subst e;rw[Aq];rw[Ay e]
 |@av f=>
  refine d (q2e H f i) ?_;unfold Hs.av;split;show(Af H.tx f _ i).af=_;by_cases e:i=f;subst e;rw[Aq];rw[Ay e];rfl
 |decide=>exact p _ _ _ _ rfl
 |@commit f=>
  intro hs k l;have hs:(Af H.tx f _ i).aa=1:=hs;by_cases e:i=f;subst e;rw[Aq]at hs;have hs:(3:Int)=1:=hs;omega;have l:k∈(Af H.tx f _ i).ag:=l;rw[Ay e]at hs l;show(Af H.tx f _ i).af k=_;rw[Ay e];exact t hs k l
 |@aA f q z v N E O R=>
  intro hs k l;have hs:(Af H.tx f _ i).aa=1:=hs;have l:k∈(Af H.tx f _ i).ag:=l;show(Af H.tx f _ i).af k=Bs (H.sh k).ad;by_cases e:i=f;subst e;rw[Aq]at hs l ⊢;show AS (H.tx i).af q (H.sh q).ad k=_;unfold AS;by_cases D:k=q;subst D;rw[Z8 rfl];rw[Z7 Z0];refine t E k (D5.2 ⟨(D5.1 l).1,?_⟩);have:=(D5.1 l).2;have this:AS (H.tx i).af q (H.sh q).ad k≠B0:=this;unfold AS at this;rw[Z7 Z0]at this;exact this;rw[Ay e]at hs l ⊢;exact t hs k l
 |@got f x mode=>exact d rfl rfl
 |@wait f x mode=>
  refine d ?_ ?_;show(Af H.tx f _ i).aa=_;by_cases e:i=f;subst e;rw[Aq];rfl;rw[Ay e];show(Af H.tx f _ i).af=_;by_cases e:i=f;subst e;rw[Aq];rfl;rw[Ay e]
 |aD=>exact d rfl rfl
 |@aE k m l=>
  cases C:Hs.node {H with net:=takeS H.net k} m.a8 with
  |none=>exact d (by rw[Je C]) (by rw[Je C])
  |some r=>
   obtain⟨s,j⟩:=r;rw[Jf C];have e:=BK.take ((({H with net:=takeS H.net k} : Hs).au s j (((H.sh s).nd j).step m).1).aO (((H.sh s).nd j).step m).2) s;intro hs k' u;have ex:=e.tx i;rw[ex.1]at hs;rw[DQ ex.2.2.1]at u;rw[ex.2.2.1];have:=t hs k' u;have L:=y k';rw[Jf C]at L;show _=Bs _;rw[show((((({H with net:=takeS H.net k} : Hs).au s j (((H.sh s).nd j).step m).1).aO (((H.sh s).nd j).step m).2).take s).sh k').ad=(H.sh k').ad from L];exact this
def OP.aK(s:Ag H H'):OP H->OP H':=by
 induction s with
 |refl=>exact id
 |step s _ d=>exact λh=>d (h.step s)
def Ac.e2(a:Ac H B)(q:k<2)(t:Lv H k j){e:Int}(l:e=3\/e=4)(f:An (lg H k j) e i):(H.tx i).aa=e:=by
 obtain⟨c,f,e1,u⟩:=f;obtain⟨p,h⟩:=ZI.1 f;obtain⟨_,d⟩:=a.bT.pl k q j t p c h;have v:Sn H c.tx=(H.tx i).aa:=by rw[u];rfl
 obtain d|d|d:=d;omega;have:=d.2.1;omega;have:=d.2;omega
def Nr(a:Ac H B)(l:k<3)(t:H.head k=Bs j)(e:Lv H k q):lg H k q <+: lg H k j:=by
 obtain⟨hl,f⟩:=CS t;have d:k<H.c:=by rw[a.c];exact l
 obtain⟨L,p,at_⟩:=a.ch.aN d hl;rw[at_.head]at f;have h:p=0:=Z6 f;subst h;exact a.ch.pre k d j q (at_.eA e) hl e
def SI.dT(h:SI H G (λ_ _=>False)){w:Nat}(p:k<2)(q:Lv H k j)(l:An (lg H k j) 2 w):∃c∈lg H k j,c.aj=2/\c.tx=(w:Int)/\c.ae=(H.tx w).of k:=by obtain⟨c,e,e1,f⟩:=l;obtain⟨_,_,d⟩:=h.pw k j p q c e e1;rw[f,show((w:Int).toNat)=w by omega]at d;exact⟨c,e,e1,f,d⟩
def IA{t:Bu} : p∈t.of k↔p∈t.ae/\Aa (sx p.key)=k:=by unfold Bu.of;rw[YO];simp
def SI.touch(h:SI H G (λ_ _=>False))(a:Ac H B)(I:H.head (Aa x)=Bs j)(N:Hd (H.sh (Aa x)).tab x i 1){w:Nat}(z:Ir H w)(M:i≠w)(hs:(H.tx w).aa=2)(y:Wr H w x):BV H w:=by
 have l:=FJ x;obtain⟨hl,_⟩:=CS I;have t:∀(q:Nat),Hd (H.sh (Aa x)).tab x q 2->q≠w:=λq D e=>by
  subst e;have:=Hd.eM (h.gt _ Z0) D N;omega
 obtain⟨p,E,d⟩:=y;by_cases f:An (lg H (Aa x) j) 2 w;exfalso;obtain⟨c,v,e1,J,O⟩:=h.dT l hl f;have L:EL (lg H (Aa x) j) c.tx:=by
  rw[J];exact⟨f,λe=>Z4 (a.e2 l hl (eR rfl) e),λe=>Z4 (a.e2 l hl (eS rfl) e)⟩
 have:=(h.cv _ j l I).1 c v e1 L (λe=>e) p (by rw[O];exact IA.2 ⟨E,by rw[d]⟩);rw[d,J]at this;exact t w this rfl;have C:(H.tx w).af (Aa x)≠Bs (H.sh (Aa x)).ad:=λe=>t w ((h.ho w _ z l (eS hs) e x rfl).1 ⟨p,E,d⟩) rfl
 have u:=(h.wc w z).1 x (eR ⟨p,E,d⟩);refine⟨Wc (λe=>f ((h.tp w z e).2 _ u j hl)),Aa x,u,C,λq D v=>f (v.mono (λc v=>(Nr a Z0 I D).subset v))⟩
def fnd(v:Option Sx):Sx×Bool:=match v with
 |none=>([],L1)
 |some v=>(v,VD)
def Cw(H:Hs)(x:Sx)(W:Nat):Prop:=(H.tx W).aa=3/\Wr H W x
def T8(h:¬Cw H x k):FC H x k=B0:=by unfold FC;split;rename_i e;exact q6b.2 (λp d f=>h ⟨e,p,d,f⟩);rfl
def OI(H:Hs)(x:Sx):∀(n:Nat)(E:List Nat),E.length=n->((∀W∈E,¬Cw H x W)/\Ba H E x=B0)\/∃A W C,E=A++W::C/\Cw H x W/\(∀V∈C,¬Cw H x V)/\Ba H E x=(Jl (H.tx W).ae x).getD B0
 |0,E,f=>by
  have:E=[]:=List.eq_nil_of_length_eq_zero f;subst this;exact eR ⟨λ_ h=>(nomatch h),rfl⟩
 |n+1,E,f=>by
  obtain rfl|⟨t,W,rfl⟩:=YT E;simp at f;rw[YU]at f ⊢;have u:t.length=n:=Z6 f;by_cases d:Cw H x W;refine eS ⟨t,W,[],rfl,d,λ_ h=>(nomatch h),?_⟩;rw[q4t];unfold FC;rw[Z8 d.1];cases e:Jl (H.tx W).ae x with
  |none=>
   obtain⟨p,I,L⟩:=d.2;exact ZB L (q6b.1 e p I)
  |some v=>rfl
  have D:Ba H (t++[W]) x=Ba H t x:=by rw[q4t,T8 d];rfl
  obtain⟨z,y⟩|⟨A,V,C,rfl,z,y,J⟩:=OI H x n t u;refine eR ⟨λV l=>?_,by rw[D];exact y⟩;obtain l|l:=XA.1 l;exact z V l;rw[VU.1 l];exact d;refine eS ⟨A,V,C++[W],Z3,z,λU q=>?_,by rw[D];exact J⟩;obtain q|q:=XA.1 q;exact y U q;rw[VU.1 q];exact d
def EU{d:List Pr}(l:(d.map (·.key)).Nodup)(f:p∈d):Jl d (sx p.key)=Bs (if p.aR then B0 else Bs (sx p.val)):=by
 unfold Jl;have:d.find? (λq=>sx q.key == sx p.key)=Bs p:=by
  induction d with
  |nil=>cases f
  |cons q d t=>
   rw[List.map_cons,YN]at l;obtain rfl|f:=ZF.1 f;simp;have h:(sx q.key == sx p.key)=L1:=by
    rw[beq_eq_false_iff_ne];intro e;exact l.1 (ZE.2 ⟨p,f,(q8z e).symm⟩)
   rw[List.find?_cons,h];exact t l.2 f
 rw[this];rfl
def SI.sv(h:SI H G (λ_ _=>False))(a:Ac H B)(hi:Ir H i)(ac:(H.tx i).aa=1)(hh:H.head (Aa x)=Bs j)(hd:Hd (H.sh (Aa x)).tab x i 1) :
  B8 (CB ((H.sh (Aa x)).sto x) 1099511627776)=fnd (Ba H G.E x):=by
 have E:=FJ x;obtain⟨hl,_⟩:=CS hh;obtain⟨ct,cs⟩:=h.cv _ j E hh;have hA:∀W∈G.E,Cw H x W->∃v∈(H.sh (Aa x)).sto x,v.t=(H.tx W).ah:=λW hW J=>by
  obtain⟨p,hp,d⟩:=J.2;have l:=(h.en.2.1 W hW).1;have ht:(H.tx W).ah≠0:=Z4 (a.bT.ct W l.1 l.2 J.1);have a7:=(h.wc W l).1 x (eR J.2);have X:=(h.tp W l ht).2 _ a7 j hl;have a8:An (lg H (Aa x) j) 3 W:=Wc (λa6=>by
   obtain⟨c,a9,e1,e2,e3⟩:=h.dT E hl X;have ho:EL (lg H (Aa x) j) c.tx:=by
    rw[e2];exact⟨X,a6,λe=>Z5 (a.e2 E hl (eS rfl) e) J.1⟩
   have:=ct c a9 e1 ho (λe=>e) p (by rw[e3];exact IA.2 ⟨hp,by rw[d]⟩);rw[d,e2]at this;have e4:=Hd.eM (h.gt _ Z0) this hd;have e5:W=i:=by omega
   have:=J.1;rw[e5]at this;omega)
  obtain⟨cc,Y,f1,f2⟩:=a8;obtain⟨q,S⟩:=ZI.1 Y;obtain⟨_,u⟩:=a.bT.pl _ E j hl q cc S;obtain u|⟨_,_,g3,_,g5⟩|u:=u;omega;obtain⟨w,M,w1,w2⟩:=g5;have a4:=WG M;obtain⟨_,_,L⟩:=h.pw _ j E hl w a4 w1;rw[w2,f2,show((W:Int).toNat)=W by omega]at L;obtain⟨v,hv,e⟩:=cs.all q cc S f1 w M w1 w2 p (by rw[L];exact IA.2 ⟨hp,by rw[d]⟩);rw[d]at hv;refine⟨v,hv,e.trans (g3.trans ?_)⟩;rw[f2];rfl;omega
 have hB:∀v∈(H.sh (Aa x)).sto x,∃W∈G.E,Cw H x W/\∃p∈(H.tx W).ae,sx p.key=x/\v=vxP (H.tx W).ah p:=λv hv=>by
  obtain⟨c,w,p,c1,c2,w1,w2,w3,p1,p2,p3⟩:=cs.cq x v hv;obtain⟨q,S⟩:=ZI.1 c1;obtain⟨hr,u⟩:=a.bT.pl _ E j hl q c S;obtain u|⟨_,g2,g3,_,_⟩|u:=u;omega;obtain⟨_,_,L⟩:=h.pw _ j E hl w w1 w2;rw[w3]at L;rw[L]at p1;have U:=(IA.1 p1).1;have l:Ir H c.tx.toNat:=⟨Z0,Z0⟩
  refine⟨c.tx.toNat,h.en.2.2 _ l (eS g2),⟨g2,p,U,p2⟩,p,U,p2,?_⟩;rw[p3,g3];rfl;omega
 have z:=cs.aH x;obtain⟨h1,h2⟩|⟨A,W,C,hE,h1,h2,u⟩:=OI H x _ G.E rfl;have hg:CB ((H.sh (Aa x)).sto x) 1099511627776=B0:=(QU z).2 (λy hy=>by
  obtain⟨W,hW,J,_⟩:=hB y hy;exact ZB J (h1 W hW))
 rw[hg,h2];rfl;have a0:W∈G.E:=by rw[hE];simp
 have f:=(h.en.2.1 W a0).1;have R:(H.tx W).ah≠0:=Z4 (a.bT.ct W f.1 f.2 h1.1);obtain⟨v0,O,D⟩:=hA W a0 h1;obtain⟨W',aa,af,p,hp,d,N⟩:=hB v0 O;have Z:=(h.en.2.1 W' aa).1;have e:W=W':=h.tu W W' f Z R (by rw[<- D,N];rfl);subst e;have ae:=a.wf.dY W f.1 f.2;have ag:=a.wf.bU;have hg:CB ((H.sh (Aa x)).sto x) 1099511627776=Bs v0:=(GZ z).2 ⟨O,by rw[D];omega,λy hy _=>by
  obtain⟨V,t,I,q,S,ad,a2⟩:=hB y hy;have a3:y.t=(H.tx V).ah:=by rw[a2];rfl
  rw[a3,D];by_cases e:V=W;rw[e];exact WH _;have a1:=(h.en.2.1 V t).1;have a5:(H.tx V).ah≠0:=Z4 (a.bT.ct V a1.1 a1.2 I.1);have ab:V∈A:=by
   rw[hE]at t;obtain t|t:=XA.1 t;exact t;obtain t|t:=ZF.1 t;exact ZB t e;exact ZB I (h2 V t)
  have:=h.tm V W x ⟨A,C,hE,ab⟩ I.2 h1.2 a5 R;omega⟩
 rw[hg,u];have M:=EU (h.wc W f).2 hp;rw[d]at M;rw[M,N];unfold vxP B8 fnd;cases p.aR<;>simp
def N1(H:Hs)(b k:Nat):(H.a3 b).head k=H.head k:=by
 rw[I9];have f:∀(ks:List Nat)(H:Hs),(telld H b 4 ks).head k=H.head k:=λks=>by
  induction ks with
  |nil=>exact λ_=>rfl
  |cons q ks e=>
   intro H;refine(e (H.aC b 4 q)).trans ?_;cases d:H.head q with
   |none=>rw[J6 d]
   |some j=>
    rw[Jd d];split;exact q4m H q j _ L1 k;rfl
 refine(f _ _).trans ?_;rw[qae b _ _ (q2x _)];exact RD rfl rfl
inductive Ea(b:Int):Tb->Tb->Prop where
 |refl (T:Tb):Ea b T T
 |step {T T':Tb} (h:Ea b (Bp T b) T'):Ea b T T'
def Ea.trans{b:Int}{T d:Tb}(h:Ea b T T')(k:Ea b T' d):Ea b T d:=by
 induction h with
 |refl=>exact k
 |step _ e=>exact .step (e k)
def qe8(H:Hs)(c:Cm)(b:Bool)(d:k≠q):((H.add q j c b).2.sh k).tab=(H.sh k).tab:=by rw[qcy H q j c b d]
def Ea.wd{b:Int}{T:Tb}(h:Ea b T T'):GT T->∀{x:Sx} {o m:Int},o≠b->(Wt T x o m\/Hd T x o m)->(Wt T' x o m\/Hd T' x o m):=by
 induction h with
 |refl=>exact λ_ _ _ _ _ h=>h
 |@step T T' h f=>
  intro g x o m d e;refine f (g.bF b) d ?_;obtain e|e:=e;obtain q|q:=q7q g e d;exact eR q.1;exact eS q.2.1;exact eS (e.bF g d)
def PE{ex:Nat->Int->Prop}(h:SI H G ex)(p:Wf H)(l:Di H)(k:Nat)(t:q<2):Ea (i:Int) (H.sh k).tab ((H.aC i 4 q).sh k).tab:=by
 cases d:H.head q with
 |none=>rw[J6 d];exact .refl _
 |some j=>
  rw[Jd d];split;by_cases e:k=q;subst e;have f:=q5n (b:=L1) (c:=tellC H i 4) d (h.dB l p.cr Z0 d _ _) (h.dn k j Z0 d);rw[f.tab,SQ (eS rfl)];exact .step (.refl _);rw[qe8 H _ _ e];exact .refl _;exact .refl _
def FX(d:1<=i)(k:Nat):∀(ks:List Nat) {H:Hs} {ex:Nat->Int->Prop},SI H G ex->Wf H->Di H->H.c=3->i<=H.m->(∀q∈ks,q<2)->(H.tx i).aa=4->Ea (i:Int) (H.sh k).tab ((telld H i 4 ks).sh k).tab
 |[],_,_,_,_,_,_,_,_,_=>.refl _
 |q::ks,H,ex,h,wf,lgi,hc,hi,hk,hs=>by
  have e:=Ee H i 4 q;have f:=hk q VB;exact(PE h wf lgi k f).trans (FX d k ks (h.aC wf lgi hc d hi f (eS ⟨rfl,hs⟩)) (wf.aC d hi Z0 _) (lgi.aC d hi f (eS ⟨rfl,hs⟩)) (e.2.1.trans hc) (by rw[e.2.2.1];exact hi) (λx l=>hk x (VE _ l)) (by rw[(e.2.2.2.2 i).1];exact hs))
def SI.ef(h:SI H G (λ_ _=>False))(D:Wf H)(p:Di H)(M:H.c=3)(y:1<=i)(v:i<=H.m)(hs:(H.tx i).aa=1\/((H.tx i).aa=2/\(H.tx i).ah=0))(k:Nat):Ea (i:Int) (H.sh k).tab ((H.a3 i).sh k).tab:=by
 rw[I9];have N:=h.bM y v hs;have d:=Gv i (H.tx i).ag (H.an i);have l:Wf (reld (H.an i) i (H.tx i).ag):=(D.an y v).cK i _ (λk L=>by show k<H.c;have:=Cb L;omega);have t:((reld (H.an i) i (H.tx i).ag).tx i).aa=4:=by
  rw[(d.2.2.2.2 i).1];show(Af H.tx i _ i).aa=4;rw[Aq]
 have x:((reld (H.an i) i (H.tx i).ag).tx i).ag=(H.tx i).ag:=DQ (by rw[(d.2.2.2.2 i).2.2.1];show(Af H.tx i _ i).af=_;rw[Aq]);have f:Di (reld (H.an i) i (H.tx i).ag):=by
  have t1:BC H (H.an i):=by
   refine⟨Hi _,λa _ _ e=>?_,λa _ _ e=>?_,λa _ _ e=>?_⟩;show(Af H.tx i _ a).aa=_;by_cases d:a=i;subst d;rw[e]at hs;obtain h|⟨h,_⟩:=hs<;> cases h;rw[Ay d];exact e;show(Af H.tx i _ a).aa=_;by_cases d:a=i;subst d;rw[Aq];rw[Ay d];exact e;show(Af H.tx i _ a).ah=_;by_cases d:a=i;subst d;rw[Aq];rw[Ay d]
  have E:BC (H.an i) (reld (H.an i) i (H.tx i).ag):=BC.of d.2.2.1 (λa=>⟨(d.2.2.2.2 a).1,(d.2.2.2.2 a).2.2.2.2⟩);have u:AU H (reld (H.an i) i (H.tx i).ag):=λa O z e=>by
   rw[(d.2.2.2.2 a).1]at e;have e:(Af H.tx i _ a).aa=3:=e;refine⟨by rw[d.2.2.1]at z;exact z,?_⟩;by_cases C:a=i;subst C;rw[Aq]at e;cases e;rw[Ay C]at e;exact e
  exact p.sub (t1.trans E) u (BU.same ((AP.ay H i _).trans (LV i _ _)))
 have I:Ea (i:Int) (H.sh k).tab ((reld (H.an i) i (H.tx i).ag).sh k).tab:=by
  rw[q8i i _ _ (q2x _)];split;exact .step (.refl _);exact .refl _
 refine I.trans ?_;show Ea _ _ ((Go.Proofs.YtccahlhdifadfaaGreatDoor.telld _ i 4 _).sh k).tab;rw[x];exact FX y k _ N l f (d.1.trans M) (by rw[d.2.2.1];exact v) (λq J=>Cb J) t
def q9u{x:Sx}{m:Int}(k:Nat)(y:k<3):∀(l:List Int) {H:Hs},SI H G (λ_ _=>False)->Ac H B->H.m<=40->(∀o∈l,o≠(i:Int))->(Wt (H.sh k).tab x i m\/Hd (H.sh k).tab x i m)->
  (Wt ((woundd H l).sh k).tab x i m\/Hd ((woundd H l).sh k).tab x i m)/\((woundd H l).tx i).aa=(H.tx i).aa/\((woundd H l).tx i).af=(H.tx i).af/\((woundd H l).tx i).ae=(H.tx i).ae/\((woundd H l).sh k).ad=(H.sh k).ad/\(woundd H l).head k=H.head k
 |[],_,_,_,_,_,t=>⟨t,rfl,rfl,rfl,rfl,rfl⟩
 |o::l,H,h,a,h40,hl,t=>by
  have d:∀H2:Hs,H2=H.bc o->(SI H2 G (λ_ _=>False)/\Ac H2 B/\H2.m=H.m)/\((Wt (H2.sh k).tab x i m\/Hd (H2.sh k).tab x i m)/\(H2.tx i).aa=(H.tx i).aa/\(H2.tx i).af=(H.tx i).af/\(H2.tx i).ae=(H.tx i).ae/\(H2.sh k).ad=(H.sh k).ad/\H2.head k=H.head k):=λH2 e=>by
   subst e;have v:=q6c a.wf (H:=H) o;have p:=SI.aK v h a h40;refine⟨⟨p.1,p.2,v.sm.m⟩,?_⟩;unfold Hs.bc;split;rename_i C;have f:=(Ik H o.toNat).2.2 i;have u:i≠o.toNat:=λe=>hl o VB Z0
   refine⟨(h.ef a.wf a.bT a.c Z0 Z0 (eR C.2.2) k).wd (h.gt k y) (Z4 (hl o VB)) t,by rw[f.1,Z7 u],f.2.2.1,f.2.1,(qeb H _).ep k,N1 H _ k⟩;exact⟨t,rfl,rfl,rfl,rfl,rfl⟩
  obtain⟨⟨I,E,D⟩,R,O,N,M,L,J⟩:=d _ rfl;obtain⟨e1,X,W,V,U,S⟩:=q9u k y l I E (by rw[D];exact h40) (λq z=>hl q (VE _ z)) R;exact⟨e1,X.trans O,W.trans N,V.trans M,U.trans L,S.trans J⟩
def Kz(H:Hs)(i s:Nat)(x:Sx)(mode:Int)(k:Nat):(H.b7 i s x mode).head k=H.head k:=by
 have hs:∀q,((H.b7 i s x mode).sh q).aq=(H.sh q).aq/\((H.b7 i s x mode).sh q).nd=(H.sh q).nd:=λq=>by
  show(Af H.sh s {H.sh s with tab:=Ap (H.sh s).tab i x mode} q).aq=_/\(Af H.sh s {H.sh s with tab:=Ap (H.sh s).tab i x mode} q).nd=_;by_cases e:q=s;subst e;rw[Aq];exact⟨rfl,rfl⟩;rw[Ay e];exact⟨rfl,rfl⟩
 exact PZ rfl (hs k).1 (λj=>by rw[(hs k).2];exact⟨rfl,rfl⟩)
structure LkOk(H H':Hs)(id:Int)(x:Sx)(mode:Int):Prop where
 ix:∃i:Nat,id=i/\Ir H i/\(H'.tx i).aa=1/\(H'.tx i).af (Aa x)=Bs (H'.sh (Aa x)).ad/\H'.head (Aa x)≠B0/\Hd (H'.sh (Aa x)).tab x i mode/\(H'.tx i).ae=(H.tx i).ae
def qbs{mode o:Int}(d:o∈EG h tx mode):tx<o:=by unfold EG at d;have:=(YO.1 d).2;simp only[decide_eq_true_eq]at this;exact this.1
def SI.d4(h:SI H G (λ_ _=>False))(a:Ac H B)(E:H.m<=40){id:Int}{mode:Int}(I:x∈names)(hm:Bt mode)(d:(H.aJ id x mode).1=0):LkOk H (H.aJ id x mode).2 id x mode:=by
 have O:=FJ x;by_cases hr:id<1\/H.m<id;rw[q1l hr]at d;cases d;obtain⟨i,rfl⟩:∃i:Nat,id=i:=⟨id.toNat,Z0⟩
 have p:1<=i:=by omega
 have l:i<=H.m:=by omega
 by_cases hs:(H.tx i).aa=1;by_cases z:H.head (Aa x)=B0;rw[q4z p l hs (Ex I) z]at d;cases d;by_cases q:Rs H i (Aa x);rw[q41 p l hs (Ex I) z q]at d;cases d;have a0:(H.tx i).af (Aa x)=B0\/(H.tx i).af (Aa x)=Bs (H.sh (Aa x)).ad:=by
  cases e:(H.tx i).af (Aa x)with
  |none=>exact eR rfl
  |some v=>exact eS (by rw[Wc (λh=>q ⟨v,e,h⟩)])
 by_cases D:Cp (H.tx i).ak x=VD;rw[q3z p l hs (Ex I) z q D]at d;cases d;have D:Cp (H.tx i).ak x=L1:=Z6 D;have R:=By.aA p l O hs z a0;have a4:=h.step a E R;have U:=(a.step R).1;have c1:((H.aA i (Aa x)).tx i).aa=1:=by show(Af H.tx i _ i).aa=1;rw[Aq];exact hs
 have c2:((H.aA i (Aa x)).tx i).af (Aa x)=Bs (H.sh (Aa x)).ad:=by
  show(Af H.tx i _ i).af _=_;rw[Aq];show AS _ _ _ _=_;unfold AS;rw[Z8 rfl]
 have c3:((H.aA i (Aa x)).tx i).ae=(H.tx i).ae:=by show(Af H.tx i _ i).ae=_;rw[Aq]
 have c4:Cp ((H.aA i (Aa x)).tx i).ak x=L1:=by show Cp (Af H.tx i _ i).ak x=L1;rw[Aq];exact D
 have c5:(H.aA i (Aa x)).head (Aa x)=H.head (Aa x):=rfl;have t:(H.aA i (Aa x)).m=H.m:=rfl;rw[q78 p l hs (Ex I) z q D]at d ⊢;generalize hK:H.aA i (Aa x)=K at *;have ce:(K.sh (Aa x)).ad=(H.sh (Aa x)).ad:=by rw[<- hK];rfl
 by_cases u:CF (Ad (K.sh (Aa x)).tab x).ws i=VD;rw[q2z u]at d;cases d;have u:CF (Ad (K.sh (Aa x)).tab x).ws i=L1:=Z6 u;by_cases C:Ai (Ad (K.sh (Aa x)).tab x).h i mode (Ad (K.sh (Aa x)).tab x).ws=VD;rw[q3d u C];refine⟨i,rfl,⟨p,l⟩,c1,?_,?_,?_,c3⟩;show(K.tx i).af _=Bs ((K.ax _ _).sh _).ad;rw[CJ,c2,ce];show(K.b7 i (Aa x) x mode).head _≠B0;rw[Kz,c5];exact z;show Hd ((K.ax _ _).sh _).tab _ _ _;rw[CJ];exact OH u C;have C:Ai (Ad (K.sh (Aa x)).tab x).h i mode (Ad (K.sh (Aa x)).tab x).ws=L1:=Z6 C;by_cases h4:(Ad (K.sh (Aa x)).tab x).ws.length=50;rw[q3e u C h4]at d;cases d;rw[q2k u C h4]at d ⊢;have N:=By.wait (H:=K) p (by rw[t];exact l) c1 I hm (by rw[c5];exact z) (by rw[c2,ce]) c4 u C;have S:=a4.step U (by rw[t];exact E) N;have f:=(U.step N).1;generalize W:(K.b7 i (Aa x) x mode).bq i x mode=L at *;have V:(L.tx i).aa=1/\(L.tx i).af=(K.tx i).af/\(L.tx i).ae=(K.tx i).ae:=by
  rw[<- W];show(Af K.tx i _ i).aa=1/\(Af K.tx i _ i).af=_/\(Af K.tx i _ i).ae=_;rw[Aq];exact⟨c1,rfl,rfl⟩
 have l2:(L.sh (Aa x)).tab=Ap (K.sh (Aa x)).tab i x mode/\(L.sh (Aa x)).ad=(K.sh (Aa x)).ad:=by
  rw[<- W];show((K.ax _ _).sh _).tab=_/\((K.ax _ _).sh _).ad=_;rw[CJ];exact⟨rfl,rfl⟩
 have l3:L.head (Aa x)=K.head (Aa x):=by
  rw[<- W];exact Kz K i _ x mode _
 have l4:L.m=K.m:=by rw[<- W];rfl
 have X:Wt (L.sh (Aa x)).tab x i mode:=by rw[l2.1];exact GQ u C h4
 have y:L.m<=40:=by rw[l4,t];exact E
 have Y:∀o∈EG (Ad (K.sh (Aa x)).tab x).h i mode,o≠(i:Int):=λo ho=>by have:=qbs ho;omega
 obtain⟨e1,e2,e3,e4,e5,e6⟩:=q9u (i:=i) (Aa x) Z0 _ S f y Y (eR X);have a3:=(SI.aK (q58 (EG (Ad (K.sh (Aa x)).tab x).h i mode) f.wf f.c) S f y).1;have a2:=(q58 (EG (Ad (K.sh (Aa x)).tab x).h i mode) f.wf f.c).sm.m;have d:(if Cp ((woundd L (EG (Ad (K.sh (Aa x)).tab x).h i mode)).tx i).ak x=VD then(11:Int)else 0)=0:=d;show LkOk H (woundd L (EG (Ad (K.sh (Aa x)).tab x).h i mode)) i x mode;generalize woundd L (EG (Ad (K.sh (Aa x)).tab x).h i mode)=M at *;have Z:Cp (M.tx i).ak x=L1:=by
  cases e:Cp (M.tx i).ak x with
  |false=>rfl
  |true=>rw[e]at d;simp at d
 have J:(M.tx i).af (Aa x)=Bs (M.sh (Aa x)).ad:=by rw[e3,V.2.1,c2,e5,l2.2,ce]
 have a1:¬Wt (M.sh (Aa x)).tab x i mode:=λD=>by
  have:=(a3.ww i (Aa x) ⟨p,by rw[a2,l4,t];exact l⟩ O (e2.trans V.1) J x mode rfl).2 D;have:Cp (M.tx i).ak x=VD:=qbv.2 (ZE.2 ⟨_,this,rfl⟩);rw[Z]at this;cases this
 exact⟨i,rfl,⟨p,l⟩,e2.trans V.1,J,by rw[e6,l3,c5];exact z,e1.resolve_left a1,e4.trans (V.2.2.trans c3)⟩;rw[q40 p l hs]at d;cases d
end
section
variable {H H':Hs}{G:Gh}{B:Int}{i:Nat}
def SI.net(h:SI H G (λ_ _=>False))(n:Be):SI {H with net:=n} G (λ_ _=>False):=
 h.same ⟨rfl,λ_ _ _ e=>e,λ_ _ _ e=>e,λ_ _ _ _=>VO _,λ_ j _ e=>⟨j,e,VO _⟩,λ_ _ _ _=>rfl,λ_ _=>⟨rfl,rfl,rfl,rfl⟩,λ_=>⟨rfl,rfl,rfl,rfl,rfl⟩⟩
def OP.net(h:OP H)(n:Be):OP {H with net:=n}:=λi d=>h i d
def Ac.txLog(a:Ac H B)(e:k<2)(f:Lv H k j)(h:c∈lg H k j):1<=c.tx/\c.tx<=H.m:=by obtain⟨p,d,rfl⟩:=List.getElem_of_mem h;exact(a.bT.pl k e j f p _ (K0 d)).1
def UV(H:Hs)(h:i≠H.m+1):H.a5.tx i=H.tx i:=Ay h _
def q3q(H:Hs):H.a5.tx (H.m+1)=Ei:=Aq _ _ _
def SI.a5(h:SI H G (λ_ _=>False))(a:Ac H B)(hr:G.rd (H.m+1)=[]):SI H.a5 G (λ_ _=>False):=by
 have I:=q3q H;have u:=λi=>UV H (i:=i)
 have W:∀x,¬Wr H.a5 (H.m+1) x:=λx ⟨p,hp,_⟩=>by rw[I]at hp;cases hp
 have ht:∀x,¬CH H.a5 G (H.m+1) x:=λx e=>by
  obtain e|⟨v,e⟩:=e;exact W x e;rw[hr]at e;cases e
 have J:∀i x,i≠H.m+1->(Wr H.a5 i x↔Wr H i x):=λi x e=>Wr.congr (by rw[u i e])
 have S:∀i x,i≠H.m+1->(CH H.a5 G i x↔CH H G i x):=λi x e=>CH.congr (by rw[u i e])
 have q:∀i,Ir H.a5 i->i≠H.m+1->Ir H i:=λi f e=>⟨f.1,by have:i<=H.m+1:=f.2;omega⟩
 have R:∀i,Ir H i->Ir H.a5 i/\i≠H.m+1:=λi f=>⟨⟨f.1,by have:=f.2;show i<=H.m+1;omega⟩,Z4 f.2⟩
 have hE:∀i∈G.E,i≠H.m+1:=λi f=>(R i (h.en.2.1 i f).1).2
 have U:∀A x,(∀i∈A,i∈G.E)->Ba H.a5 A x=Ba H A x:=λA x hA=>SW (λi f=>q35 (by rw[u i (hE i (hA i f))]) (by rw[u i (hE i (hA i f))]))
 have a1:∀i,i≠H.m+1->BV H i->BV H.a5 i:=λi e hd=>hd.mono (by rw[u i e]) (by rw[u i e]) (λ_ _=>rfl) (λk j _ N e=>⟨j,N,e⟩)
 refine⟨h.gt,h.t2,h.dn,λk j E N c hc X=>?_,h.wl,h.cv,λi f=>?_,λi f k E e z=>?_,λi k f E hs z x y=>?_,λi f l=>?_,λi j f N l=>?_,λi f=>?_,⟨h.en.1,λi f=>?_,λi f hs=>?_⟩,
  λt w x l Y a0 hs L y O=>?_,λv w x L h1 X=>?_,λt l x v hv=>?_,λk E x o m Z=>?_,λi k f E hs z x m y=>?_,λi f x m y=>?_⟩
 have a2:=a.txLog E N hc;have:c.tx.toNat≠H.m+1:=by omega
 rw[u _ this];exact h.pw k j E N c hc X;by_cases e:i=H.m+1;subst e;exact⟨λx y=>ZB y (ht x),by rw[I];exact YF⟩;rw[u i e];obtain⟨q1,M⟩:=h.wc i (q i f e);exact⟨λx y=>q1 x ((S i x e).1 y),M⟩;by_cases d:i=H.m+1;subst d;rw[I]at z;cases z;rw[u i d]at E z;exact h.se i (q i f d) k E e z;by_cases d:i=H.m+1;subst d;rw[I]at z;cases z;rw[u i d]at hs z;rw[J i x d];exact h.ho i k (q i f d) E hs z x y;by_cases d:i=H.m+1;subst d;rw[I]at l;exact ZB rfl l;rw[u i d]at l ⊢;exact h.tp i (q i f d) l;by_cases d:i=H.m+1;subst d;rw[I]at l;exact ZB rfl l;rw[u i d]at l ⊢;by_cases D:j=H.m+1;subst D;rw[I];intro e;exact ZB e l;rw[u j D];exact h.tu i j (q i f d) (q j N D) l;by_cases d:i=H.m+1;subst d;rw[I];exact⟨Z2,Z2⟩;rw[u i d];exact h.st i (q i f d);obtain⟨q1,M⟩:=h.en.2.1 i f;rw[u i (hE i f)];exact⟨(R i q1).1,M⟩;by_cases d:i=H.m+1;subst d;rw[I]at hs;obtain hs|hs:=hs<;> cases hs;rw[u i d]at hs;exact h.en.2.2 i (q i f d) hs;by_cases d:t=H.m+1;subst d;exact ZB y (ht x);by_cases D:w=H.m+1;subst D;exact ZB O (W x);rw[u w D]at hs;rw[u t d]at L;exact a1 w D (h.dm t w x (q t l d) (q w Y D) a0 hs L ((S t x d).1 y) ((J w x D).1 O));have d:v≠H.m+1:=λe=>by subst e;exact W x h1
 have D:w≠H.m+1:=λe=>by subst e;exact W x X
 rw[u v d,u w D];exact h.tm v w x L ((J v x d).1 h1) ((J w x D).1 X);have d:t≠H.m+1:=λe=>by subst e;rw[hr]at hv;cases hv
 rw[u t d,U G.E x (λ_ g=>g)];obtain⟨q1,M⟩:=h.ri t (q t l d) x v hv;exact⟨q1,λhs A C V=>by rw[U A x (λi f=>by rw[V];exact VM _ f)];exact M hs A C V⟩;obtain⟨q1,M,q3,q4⟩:=h.wt k E x o m Z;have:o.toNat≠H.m+1:=by omega
 rw[u _ this];exact⟨⟨q1.1,by show o<=((H.m+1:Nat):Int);omega⟩,M,q3,q4⟩;by_cases d:i=H.m+1;subst d;rw[I]at z;cases z;rw[u i d]at hs z ⊢;exact h.ww i k (q i f d) E hs z x m y;by_cases d:i=H.m+1;subst d;rw[I]at y;cases y;rw[u i d]at y ⊢;exact h.wn i (q i f d) x m y
def OP.a5(h:OP H):OP H.a5:=λi e hs k d=>by
 by_cases f:i=H.m+1;subst f;rw[q3q]at d;exact ZB rfl (D5.1 d).2;rw[UV H f]at hs d ⊢;exact h i ⟨e.1,by have:i<=H.m+1:=e.2;omega⟩ hs k d
def q6g{A:List Nat}{t:Nat}(h:E++[i]=A++t::C):(t=i/\A=E/\C=[])\/∃D,E=A++t::D:=by
 obtain e|⟨D,b,e⟩:=YT C;subst e;have:=Y3 h rfl;exact eR ⟨by have:=this.2;injection this with this;exact this.symm,this.1.symm,rfl⟩;subst e;refine eS ⟨D,?_⟩;have d:E++[i]=(A++t::D)++[b]:=by rw[h];simp
 exact(Y3 d rfl).1
def q6o(H:Hs)(h:j≠i):(H.aB i).tx j=H.tx j:=Ay h _
def q6p(H:Hs)(i:Nat):((H.aB i).tx i).aa=2/\((H.aB i).tx i).ae=(H.tx i).ae/\((H.aB i).tx i).af=(H.tx i).af/\((H.aB i).tx i).ah=(H.tx i).ah/\((H.aB i).tx i).ak=(H.tx i).ak:=by have e:(H.aB i).tx i = {H.tx i with aa:=2,aw:=λk=>if ((H.tx i).af k).isSome then Bs (-1)else(H.tx i).aw k}:=Aq _ _ _;rw[e];exact⟨rfl,rfl,rfl,rfl,rfl⟩
def qbe(H:Hs)(i j:Nat):((H.aB i).tx j).ae=(H.tx j).ae/\((H.aB i).tx j).af=(H.tx j).af/\((H.aB i).tx j).ah=(H.tx j).ah/\((H.aB i).tx j).ak=(H.tx j).ak:=by by_cases e:j=i;subst e;exact(q6p H j).2;rw[q6o H e];exact⟨rfl,rfl,rfl,rfl⟩
def SI.aB(h:SI H G (λ_ _=>False))(op:OP H)(hi:Ir H i)(hs:(H.tx i).aa=1)(hw:(H.tx i).ak=[]):SI (H.aB i) ⟨G.E++[i],G.rd⟩ (λ_ _=>False):=by
 have p:=qbe H i;have h2:=(q6p H i).1;have y:=λj=>q6o H (i:=i) (j:=j)
 have X:∀j,((H.aB i).tx j).ag=(H.tx j).ag:=λj=>DQ (p j).2.1
 have z:∀j x,Wr (H.aB i) j x↔Wr H j x:=λj x=>Wr.congr (p j).1
 have a0:∀j x,CH (H.aB i) ⟨G.E++[i],G.rd⟩ j x↔CH H G j x:=λj x=>by unfold CH;rw[z];exact Yw
 have a8:∀j,BV H j->BV (H.aB i) j:=λj hd=>hd.mono (p j).2.2.1 (p j).2.1 (λ_ _=>rfl) (λk j _ d e=>⟨j,d,e⟩)
 have l:i ∉ G.E:=λe=>(h.en.2.1 i e).2 hs
 have Z:(H.tx i).ah=0:=Wc λe=>by obtain e|e:=(h.tp i hi e).1<;> omega
 have W:∀A x,i ∉ A->Ba (H.aB i) A x=Ba H A x:=λA x hA=>SW (λj d=>q35 (by rw[y j (λe=>hA (e▸d))]) (p j).1)
 have V:∀j,((H.aB i).tx j).aa=1->j≠i/\(H.tx j).aa=1:=λj e=>by
  have:j≠i:=λe2=>by subst e2;omega
  rw[y j this]at e;exact⟨this,e⟩
 refine⟨h.gt,h.t2,h.dn,λk j E d c hc a9=>?_,h.wl,h.cv,λj d=>?_,λj d k E e M=>?_,λj k d E f M x N=>?_,λj d U=>?_,λa b ha hb=>?_,λj d=>?_,⟨?_,λj d=>?_,λj d f=>?_⟩,
  λt w x u L a3 a1 I a5 a4=>?_,λv w x I h1 h3=>?_,λt u x v hv=>?_,λk E x o m S=>?_,λj k d E f M x m N=>?_,λj d x m hm=>?_⟩
 obtain⟨q1,J,Y⟩:=h.pw k j E d c hc a9;have e:c.tx.toNat≠i:=λe=>q1 (by rw[e];exact hs)
 rw[y _ e];exact⟨q1,J,Y⟩;rw[X,(p j).1];obtain⟨q1,J⟩:=h.wc j d;exact⟨λx g=>q1 x ((a0 j x).1 g),J⟩;rw[X]at E;rw[(p j).2.1]at M;exact h.se j d k E e M;rw[(p j).2.1]at M;have a2:(H.tx j).aa=1\/(H.tx j).aa=2:=by
  by_cases e:j=i;subst e;exact eR hs;rw[y j e]at f;exact f
 rw[z];exact h.ho j k d E a2 M x N;rw[(p j).2.2.1]at U;have e:j≠i:=λe=>by subst e;exact U Z
 rw[y j e];exact h.tp j d U;rw[(p a).2.2.1,(p b).2.2.1];exact h.tu a b ha hb;by_cases e:j=i;subst e;rw[h2];exact⟨Z2,Z2⟩;rw[y j e];exact h.st j d;show(G.E++[i]).Nodup;rw[Xg];exact⟨h.en.1,Z3,λa ha b hb e=>by rw[VU.1 hb]at e;exact l (e▸ha)⟩;obtain g|g:=XA.1 d;have e:j≠i:=λe=>l (e▸g)
 rw[y j e];exact h.en.2.1 j g;rw[VU.1 g,h2];exact⟨hi,Z2⟩;by_cases e:j=i;exact List.mem_append_right _ (VU.2 e);rw[y j e]at f;exact VM _ (h.en.2.2 j d f)
 ·have R:=(a0 t x).1 a5;have O:=(z w x).1 a4;by_cases e:w=i
  ·subst e;exfalso;obtain g|⟨_,A,C,g1,g2⟩:=I
   ·obtain⟨_,g⟩:=V t g;have a6:=(h.wc w L).1 x (eR O);have a7:=(h.wc t u).1 x R;have k2:=FJ x;have d1:=(h.ho w (Aa x) L k2 (eR hs) (op w L hs _ a6) x rfl).1 O;have d2:=h.ho t (Aa x) u k2 (eR g) (op t u g _ a7) x rfl;have d3:Hd (H.sh (Aa x)).tab x t 1:=by
     obtain q|q:=R
     ·exact(d2.1 q).mono Z2
     exact d2.2 q
    have:=Hd.eM (h.gt _ Z0) d1 d3;omega
   obtain⟨q,_⟩|⟨D,q⟩:=q6g g1;exact a3 q;exact l (by rw[q];exact VM _ g2)
  rw[y w e]at a1;refine a8 w (h.dm t w x u L a3 a1 ?_ R O);by_cases e2:t=i;subst e2;exact eR hs;rw[y t e2]at I;obtain g|⟨g,A,C,g1,g2⟩:=I;exact eR g;obtain⟨q,_⟩|⟨D,q⟩:=q6g g1;exact ZB q e2;exact eS ⟨g,A,D,q,g2⟩
 obtain⟨A,C,g1,g2⟩:=I;rw[(p v).2.2.1,(p w).2.2.1];intro t1 t2;obtain⟨q,_⟩|⟨D,q⟩:=q6g g1;subst q;exact ZB Z t2;exact h.tm v w x ⟨A,D,q,g2⟩ ((z v x).1 h1) ((z w x).1 h3) t1 t2;obtain⟨q1,J⟩:=h.ri t u x v hv;constructor;intro g;obtain⟨_,g⟩:=V t g;show Ba (H.aB i) (G.E++[i]) x=v;have e:FC (H.aB i) x i=B0:=by unfold FC;rw[Z7 (by rw[h2];decide)]
 rw[q4t,e,Option.getD_none,W G.E x l];exact q1 g;intro g A C hE;have hE:G.E++[i]=A++t::C:=hE;obtain⟨q,r,_⟩|⟨D,q⟩:=q6g hE;subst q;rw[r,W G.E x l];exact q1 hs;have e:t≠i:=λe=>l (by rw[q,e];simp)
 rw[y t e]at g;rw[W A x (λm=>l (by rw[q];exact VM _ m))];exact J g A D q;obtain⟨q1,J,Y,q4⟩:=h.wt k E x o m S;have e:o.toNat≠i:=λe=>by
  rw[e]at Y J;have e3:o=(i:Int):=by omega
  rw[e3]at S;have:=(h.ww i k hi E J Y x m q4).2 S;rw[hw]at this;cases this
 rw[y _ e];exact⟨q1,J,Y,q4⟩;obtain⟨e,g⟩:=V j f;rw[y j e]at M ⊢;exact h.ww j k d E g M x m N;rw[X];rw[(p j).2.2.2]at hm;exact h.wn j d x m hm
def OP.aB(h:OP H)(i:Nat):OP (H.aB i):=λj f hs k d=>by
 have e:j≠i:=λe=>by subst e;rw[(q6p H j).1]at hs;cases hs
 rw[q6o H e]at hs d ⊢;exact h j f hs k d
def Gh.more(G:Gh)(i:Nat)(x:Sx)(v:Option Sx):Gh:=⟨G.E,λt=>if t=i then G.rd t++[(x,v)]else G.rd t⟩
def Iz{v u:Option Sx}{t:Nat} : (y,u)∈(G.more i x v).rd t↔(y,u)∈G.rd t\/(t=i/\y=x/\u=v):=by show(y,u)∈(if t=i then G.rd t++[(x,v)]else G.rd t)↔_;by_cases e:t=i;rw[Z8 e,XA,VU,Prod.mk.injEq];simp[e];rw[Z7 e];simp[e]
def Kr{v:Option Sx}{t:Nat} : CH H (G.more i x v) t y↔CH H G t y\/(t=i/\y=x):=by unfold CH Rdx;simp only[Iz];constructor;rintro (h|⟨u,h|⟨e,d,_⟩⟩);exact eR (eR h);exact eR (eS ⟨u,h⟩);exact eS ⟨e,d⟩;rintro ((h|⟨u,h⟩)|⟨e,d⟩);exact eR h;exact eS ⟨u,eR h⟩;exact eS ⟨v,eS ⟨e,d,rfl⟩⟩
def SI.read(h:SI H G (λ_ _=>False))(a:Ac H B)(S:Ir H i)(hs:(H.tx i).aa=1){x:Sx}{j:Nat}(M:(H.tx i).af (Aa x)=Bs (H.sh (Aa x)).ad)(L:H.head (Aa x)=Bs j)
  (I:Hd (H.sh (Aa x)).tab x i 1):SI H (G.more i x (Ba H G.E x)) (λ_ _=>False):=by
 have R:=FJ x;refine⟨h.gt,h.t2,h.dn,h.pw,h.wl,h.cv,λt f=>⟨λy l=>?_,(h.wc t f).2⟩,h.se,λt k f z d E y l=>⟨(h.ho t k f z d E y l).1,λJ=>?_⟩,h.tp,h.tu,h.st,h.en,λt w y f D u d N l q=>?_,h.tm,λt f y v C=>?_,h.wt,h.ww,h.wn⟩;obtain g|⟨e,p⟩:=Kr.1 l;exact(h.wc t f).1 y g;subst e p;exact D5.2 ⟨Z0,by rw[M];simp⟩;obtain⟨v,C⟩:=J;obtain g|⟨e,p,_⟩:=Iz.1 C;exact(h.ho t k f z d E y l).2 ⟨v,g⟩;subst e p l;exact I;obtain g|⟨e,p⟩:=Kr.1 l;exact h.dm t w y f D u d N g q;subst e p;exact h.touch a L I D u d q;obtain g|⟨e,p,O⟩:=Iz.1 C;exact h.ri t f y v g;subst e p O;exact⟨λ_=>rfl,λg=>Z0⟩
def qcj(h:BX l p=Bs l'):(l'.map (·.key)=l.map (·.key)/\p.key∈l.map (·.key))\/(l'.map (·.key)=l.map (·.key)++[p.key]/\p.key ∉ l.map (·.key)):=by unfold BX at h;split at h;rename_i k d;injection h with h;subst h;rw[VP]at d;obtain⟨t,f,_⟩:=d;have f:l[k].key=p.key:=(IT _ _).1 f;refine eR ⟨?_,by rw[<- f];exact Y9 (Wy t)⟩;rw[List.map_set,<- f];apply XL;intro q;rw[Yu];split;rename_i e;subst e;rw[VQ,K0 t];simp[t];rfl;rename_i d;split at h;cases h;injection h with h;subst h;refine eS ⟨Z3,λe=>?_⟩;rw[List.findIdx?_eq_none_iff]at d;obtain⟨q,u,e⟩:=ZE.1 e;have:=d q u;rw[Bool.eq_false_iff]at this;exact this ((IT _ _).2 e)
def J7(h:BX l p=Bs l') : (∃q∈l',sx q.key=y)↔(∃q∈l,sx q.key=y)\/y=sx p.key:=by
 have e:∀(m:List Pr),(∃q∈m,sx q.key=y)↔∃k∈m.map (·.key),sx k=y:=λm=>by
  constructor;rintro ⟨q,f,e⟩;exact⟨q.key,Y9 f,e⟩;rintro ⟨k,d,e⟩;obtain⟨q,f,rfl⟩:=ZE.1 d;exact⟨q,f,e⟩
 rw[e,e];obtain⟨t,u⟩|⟨t,u⟩:=qcj h;rw[t];exact⟨eR,λg=>g.elim id (λg=>⟨p.key,u,g.symm⟩)⟩;rw[t];constructor;rintro ⟨k,d,e⟩;obtain g|g:=XA.1 d;exact eR ⟨k,g,e⟩;rw[VU.1 g]at e;exact eS e.symm;rintro (⟨k,d,e⟩|e);exact⟨k,VM _ d,e⟩;exact⟨p.key,Z3,e.symm⟩
def qah(h:BX l p=Bs l')(f:(l.map (·.key)).Nodup):(l'.map (·.key)).Nodup:=by obtain⟨d,q⟩|⟨d,q⟩:=qcj h;rw[d];exact f;rw[d,Xg];exact⟨f,Z3,λa u b t e=>by rw[VU.1 t]at e;exact q (e▸u)⟩
def Hs.d7(H:Hs)(i:Nat)(l:List Pr):Hs:=H.ay i {H.tx i with ae:=l}
def Hp(H:Hs)(l:List Pr)(h:j≠i):(H.d7 i l).tx j=H.tx j:=Ay h _
def q9q(H:Hs)(i:Nat)(l:List Pr):(H.d7 i l).tx i = {H.tx i with ae:=l}:=Aq _ _ _
def Ho(H:Hs)(i:Nat)(l:List Pr)(j:Nat):((H.d7 i l).tx j).aa=(H.tx j).aa/\((H.d7 i l).tx j).af=(H.tx j).af/\((H.d7 i l).tx j).ah=(H.tx j).ah/\((H.d7 i l).tx j).ak=(H.tx j).ak:=by by_cases e:j=i;subst e;rw[q9q];exact⟨rfl,rfl,rfl,rfl⟩;rw[Hp H l e];exact⟨rfl,rfl,rfl,rfl⟩
def SI.write(h:SI H G (λ_ _=>False))(a:Ac H B)(hi:Ir H i)(hs:(H.tx i).aa=1){p:Pr}{l:List Pr}{j:Nat}(hl:BX (H.tx i).ae p=Bs l)(hc:(H.tx i).af (Aa (sx p.key))=Bs (H.sh (Aa (sx p.key))).ad)
  (hh:H.head (Aa (sx p.key))=Bs j) (X:Hd (H.sh (Aa (sx p.key))).tab (sx p.key) i 2):SI (H.d7 i l) G (λ_ _=>False):=by
 have hk:=FJ (sx p.key);have f:=Ho H i l;have W:=λj=>Hp H (i:=i) (j:=j) l
 have J:∀j,((H.d7 i l).tx j).ag=(H.tx j).ag:=λj=>DQ (f j).2.1
 have D:∀j y,Wr (H.d7 i l) j y->Wr H j y\/(j=i/\y=sx p.key):=λj y g=>by
  by_cases e:j=i;subst e;unfold Wr at g;rw[q9q]at g;obtain g|g:=(J7 hl).1 g;exact eR g;exact eS ⟨rfl,g⟩;exact eR ((Wr.congr (by rw[W j e])).1 g)
 have O:∀j y,CH (H.d7 i l) G j y->CH H G j y\/(j=i/\y=sx p.key):=λj y g=>by
  obtain g|g:=g;obtain g|g:=D j y g;exact eR (eR g);exact eS g;exact eR (eS g)
 have S:∀j,BV H j->BV (H.d7 i l) j:=λj X=>X.mono (f j).2.2.1 (f j).2.1 (λ_ _=>rfl) (λk j _ hj e=>⟨j,hj,e⟩)
 have N:(H.tx i).ah=0:=Wc λe=>by obtain e|e:=(h.tp i hi e).1<;> omega
 have U:∀A y,Ba (H.d7 i l) A y=Ba H A y:=λA y=>SW (λj _=>by
  by_cases e:j=i;subst e;unfold FC;rw[(f j).1,Z7 Z0,Z7 Z0];exact q35 (f j).1 (by rw[W j e]))
 refine⟨h.gt,h.t2,h.dn,λk q hk hq c a2 h2=>?_,h.wl,h.cv,λt x=>⟨λy I=>?_,?_⟩,λt x k z e E=>?_,λt k x z d E y I=>⟨λhr=>?_,λhr=>?_⟩,λt x M=>?_,λt u x hu=>?_,λt x=>?_,⟨h.en.1,λt x=>?_,λt x d=>?_⟩,
  λt w y x hw R d Y I a0=>?_,λv w y Y h1 h2=>?_,λt x y v hv=>?_,λk z y o m a1=>?_,λt k x z d E y m I=>?_,λt x y m hm=>?_⟩
 obtain⟨q1,Z,q3⟩:=h.pw k q hk hq c a2 h2;have e:c.tx.toNat≠i:=λe=>q1 (by rw[e];exact hs)
 rw[W _ e];exact⟨q1,Z,q3⟩;rw[J];obtain g|⟨e,V⟩:=O t y I;exact(h.wc t x).1 y g;subst e V;exact D5.2 ⟨Z0,by rw[hc];simp⟩;by_cases e:t=i;subst e;rw[q9q];exact qah hl (h.wc t x).2;rw[W t e];exact(h.wc t x).2;rw[J]at z;rw[(f t).2.1]at E;exact h.se t x k z e E;rw[(f t).1]at d;rw[(f t).2.1]at E;obtain g|⟨e,V⟩:=D t y hr;exact(h.ho t k x z d E y I).1 g;subst e V I;exact X;rw[(f t).1]at d;rw[(f t).2.1]at E;exact(h.ho t k x z d E y I).2 hr;rw[(f t).2.2.1]at M;rw[(f t).1,J];exact h.tp t x M;rw[(f t).2.2.1,(f u).2.2.1];exact h.tu t u x hu;rw[(f t).1];exact h.st t x;rw[(f t).1];exact h.en.2.1 t x;rw[(f t).1]at d;exact h.en.2.2 t x d
 ·rw[(f w).1]at d;rw[(f t).1]at Y;have L:Wr H w y:=by
   obtain g|⟨e,_⟩:=D w y a0;exact g;subst e;omega
  obtain g|⟨e,V⟩:=O t y I;exact S w (h.dm t w y x hw R d Y g L);subst e V;exact S w (h.touch a hh (X.mono Z2) hw R d L)
 rw[(f v).2.2.1,(f w).2.2.1];intro t1 t2;have g1:Wr H v y:=by
  obtain g|⟨e,_⟩:=D v y h1;exact g;subst e;exact ZB N t1
 have g2:Wr H w y:=by
  obtain g|⟨e,_⟩:=D w y h2;exact g;subst e;exact ZB N t2
 exact h.tm v w y Y g1 g2 t1 t2;rw[(f t).1,U];obtain⟨q1,Z⟩:=h.ri t x y v hv;exact⟨q1,λg A C hE=>by rw[U];exact Z g A C hE⟩;rw[(f _).1,(f _).2.1];exact h.wt k z y o m a1;rw[(f t).1]at d;rw[(f t).2.1]at E;rw[(f t).2.2.2];exact h.ww t k x z d E y m I;rw[J];rw[(f t).2.2.2]at hm;exact h.wn t x y m hm
def OP.write(h:OP H)(i:Nat)(l:List Pr):OP (H.d7 i l):=λj f hs k e=>by
 have d:=Ho H i l j;rw[d.1]at hs;rw[DQ d.2.1]at e;rw[d.2.1];exact h j f hs k e
def OT(a:Ac H B)(l:k<3)(hl:Lv H k j)(e:((H.sh k).nd j).head=VD)(f:Lv H k q):j<=q:=by
 have d:k<H.c:=by rw[a.c];exact l
 obtain⟨L,p,at_⟩:=a.ch.aN d hl;rw[at_.head]at e;have h:p=0:=Z6 e;subst h;exact at_.eA f
def OR(a:Ac H B)(f:k<3)(hl:Lv H k j)(h:((H.sh k).nd j).head=VD):H.head k=Bs j:=by
 cases e:H.head k with
 |none=>
  exfalso;unfold Hs.head Bv.d5 at e;rw[YL]at e;exact e j (Fy.2 hl) h
 |some l=>
  obtain⟨d,p⟩:=CS e;have t:=OT a f hl h d;have q:=OT a f d p hl;rw[show l=j by omega]
structure FailF(H H':Hs):Prop where
 m:H'.m=H.m
 n:H'.n=H.n
 tx:H'.tx=H.tx
 sh:∀k,(H'.sh k).nd=(H.sh k).nd/\(H'.sh k).tab=(H.sh k).tab/\(H'.sh k).sto=(H.sh k).sto/\(H'.sh k).done=(H.sh k).done/\(H'.sh k).ad=(H.sh k).ad
 aq:∀k d,(H'.sh k).aq d=L1->(H.sh k).aq d=L1
def E6(H:Hs)(id:Int):FailF H (H.fail id):=by
 cases l:H.node id with
 |none=>rw[q53 l];exact⟨rfl,rfl,rfl,λ_=>⟨rfl,rfl,rfl,rfl,rfl⟩,λ_ _ h=>h⟩
 |some q=>
  obtain⟨s,j⟩:=q;rw[q52 l];have e:∀k,((H.bm s id).sh k=H.sh k)\/(H.bm s id).sh k = {H.sh k with aq:=λi=>decide (i=id) || (H.sh k).aq i}:=λk=>by
   by_cases p:k=s;subst p;exact eS (Aq _ _ _);exact eR (Ay p _)
  refine⟨rfl,rfl,rfl,λk=>?_,λk d f=>?_⟩;show((H.bm s id).sh k).nd=_/\((H.bm s id).sh k).tab=_/\((H.bm s id).sh k).sto=_/\((H.bm s id).sh k).done=_/\((H.bm s id).sh k).ad=_;obtain e|e:=e k<;> rw[e]<;>exact⟨rfl,rfl,rfl,rfl,rfl⟩;have f:((H.bm s id).sh k).aq d=L1:=f;obtain e|e:=e k;rw[e]at f;exact f;rw[e]at f;exact(Bool.or_eq_false_iff.1 f).2
def SI.fail(h:SI H G (λ_ _=>False))(a:Ac H B)(id:Int):SI (H.fail id) G (λ_ _=>False):=by
 have f:=E6 H id;have e:∀k j,lg (H.fail id) k j=lg H k j:=λk j=>by unfold lg;rw[(f.sh k).1]
 have d:∀k j,Lv (H.fail id) k j->Lv H k j:=λk j ⟨p,l⟩=>by
  rw[(f.sh k).1]at l;exact⟨by rw[f.n]at p;exact p,f.aq k _ l⟩
 refine h.same ⟨f.m,λk j _ hl=>d k j hl,λk j q t=>?_,λk j _ _=>by rw[e];exact VO _,λk j _ hl=>⟨j,d k j hl,by rw[e];exact VO _⟩,λk j _ _=>e k j,λk _=>(f.sh k).2,λi=>by rw[f.tx];exact⟨rfl,rfl,rfl,rfl,rfl⟩⟩;obtain⟨p,l⟩:=CS t;rw[(f.sh k).1]at l;exact OR a q (d k j p) l
def OP.fail(h:OP H)(id:Int):OP (H.fail id):=λj e hs k d=>by
 have f:=E6 H id;rw[f.tx]at hs d ⊢;rw[(f.sh k).2.2.2.2];exact h j ⟨e.1,by have:=e.2;rw[f.m]at this;exact this⟩ hs k d
def SI.dO(h:SI H G (λ_ _=>False))(a:Ac H B)(q:B<=999000)(e:H.m<=40)(r:FO H H'):SI H' G (λ_ _=>False)/\OP H':=by
 obtain⟨v,u1⟩:=a.cu q;have s1:=h.cu a q;have p:([0,1,2].foldl Hs.aT H).m<=40:=by rw[u1.m];exact e
 have l:Ag ([0,1,2].foldl Hs.aT H) ([0,1,2].foldl Hs.aT H).bE:=q5a _ (λi u=>by
  rw[List.mem_range'_1]at u;omega)
 obtain⟨s2,f⟩:=SI.aK l s1 v p;have t:([0,1,2].foldl Hs.aT H).bE.m<=40:=by rw[l.sm.m];exact p
 have d:=q2g r f.wf f.c;exact⟨(SI.aK d s2 f t).1,OP.aK d (OP.bE _)⟩
structure AA(H:Hs)(G:Gh)(B:Int):Prop where
 a:Ac H B
 s:SI H G (λ_ _=>False)
 o:OP H
def AA.mono{B':Int}(h:AA H G B)(d:B<=B'):AA H G B':=⟨h.a.mono d,h.s,h.o⟩
def AA.aK(h:AA H G B)(s:Ag H H')(d:H.m<=40):AA H' G B:=⟨(Ac.aK s h.a).1,(SI.aK s h.s h.a d).1,OP.aK s h.o⟩
def AA.dp(h:AA H G B)(d:B<=999000)(r:Fw H H'):Ac H' (B+3):=(h.a.dp d r (D:=λ_=>True) (λ_ _ _ _=>trivial)).1
def AA.net(h:AA H G B)(d:B<=999000){l:List Ms}(hl:∀m∈l,m∈H.net.l):AA {H with net:=⟨l,H.net.aq⟩} G (B+3):=⟨h.dp d (.net hl),h.s.net _,h.o.net _⟩
def AA.a5(h:AA H G B)(e:B<=999000)(f:H.m<60)(d:G.rd (H.m+1)=[]):AA H.a5 G (B+3):=⟨h.dp e (.a5 f),h.s.a5 h.a d,h.o.a5⟩
def AA.fail(h:AA H G B)(d:B<=999000)(id:Int):AA (H.fail id) G (B+3):=⟨h.dp d (.fail id),h.s.fail h.a id,h.o.fail id⟩
def AA.dO(h:AA H G B)(e:B<=999000)(d:H.m<=40)(r:FO H H'):AA H' G (B+3):=⟨h.dp e (.fix r),(h.s.dO h.a e d r).1,(h.s.dO h.a e d r).2⟩
def AA.ends(h:AA H G B)(q:B<=999000)(p:H.m<=40)(d:Ir H i)(hs:(H.tx i).aa=1)(l:(H.tx i).ak=[])(r:Ek (H.aB i) H'):AA H' ⟨G.E++[i],G.rd⟩ (B+3):=by have e:Wf (H.aB i):=h.a.wf.aB d.1 d.2;have f:=q2g r e h.a.c;have t:=h.dp q (.ends d.1 d.2 hs l (.refl _));have s1:=h.s.aB h.o d hs l;exact⟨h.dp q (.ends d.1 d.2 hs l f),(SI.aK f s1 t p).1,OP.aK f (h.o.aB i)⟩
def Em(d:List Pr)(x:Sx):Option Pr:=d.reverse.find? (λp=>sx p.key == x)
inductive GetO(H:Hs)(G:Gh)(B:Int)(id:Int)(x:Sx):(Int×Sx×Bool)×Hs->Prop where
 |bad {c:Int} {H':Hs} (hc:c≠0) (h:AA H' G B) (s:Ag H H'):GetO H G B id x ((c,[],L1),H')
 |own {i:Nat} {p:Pr} {H':Hs} (hid:id=i) (hi:Ir H i) (hs:(H'.tx i).aa=1) (hw:(H'.tx i).ae=(H.tx i).ae) (ho:Em (H.tx i).ae x=Bs p) (h:AA H' G B) (s:Ag H H'):GetO H G B id x ((0,sx p.val,!p.aR),H')
 |read {i:Nat} {v:Option Sx} {H':Hs} (hid:id=i) (hi:Ir H i) (hs:(H'.tx i).aa=1) (hw:(H'.tx i).ae=(H.tx i).ae) (ho:Em (H.tx i).ae x=B0) (h:AA H' (G.more i x v) B) (s:Ag H H'):GetO H G B id x ((0,fnd v),H')
def AA.get(h:AA H G B)(q:H.m<=40)(id:Int){x:Sx}(C:x∈names):GetO H G B id x (H.get id x):=by
 have f:=P9 (id:=id) (mode:=1) h.a.wf h.a.c C (by unfold Bt;omega);have d:=h.aK f q;have E:=f.sm.m;unfold Hs.get;simp only;by_cases u:(H.aJ id x 1).1=0;rw[Z7 (Z6 u)];obtain⟨i,rfl,t,hs,J,I,D,v⟩:=(h.s.d4 h.a q C (by unfold Bt;omega) u).ix;rw[show((i:Int)).toNat=i by omega];have l:Ir (H.aJ i x 1).2 i:=⟨t.1,by rw[E];exact t.2⟩
 have y:Em ((H.aJ i x 1).2.tx i).ae x=Em (H.tx i).ae x:=by rw[v]
 unfold Em at y;cases e:((H.aJ i x 1).2.tx i).ae.reverse.find? (λp=>sx p.key == x)with
 |some p=>exact .own rfl t hs v (by unfold Em;rw[<- y];exact e) d f
 |none=>
  cases z:(H.aJ i x 1).2.head (Aa x)with
  |none=>exact ZB z I
  |some j=>
   simp only;rw[d.s.sv d.a l hs z D];exact .read rfl t hs v (by unfold Em;rw[<- y];exact e) ⟨d.a,d.s.read d.a l hs J z D,d.o⟩ f
 rw[Z8 (Z6 u)];exact .bad u d f
inductive PutO(H:Hs)(G:Gh)(B:Int)(id:Int)(p:Pr):Int×Hs->Prop where
 |bad {c:Int} {H':Hs} (hc:c≠0) (h:AA H' G B) (s:Ag H H'):PutO H G B id p (c,H')
 |ok {i:Nat} {l:List Pr} {H':Hs} (hid:id=i) (hi:Ir H i) (hs:(H'.tx i).aa=1) (hw:(H'.tx i).ae=(H.tx i).ae) (hl:BX (H.tx i).ae ⟨p.key,if p.aR then⟨#[]⟩else p.val,p.aR⟩=Bs l) (h:AA (H'.d7 i l) G (B+3)) (s:Ag H H'):PutO H G B id p (0,H'.d7 i l)
def AA.put(h:AA H G B)(M:B<=999000)(t:H.m<=40)(id:Int){p:Pr}(x:sx p.key∈names):PutO H G B id p (H.put id p):=by
 have f:=P9 (id:=id) (mode:=2) h.a.wf h.a.c x (by unfold Bt;omega);have u:=h.aK f t;have E:=f.sm.m;have d:=h.dp M (put_act h.a.wf h.a.c id x);unfold Hs.put at d ⊢;by_cases q:40<p.val.size;rw[Z8 q];exact .bad Z2 h (.refl _);rw[Z7 q]at d ⊢;simp only at d ⊢;by_cases v:(H.aJ id (sx p.key) 2).1=0;rw[Z7 (Z6 v)]at d ⊢;obtain⟨i,rfl,z,hs,L,I,J,C⟩:=(h.s.d4 h.a t x (by unfold Bt;omega) v).ix;rw[show((i:Int)).toNat=i by omega]at d ⊢;have y:Ir (H.aJ i (sx p.key) 2).2 i:=⟨z.1,by rw[E];exact z.2⟩
 cases e:BX ((H.aJ i (sx p.key) 2).2.tx i).ae ⟨p.key,if p.aR then⟨#[]⟩else p.val,p.aR⟩with
 |none=>exact .bad Z2 u f
 |some l=>
  rw[e]at d;cases D:(H.aJ i (sx p.key) 2).2.head (Aa (sx p.key))with
  |none=>exact ZB D I
  |some j=>
   exact .ok rfl z hs C (by rw[<- C];exact e) ⟨d,u.s.write u.a y hs e L D J,u.o.write i l⟩ f
 rw[Z8 (Z6 v)];exact .bad v u f
end
def bs(x:Sx):ByteArray:=⟨x.toArray⟩
def F9(x:Sx):sx (bs x)=x:=DG x
def bs_sx(k:ByteArray):bs (sx k)=k:=q8z (F9 _)
def DC(m:Mp)(d:List Pr):Mp:=λk=>match Jl d (sx k)with
 |some v=>v.map bs
 |none=>m k
def DU(ops:List Cv)(e:List (Sx×Option Sx))(d:List Pr):Prop:=∀m:Mp,(∀x v,(x,v)∈e->m (bs x)=v.map bs)->DY m ops=Bs (DC m d)
def Oy(m:Mp)(d:List Pr)(x:Sx):DC m d (bs x)=match Jl d x with
 |some v=>v.map bs
 |none=>m (bs x):=by unfold DC;rw[F9]
def DU.nil:DU [] [] []:=λm _=>rfl
def q75{d:Mp}{ops:List Cv}(h:DY m ops=Bs d)(o:Cv):DY m (ops++[o])=FM d o:=by
 rw[q21,h,Option.bind_some];unfold DY;cases e:FM d o with
 |none=>rfl
 |some r=>rfl
def OA{o:Cv}(h:o.aj=1)(g:CG m o):FM m o=Bs m:=by unfold FM;rw[Z8 h,Z8 g]
def Qk{d:List Pr}(h:Em d x=Bs p):p∈d/\sx p.key=x:=by unfold Em at h;have f:=WY h;have e:=List.find?_some h;exact⟨List.mem_reverse.1 f,Z6 e⟩
def Ql{d:List Pr}(h:Em d x=B0):Jl d x=B0:=by unfold Em at h;rw[YL]at h;rw[q6b];intro p f e;exact h p (List.mem_reverse.2 f) (Z6 e)
def DU.own{ops:List Cv}{f:List (Sx×Option Sx)}{d:List Pr}(h:DU ops f d)(q:(d.map (·.key)).Nodup){x:Sx}{p:Pr}(l:Em d x=Bs p):DU (ops++[⟨1,bs x,bs (sx p.val),!p.aR⟩]) f d:=λm t=>by
 obtain⟨u,rfl⟩:=Qk l;rw[q75 (h m t)];refine OA rfl ?_;have e:=Oy m d (sx p.key);rw[EU q u]at e;unfold CG;show(DC m d (bs (sx p.key))).isSome=_/\∀v,DC m d (bs (sx p.key))=Bs v->v=bs (sx p.val);rw[e];cases p.aR with
 |true=>exact⟨rfl,λv e=>by cases e⟩
 |false=>exact⟨rfl,λv e=>by injection e with e;exact e.symm⟩
def DU.read{ops:List Cv}{f:List (Sx×Option Sx)}{d:List Pr}(h:DU ops f d){x:Sx}(q:Em d x=B0)(v:Option Sx):DU (ops++[⟨1,bs x,bs (fnd v).1,(fnd v).2⟩]) (f++[(x,v)]) d:=λm l=>by
 rw[q75 (h m (λy u p=>l y u (VM _ p)))];refine OA rfl ?_;have e:=Oy m d x;rw[Ql q]at e;have t:=l x v Z3;unfold CG;show(DC m d (bs x)).isSome=_/\∀u,DC m d (bs x)=Bs u->u=bs (fnd v).1;rw[e];show(m (bs x)).isSome=_/\∀u,m (bs x)=Bs u->u=bs (fnd v).1;rw[t];cases v with
 |none=>exact⟨rfl,λv e=>by cases e⟩
 |some v=>exact⟨rfl,λu e=>by injection e with e;exact e.symm⟩
def Qd(h:BX l p=Bs l'):p∈l'/\∀q∈l,q.key≠p.key->q∈l':=by unfold BX at h;split at h;rename_i k u;injection h with h;subst h;rw[VP]at u;obtain⟨v,t,_⟩:=u;have t:l[k].key=p.key:=(IT _ _).1 t;refine⟨ZI.2 ⟨k,by rw[List.getElem?_set_self v]⟩,λq f e=>?_⟩;obtain⟨n,d⟩:=ZI.1 f;refine ZI.2 ⟨n,?_⟩;rw[List.getElem?_set_ne];exact d;rintro rfl;rw[K0 v]at d;injection d with d;exact e (by rw[<- d];exact t);split at h;cases h;injection h with h;subst h;exact⟨Z3,λq f _=>VM _ f⟩
def U9(h:BX l p=Bs l')(u:(l.map (·.key)).Nodup)(y:Sx):Jl l' y=if y=sx p.key then Bs (if p.aR then B0 else Bs (sx p.val))else Jl l y:=by have f:=qah h u;obtain⟨x,v⟩:=Qd h;by_cases e:y=sx p.key;rw[Z8 e,e];exact EU f x;rw[Z7 e];by_cases g:∃q∈l,sx q.key=y;obtain⟨q,d,rfl⟩:=g;rw[EU u d];exact EU f (v q d (λt=>e (by rw[t])));have z:Jl l y=B0:=q6b.2 (λq d t=>g ⟨q,d,t⟩);rw[z];refine q6b.2 (λq d t=>?_);obtain g2|g2:=(J7 h).1 ⟨q,d,t⟩;exact g g2;exact e g2
def DU.put{ops:List Cv}{q:List (Sx×Option Sx)}{p:List Pr}(h:DU ops q p)(u:(p.map (·.key)).Nodup){k:ByteArray}(t:d=2\/d=3)(hl:BX p ⟨k,if (d == 3)=VD then⟨#[]⟩else v,d == 3⟩=Bs l) :
  DU (ops++[⟨d,k,v,L1⟩]) q l:=λm x=>by
 rw[q75 (h m x)];have e:=U9 hl u;have f:∀y:ByteArray,(y=k)↔(sx y=sx k):=λy=>⟨λe=>by rw[e],q8z⟩
 obtain rfl|rfl:=t;have e1:FM (DC m p) ⟨2,k,v,L1⟩=Bs ((DC m p).set k (Bs v)):=rfl;rw[e1];congr 1;funext y;unfold Mp.set DC;rw[e];by_cases g:y=k;rw[Z8 g,Z8 ((f y).1 g)];show Bs v=Bs (bs (sx v));rw[bs_sx];rw[Z7 g,Z7 (λe=>g ((f y).2 e))];have e1:FM (DC m p) ⟨3,k,v,L1⟩=Bs ((DC m p).set k B0):=rfl;rw[e1];congr 1;funext y;unfold Mp.set DC;rw[e];by_cases g:y=k;rw[Z8 g,Z8 ((f y).1 g)];rfl;rw[Z7 g,Z7 (λe=>g ((f y).2 e))]
section
variable {H H':Hs}{G:Gh}{B:Int}{i:Nat}
def q7m(H:Hs)(i a:Nat)(t:Bu)(h:t.ae=(H.tx i).ae):((H.ay i t).tx a).ae=(H.tx a).ae:=by show(Af H.tx i t a).ae=_;by_cases e:a=i;subst e;rw[Aq,h];rw[Ay e]
def take_wr(H:Hs)(s a:Nat):((H.take s).tx a).ae=(H.tx a).ae:=((BK.take H s).tx a).2.1
def By.wr(s:By H H')(a:Nat):(H'.tx a).ae=(H.tx a).ae:=by
 cases s with
 |@a3 i=>exact((Ik H i).2.2 a).2.1
 |@tell i k kind=>exact((Ee H i kind k).2.2.2.2 a).2.1
 |prep=>exact((Dt _ _ _ _ _).2.2.2.2 a).2.1
 |@place i k at_=>exact q7m H i a _ rfl
 |@av i=>
  unfold Hs.av;split;exact q7m _ i a _ rfl;rfl
 |decide=>exact((Dt _ _ _ _ _).2.2.2.2 a).2.1
 |@commit i=>exact q7m H i a _ rfl
 |@aA i k=>exact q7m H i a _ rfl
 |got=>rfl
 |@wait i x mode=>exact q7m _ i a _ rfl
 |aD=>rfl
 |@aE k m e=>
  cases d:Hs.node {H with net:=takeS H.net k} m.a8 with
  |none=>rw[Je d]
  |some q=>
   obtain⟨s,j⟩:=q;rw[Jf d,take_wr];rfl
def Ag.wr(s:Ag H H')(a:Nat):(H'.tx a).ae=(H.tx a).ae:=by
 induction s with
 |refl=>rfl
 |step h _ d=>exact d.trans (h.wr a)
structure Bm(H:Hs)(G:Gh)(T:List Au)(now:Int):Prop where
 len:H.m=T.length
 bh:∀(i:Nat)(t:Au),T[i]? = Bs t->DU t.bh (G.rd (i+1)) (H.tx (i+1)).ae
 rd:∀i,H.m<i->G.rd i=[]
 lt:∀(i:Nat)(t:Au),T[i]? = Bs t->0<=t.a8->(H.tx (i+1)).aa=3
 rt:∀(i u:Nat)(t v:Au),T[i]? = Bs t->T[u]? = Bs v->0<=t.a8->t.a8<v.ar->(u+1)∈G.E->Bef G.E (i+1) (u+1)
 fr:∀(i:Nat)(t:Au),T[i]? = Bs t->t.ar<=now
def Bm.mono{now':Int}{now:Int}(h:Bm H G T now)(d:now<=now'):Bm H G T now':=⟨h.len,h.bh,h.rd,h.lt,h.rt,λi t e=>Z4 (h.fr i t e)⟩
def Bm.same{now:Int}(h:Bm H G T now)(d:H'.m=H.m)(f:∀a,(H'.tx a).ae=(H.tx a).ae)(l:BC H H'):Bm H' G T now:=
 ⟨d.trans h.len,λi t e=>by rw[f];exact h.bh i t e,λi p=>h.rd i (by rw[<- d];exact p),λi t e q=>l.s3 (i+1) Z0 (Z5 ((ZC.1 e).1) h.len) (h.lt i t e q),h.rt,h.fr⟩
def Bm.aK{T:List Au}{now:Int}(h:Bm H G T now)(a:Ac H B)(s:Ag H H'):Bm H' G T now:=h.same s.sm.m (s.wr) (Ac.aK s a).2.1
def Bef.cR{a b c:Nat}(h:Bef E a b):Bef (E++[c]) a b:=by obtain⟨A,C,e,d⟩:=h;exact⟨A,C++[c],by rw[e];simp,d⟩
def Bm.ends{T:List Au}{now:Int}(h:Bm H G T now)(s:SI H G (λ_ _=>False))(z:Ir H i)(hs:(H.tx i).aa=1):Bm (H.aB i) ⟨G.E++[i],G.rd⟩ T now:=by
 have l:=qbe H i;refine⟨h.len,λj t e=>by rw[(l _).1];exact h.bh j t e,h.rd,λj t e f=>?_,λj u t v e1 y f x p=>?_,h.fr⟩;have d:=h.lt j t e f;have:j+1≠i:=λe=>by rw[e]at d;omega
 rw[q6o H this];exact d;have d:=h.lt j t e1 f;have q:Ir H (j+1):=⟨Z0,Z5 ((ZC.1 e1).1) h.len⟩
 obtain g|g:=XA.1 p;exact(h.rt j u t v e1 y f x g).cR;rw[VU.1 g];exact⟨G.E,[],rfl,s.en.2.2 _ q (eS d)⟩
def Bm.a5{T:List Au}{now f:Int}(h:Bm H G T f)(s:SI H G (λ_ _=>False))(D:f<=now):Bm H.a5 G (T++[⟨[],now,-1⟩]) now:=by
 have l:=h.len;have d:∀{i:Nat} {t:Au},(T++[(⟨[],now,-1⟩:Au)])[i]? = Bs t->(i<H.m/\T[i]? = Bs t)\/(i=H.m/\t=⟨[],now,-1⟩):=λ{i t} e=>by
  by_cases g:i<T.length;rw[VZ g]at e;exact eR ⟨Z0,e⟩;have x:=(ZC.1 e).1;simp only[VJ,Wi,XB]at x;obtain rfl:i=T.length:=by omega
  simp only[Xv,VN]at e;exact eS ⟨l.symm,e.symm⟩
 refine⟨by show H.m+1=_;rw[l];simp,λi t e=>?_,λi z=>h.rd i (by have:H.m+1<i:=z;omega),λi t e p=>?_,λi u t v e1 q p C y=>?_,λi t e=>?_⟩;obtain⟨g,e⟩|⟨g,e⟩:=d e;rw[UV H Z0];exact h.bh i t e;rw[g,q3q,e,h.rd _ Z0];exact DU.nil;obtain⟨g,e⟩|⟨g,e⟩:=d e;rw[UV H Z0];exact h.lt i t e p;rw[e]at p;exact ZB (show(0:Int)<=-1 from p) Z2;obtain⟨g,e1⟩|⟨g,e1⟩:=d e1;obtain⟨x,q⟩|⟨x,q⟩:=d q;exact h.rt i u t v e1 q p C y;have:=(s.en.2.1 _ y).1.2;omega;rw[e1]at p;exact ZB (show(0:Int)<=-1 from p) Z2;obtain⟨g,e⟩|⟨g,e⟩:=d e;have:=h.fr i t e;omega;rw[e];exact WH _
def Bm.late{now:Int}(h:Bm H G T now):Bm H G (Bq H now T) now:=by
 have f:∀{i:Nat} {t:Au},(Bq H now T)[i]? = Bs t->∃d,T[i]? = Bs d/\t=DI H now i d:=λ{i t} e=>by
  unfold Bq at e;rw[Wd]at e;cases l:T[i]? with
  |none=>rw[l]at e;cases e
  |some d=>rw[l]at e;injection e with e;exact⟨d,rfl,e.symm⟩
 have hl:∀i t,(DI H now i t).bh=t.bh/\(DI H now i t).ar=t.ar:=λi t=>by unfold DI;split<;>exact⟨rfl,rfl⟩
 refine⟨by rw[h.len];unfold Bq;simp,λi t e=>?_,h.rd,λi t e p=>?_,λi u t v e1 E p q D=>?_,λi t e=>?_⟩;obtain⟨d,l,rfl⟩:=f e;rw[(hl i d).1];exact h.bh i d l;obtain⟨d,l,rfl⟩:=f e;have I:=(ZC.1 l).1;have z:=h.len;unfold DI at p;split at p;rename_i g;have x:=g.2;unfold Hs.aa at x;split at x;cases x;rw[show((i:Int)+1).toNat=i+1 by omega]at x;exact x;exact h.lt i d l p;obtain⟨d,l,rfl⟩:=f e1;obtain⟨y,C,rfl⟩:=f E;rw[(hl u y).2]at q;have J:=h.fr u y C;unfold DI at p q;split at q;have q:now<y.ar:=q;omega;rename_i g;rw[Z7 g]at p;exact h.rt i u d y l C p q D;obtain⟨d,l,rfl⟩:=f e;rw[(hl i d).2];exact h.fr i d l
def Bm.op{now:Int}(h:Bm H G T now)(L:Ir H i){y:Gh}{o:Cv}(C:H'.m=H.m)(O:BC H H')(U:y.E=G.E)(J:∀t,t≠i->y.rd t=G.rd t)(N:∀t,t≠i->(H'.tx t).ae=(H.tx t).ae)
  (R:∀ops,DU ops (G.rd i) (H.tx i).ae->DU (ops++[o]) (y.rd i) (H'.tx i).ae):Bm H' y (Ch T i o) now:=by
 have q:=h.len;have X:=L.1;have W:=L.2;have D:i-1<T.length:=by omega
 have e:Ch T i o=T.set (i-1) {T[i-1]with bh:=T[i-1].bh++[o]}:=by
  unfold Ch;rw[show((i:Int)).toNat-1=i-1 by omega,K0 D];simp only;rw[Z8 Z0]
 rw[e];have p:∀{a:Nat} {t:Au},(T.set (i-1) {T[i-1]with bh:=T[i-1].bh++[o]})[a]? = Bs t->(a≠i-1/\T[a]? = Bs t)\/(a=i-1/\t = {T[i-1]with bh:=T[i-1].bh++[o]}):=λ{a t} e=>by
  rw[Yu]at e;split at e;rename_i g;injection e with e;exact eS ⟨g.symm,e.symm⟩;rename_i g;exact eR ⟨λE=>g E.symm,e⟩
 have ex:∀{a:Nat} {t:Au},(T.set (i-1) {T[i-1]with bh:=T[i-1].bh++[o]})[a]? = Bs t->∃d,T[a]? = Bs d/\t.a8=d.a8/\t.ar=d.ar:=λ{a t} e=>by
  obtain⟨_,f⟩|⟨g,f⟩:=p e;exact⟨t,f,rfl,rfl⟩;subst g f;exact⟨T[i-1],K0 D,rfl,rfl⟩
 refine⟨by rw[C,List.length_set];exact q,λa t e=>?_,λt g=>by rw[J t (by rw[C]at g;omega)];exact h.rd t (by rw[C]at g;exact g),λa t e x=>?_,λa u t v e1 E x S I=>?_,λa t e=>?_⟩;obtain⟨g,f⟩|⟨g,f⟩:=p e;have:a+1≠i:=by omega
 rw[J _ this,N _ this];exact h.bh a t f;subst g f;have:=h.bh (i-1) T[i-1] (K0 D);rw[show i-1+1=i by omega]at this ⊢;exact R _ this;obtain⟨d,l,q1,_⟩:=ex e;rw[q1]at x;exact O.s3 (a+1) Z0 (Z4 ((ZC.1 l).1)) (h.lt a d l x);obtain⟨d,l,q1,_⟩:=ex e1;obtain⟨M,V,_,z⟩:=ex E;rw[U]at I ⊢;exact h.rt a u d M l V (by rw[<- q1];exact x) (by rw[<- q1,<- z];exact S) I;obtain⟨d,l,_,z⟩:=ex e;rw[z];exact h.fr a d l
def U7(H:Hs)(i:Nat)(l:List Pr):BC H (H.d7 i l):=BC.of rfl (λa=>⟨(Ho H i l a).1,(Ho H i l a).2.2.1⟩)
def net_txm(H:Hs)(n:Be):BC H {H with net:=n}:=BC.of rfl (λ_=>⟨rfl,rfl⟩)
def AA.mid{safe:Bool}{nodes:Nat}{now M:Int}{x:ActX}{T':List Au}(h:AA H G B)(S:Bm H G T M)(Z:M<=now)(I:B<=999000)(h7:T.length<=7)(r:Bf safe nodes now x H T H' T') :
  ∃N,AA H' N (B+3)/\Bm H' N T' now:=by
 have E:=S.mono Z;have a0:=E.len;have q:H.m<=40:=by omega
 have U:=h.a.wf;have L:=h.a.c;have star:∀{H2:Hs},Ag H H2->∃N,AA H2 N (B+3)/\Bm H2 N T now:=λs=>⟨G,(h.aK s q).mono Z0,E.aK h.a s⟩
 have net:∀l:List Ms,(∀m∈l,m∈H.net.l)->∃N,AA {H with net:=⟨l,H.net.aq⟩} N (B+3)/\Bm {H with net:=⟨l,H.net.aq⟩} N T now:=λl hl=>⟨G,h.net I hl,E.same rfl (λ_=>rfl) (net_txm H _)⟩
 cases r with
 |a5 _ h6=>exact⟨G,h.a5 I Z0 (E.rd _ Z0),S.a5 h.s Z⟩
 |full|none|dropE|other=>exact star (.refl _)
 |get _ C=>
  have D:=h.get q (Bc T x.tx) (MI x.a);unfold opG;generalize H.get (Bc T x.tx) (AT x.a)=R at D C ⊢;cases D with
  |bad L=>exact ZB C L
  |@own i p H2 u z hs O V J s=>
   refine⟨G,J.mono Z0,?_⟩;rw[u];refine E.op z s.sm.m (Ac.aK s h.a).2.1 rfl (λ_ _=>rfl) (λt _=>s.wr t) (λops d=>?_);rw[O];exact d.own (h.s.wc i z).2 V
  |@read i v H2 u z hs O V J s=>
   refine⟨_,J.mono Z0,?_⟩;rw[u];refine E.op z s.sm.m (Ac.aK s h.a).2.1 rfl (λt e=>Z7 e) (λt _=>s.wr t) (λops d=>?_);rw[O,show(G.more i (AT x.a) v).rd i=G.rd i++[(AT x.a,v)]from Z8 rfl];exact d.read V v
 |getE _ C=>
  have D:=h.get q (Bc T x.tx) (MI x.a);generalize H.get (Bc T x.tx) (AT x.a)=R at D C ⊢;cases D with
  |bad L J s=>exact star s
  |own=>exact ZB rfl C
  |read=>exact ZB rfl C
 |put O C=>
  have D:=h.put I q (Bc T x.tx) (p:=Ow x) (by show sx (bs (AT x.a))∈names;rw[F9];exact MI x.a);generalize H.put (Bc T x.tx) (Ow x)=R at D C ⊢;cases D with
  |bad L=>exact ZB C L
  |@ok i l H2 u z hs a3 hl J s=>
   refine⟨G,J,?_⟩;rw[u];refine E.op z (s.sm.m) ((Ac.aK s h.a).2.1.trans (U7 _ _ _)) rfl (λ_ _=>rfl) (λt e=>by rw[Hp H2 l e];exact s.wr t) (λops d=>?_);rw[q9q];exact d.put (h.s.wc i z).2 O hl
 |putE O C=>
  have D:=h.put I q (Bc T x.tx) (p:=Ow x) (by show sx (bs (AT x.a))∈names;rw[F9];exact MI x.a);generalize H.put (Bc T x.tx) (Ow x)=R at D C ⊢;cases D with
  |bad L J s=>exact star s
  |ok=>exact ZB rfl C
 |ends _ r=>
  cases r with
  |missing|aa|waits=>exact star (.refl _)
  |ends u X J r=>
   have z:Ir H (Bc T x.tx).toNat:=⟨Z0,Z0⟩
   have h3:=h.ends I q z X J r;have Y:=h.dp I (.ends z.1 z.2 X J (.refl _));exact⟨_,h3,(E.ends h.s z X).aK Y (q2g r Y.wf Y.c)⟩
 |drop=>exact star (G6 _)
 |deliver _ _ r=>exact star (q66 r U L)
 |lose=>exact net (H.net.l.eraseIdx _) (λm W=>List.mem_of_mem_eraseIdx W)
 |twice=>
  unfold Hs.twice;split;exact star (.refl _);rename_i m W;have:=net (AR H.net m).l (λy hy=>by
   obtain h|⟨h,_⟩:=Gn hy;exact h;rw[h];exact N2 W)
  rw[<- q4v H.net m]at this;exact this
 |aD _ r=>exact star (qa0 r U L)
 |fail=>
  unfold Hs.bZ;split;have f:=E6 H (10*((AZ x.a 3:Nat):Int)+((AZ x.tx nodes:Nat):Int));exact⟨G,h.fail I _,E.same f.m (λa=>by rw[f.tx]) (BC.of f.m (λa=>by rw[f.tx];exact⟨rfl,rfl⟩))⟩;exact star (.refl _)
 |fix _ r=>
  obtain⟨a1,u1⟩:=h.a.cu I;exact⟨G,h.dO I q r,(E.same u1.m (λa=>(u1.tx a).2.1) u1.tm).aK a1 (qbb r h.a I)⟩
 |calm _ r=>exact star (q89 r U L)
end
def E4(H:Hs)(n:Nat):List Nat:=(Ww n).filter λi=>(H.tx (i+1)).aa == 3 || (H.tx (i+1)).aa == 2
def tx0:Au:=⟨[],0,0⟩
def Bn(H:Hs)(T:List Au):List Au:=(E4 H T.length).map λi=>T[i]?.getD tx0
def qay{H:Hs} : i∈E4 H n↔i<n/\((H.tx (i+1)).aa=3\/(H.tx (i+1)).aa=2):=by unfold E4;rw[YO,Zs];simp
def QH(H:Hs)(n:Nat):(E4 H n).Nodup:=Zj XI List.nodup_range
section
variable {B:Int}
def Im(H:Hs)(n e:Nat):Nat:=(E4 H n).idxOf (e-1)
def Cj(H:Hs)(n:Nat)(L:List Nat):List Nat:=(L.filter λe=>(H.tx e).aa == 3).map (Im H n)
def q9j{L:List Nat} : k∈Cj H n L↔∃e∈L,(H.tx e).aa=3/\Im H n e=k:=by unfold Cj;rw[List.mem_map];constructor;rintro ⟨e,h,f⟩;obtain⟨d,l⟩:=YO.1 h;exact⟨e,d,Z6 l,f⟩;rintro ⟨e,h,f,d⟩;exact⟨e,YO.2 ⟨h,Z6 f⟩,d⟩
def JC{t:Au}(h:(Bn H T)[k]? = Bs t):∃i,(E4 H T.length)[k]? = Bs i/\T[i]? = Bs t:=by
 unfold Bn at h;rw[VQ]at h;cases e:(E4 H T.length)[k]? with
 |none=>rw[e]at h;cases h
 |some i=>
  rw[e]at h;injection h with h;have h:T[i]?.getD tx0=t:=h;have d:=(qay.1 (N2 e)).1;refine⟨i,rfl,?_⟩;rw[K0 d]at h ⊢;rw[<- h];rfl
def qak{e:Nat}(h:1<=e)(f:e<=n)(hs:(H.tx e).aa=3):(E4 H n)[Im H n e]? = Bs (e-1):=by have d:e-1∈E4 H n:=qay.2 ⟨Z0,eR (by rw[show e-1+1=e by omega];exact hs)⟩;unfold Im;rw[K0 (List.idxOf_lt_length_iff.2 d),List.getElem_idxOf]
def S6(h:(E4 H n)[k]? = Bs i):Im H n (i+1)=k:=by unfold Im;obtain⟨e,d⟩:=ZC.1 h;subst d;rw[Xc];exact(QH H n).idxOf_getElem k e
def VA{t:Au}(h:(E4 H T.length)[k]? = Bs i)(d:T[i]? = Bs t):(Bn H T)[k]? = Bs t:=by unfold Bn;rw[VQ,h];show Bs (T[i]?.getD tx0)=_;rw[d];rfl
def JB(H:Hs)(T:List Au):(Bn H T).length=(E4 H T.length).length:=by unfold Bn;simp
def Ma{T:List Au}{now:Int}(h:SI H G (λ_ _=>False))(f:Bm H G T now):∀(C A:List Nat)(m:Mp),G.E=A++C->(∀k,m k=(Ba H A (sx k)).map bs)->WayP (Bn H T) (Cj H T.length A) m (Cj H T.length C)
 |[],A,m,d,_=>by
  show Dx (Bn H T) (Cj H T.length A);intro k J h0;unfold Dq at h0;rw[K0 J]at h0;obtain⟨i,u,p⟩:=JC (K0 J);have S:=f.lt i _ p h0;have hi:=(ZC.1 p).1;have I:=f.len;rw[WB]at d;exact q9j.2 ⟨i+1,by rw[<- d];exact h.en.2.2 _ ⟨Z0,Z0⟩ (eS S),S,S6 u⟩
 |e::C,A,m,d,hm=>by
  have I:=f.len;have N:G.E=(A++[e])++C:=by rw[d];simp
  have M:e∈G.E:=by rw[d];simp
  obtain⟨⟨e1,e2⟩,_⟩:=h.en.2.1 e M;have l:∀L,Cj H T.length (L++[e])=Cj H T.length L++Cj H T.length [e]:=λL=>by unfold Cj;simp
  by_cases hs:(H.tx e).aa=3;have W:Cj H T.length [e]=[Im H T.length e]:=by unfold Cj;rw[Y2,Z8 (Z6 hs)];rfl
  have V:Cj H T.length (e::C)=Im H T.length e::Cj H T.length C:=by unfold Cj;rw[Y2,Z8 (Z6 hs)];rfl
  rw[V];have hp:=qak e1 (by omega:e<=T.length) hs;have t:e-1<T.length:=by omega
  have X:=VA hp (K0 t);have z:BL (Bn H T) (Im H T.length e)=T[e-1].bh:=by unfold BL;rw[X];rfl
  have D:e ∉ A:=λg=>by
   have E:=h.en.1;rw[d,Xg]at E;exact E.2.2 e g e Z3 rfl
  have hO:=f.bh (e-1) _ (K0 t);rw[show e-1+1=e by omega]at hO;have Y:=hO m (λx v hx=>by
   rw[hm,F9,(h.ri e ⟨e1,e2⟩ x v hx).2 (eS hs) A C d])
  refine⟨(ZC.1 X).1,λg=>?_,λk J a0 Z R=>?_,DC m (H.tx e).ae,by rw[z];exact Y,?_⟩;obtain⟨a,u,p,g3⟩:=q9j.1 g;have ha:=(h.en.2.1 a (by rw[d];exact VM _ u)).1;have q:=qak ha.1 (by have:=ha.2;omega:a<=T.length) p;rw[g3,hp]at q;injection q with q;have:a=e:=Z4 ha.1;exact D (this▸u);obtain⟨U,O⟩:=R;obtain⟨j,u,p⟩:=JC (K0 J);unfold Dq at U O;unfold BY at O;rw[K0 J]at U O;rw[X]at O;have hj:=(ZC.1 p).1;have S:=f.lt j _ p U;have R:=f.rt j (e-1) _ _ p (K0 t) U O (by rw[show e-1+1=e by omega];exact M);rw[show e-1+1=e by omega]at R;obtain⟨y,C2,q1,q2⟩:=R;have hA:y=A:=by
   have E:=h.en.1;have q3:A++e::C=y++e::C2:=by rw[<- d,q1]
   have n2:e ∉ y:=λg=>by
    rw[q1,Xg]at E;exact E.2.2 e g e Z3 rfl
   have i1:(A++e::C).idxOf e=A.length:=by rw[Zt,Z7 D];simp
   have i2:(y++e::C2).idxOf e=y.length:=by rw[Zt,Z7 n2];simp
   have hl:y.length=A.length:=by rw[<- i1,<- i2,q3]
   exact((List.append_inj q3 hl.symm).1).symm
  subst hA;exact Z (q9j.2 ⟨j+1,q2,S,S6 u⟩);have:=Ma h f C (A++[e]) (DC m (H.tx e).ae) N (λk=>by
   rw[q4t];unfold DC FC;rw[Z8 hs];cases q:Jl (H.tx e).ae (sx k)with
   |none=>exact hm k
   |some v=>rfl)
  rw[l,W]at this;exact this;have W:Cj H T.length [e]=[]:=by unfold Cj;rw[Y2,Z7 (Z6 hs)];rfl
  have V:Cj H T.length (e::C)=Cj H T.length C:=by unfold Cj;rw[Y2,Z7 (Z6 hs)]
  rw[V];have:=Ma h f C (A++[e]) m N (λk=>by
   rw[q4t];unfold FC;rw[Z7 hs];exact hm k)
  rw[l,W,WB]at this;exact this
def JA{now:Int}(h:SI H G (λ_ _=>False))(u:Bm H G T now):(DF (Bn H T) (Bn H T).length [] Mp.empty).isSome=VD:=by
 have z:=Ma h u G.E [] Mp.empty rfl (λk=>rfl);refine qbz _ _ _ _ ?_ z;rw[JB];have v:=u.len;have d:∀k∈Cj H T.length G.E,k<(E4 H T.length).length:=λk t=>by
  obtain⟨e,I,E,rfl⟩:=q9j.1 t;have x:=(h.en.2.1 e I).1;exact(ZC.1 (qak x.1 (Z4 x.2) E)).1
 have q:(Cj H T.length G.E).Nodup:=by
  unfold Cj;unfold Yz;rw[Xb];refine List.Pairwise.imp_of_mem ?_ (Zj XI h.en.1);intro a b D C p e;obtain⟨N,M⟩:=YO.1 D;obtain⟨L,J⟩:=YO.1 C;have l:=(h.en.2.1 a N).1;have f:=(h.en.2.1 b L).1;have q1:=qak l.1 (by have:=l.2;omega:a<=T.length) (Z6 M);have y:=qak f.1 (by have:=f.2;omega:b<=T.length) (Z6 J);rw[e,y]at q1;injection q1 with q1;have:=l.1;have:=f.1;exact p Z0
 have:=q.length_le_of_subset (l₂:=Ww (E4 H T.length).length) (λk t=>Zs.2 (d k t));rw[List.length_range]at this;exact this
end
def Emp(x:Bv):Prop:=x.tab=(λ_=>B0)/\x.sto=(λ_=>[])/\x.done=0
def fix_emp{H:Hs}(d:∀j,lg (H.fix s) s j=[])(h:Emp (H.sh s)):Emp ((H.fix s).sh s):=by
 by_cases hl:(H.sh s).ai H.n=[];unfold Hs.fix;rw[Z8 hl];exact h;rw[q9n hl]at d ⊢;unfold Hs.bN at d ⊢;simp only at d ⊢;generalize List.foldl (Hs.aM s ((H.sh s).bL H.n)) (H.ax s {H.sh s with ad:=wrap64 ((H.sh s).ad+1),size:=((H.sh s).ai H.n).length}) ((H.sh s).ai H.n)=H2 at *;generalize hM:H2.ax s {H2.sh s with tab:=λ_=>B0,sto:=λ_=>[],done:=0} = M at *;have f:Emp (M.sh s):=by rw[<- hM,CJ];exact⟨rfl,rfl,rfl⟩
 have e:M.take s=M:=H7 (λj _=>by
  have l:lg M s j=[]:=by
   have:=d j;unfold lg at this ⊢;rw[(BK.take M s).nd]at this;exact this
  rw[l,f.2.2];rfl)
 rw[e];exact f
def qau{n:Nat}(h:n<=4):∀q,q<=3->∀s,Emp ((AJ n q).sh s)
 |0,_=>λ_=>⟨rfl,rfl,rfl⟩
 |q+1,v=>λs=>by
  have u:=qau h q Z0;obtain⟨p,y⟩:=q3p h q Z0;obtain⟨x,_⟩:=q3p h (q+1) v;have l:=p.c;have d:=p.b4 q (Hi _);have f:=x.lg;have e:AJ n (q+1)=(AJ n q).cc.fix q:=by
   show(AJ n q).cc.fix (AJ n q).c=_;rw[l]
  rw[e]at f ⊢;have t:=(p.ch.cc (by rw[l];exact d) (λs j _ _=>y _)).fix;rw[l]at t;by_cases g:s=q;subst g;exact fix_emp (f s) (u s);rw[t.sh s g];exact u s
def AA.b4(l:n<=4):AA (BJ n) ⟨[],λ_=>[]⟩ 1:=by
 obtain⟨y,z,_⟩:=q8w l;have f:=qau l 3 (Hi _);have e:=(q3p l 3 (Hi _)).1.lg;rw[<- E5]at f e;have d:∀i,¬Ir (BJ n) i:=λi h=>by have:=h.1;have:=h.2;omega
 refine⟨y,⟨λk _=>by rw[(f k).1];exact GT.bo,λx=>by rw[(f 2).1],λk j _ _=>by rw[(f k).2.2,e];rfl,λk j _ _ c p=>(by rw[e]at p;cases p),λk j _ _=>by rw[e];exact⟨λq c h=>by simp at h,λq c h=>by simp at h⟩,
  λk j _ _=>by rw[e,(f k).1,(f k).2.1];exact⟨λw u=>(nomatch u),Fs.nil⟩,λi h=>ZB h (d i),λi h=>ZB h (d i),λi k h=>ZB h (d i),λi h=>ZB h (d i),λi j h=>ZB h (d i),λi h=>ZB h (d i),
  ⟨YF,λi h=>(nomatch h),λi h=>ZB h (d i)⟩,λt w x h=>ZB h (d t),λv w x h=>?_,λt h=>ZB h (d t),λk _ x o m h=>?_,λi k h=>ZB h (d i),λi h=>ZB h (d i)⟩,λi h=>ZB h (d i)⟩
 obtain⟨A,C,h,_⟩:=h;simp at h;rw[(f k).1]at h;cases h
def Bm.b4(d:n<=4):Bm (BJ n) ⟨[],λ_=>[]⟩ [] 0:=by obtain⟨_,f,_⟩:=q8w d;exact⟨f,λi t e=>by simp at e,λ_ _=>rfl,λi t e=>by simp at e,λi u t v e=>by simp at e,λi t e=>by simp at e⟩
section
variable {B:Int}
def U8{d:List Pr}{v:Sx}(h:Jl d x=Bs (Bs v)):∃p∈d,v=sx p.val:=by
 unfold Jl at h;cases e:d.find? (λp=>sx p.key == x)with
 |none=>rw[e]at h;cases h
 |some p=>
  rw[e]at h;have h:(if p.aR then B0 else Bs (sx p.val))=Bs v:=by injection h
  refine⟨p,WY e,?_⟩;split at h;cases h;injection h with h;exact h.symm
def Jy{x v:Sx} : ∀(n:Nat)(E:List Nat),E.length=n->Ba H E x=Bs v->∃i∈E,∃p∈(H.tx i).ae,v=sx p.val
 |0,E,d,h=>by
  rw[List.length_eq_zero_iff.1 d]at h;cases h
 |n+1,E,d,h=>by
  obtain e|⟨A,a,e⟩:=YT E;subst e;cases h;subst e;rw[YU,q4t]at h;rw[YU];cases q:FC H x a with
  |none=>
   rw[q]at h;obtain⟨j,l,f⟩:=Jy n A (Z6 d) h;exact⟨j,VM _ l,f⟩
  |some u=>
   rw[q]at h;have h:u=Bs v:=h;subst h;unfold FC at q;split at q;exact⟨a,Z3,U8 q⟩;cases q
def AA.dX(h:AA H G B){v:Sx}(f:Ba H G.E x=Bs v):v.length<=40:=by obtain⟨j,q,p,l,rfl⟩:=Jy _ _ rfl f;have d:=(h.s.en.2.1 j q).1;have:=((h.a.wf.tx j d.1 d.2).ps p l).2;have e:=J5 p.val;omega
def AA.dt(h:AA H G B)(f:H.m<=40)(id:Int)(y:x∈names):(H.get id x).1.2.1.length<=40:=by
 have u:=P9 (id:=id) (mode:=1) h.a.wf h.a.c y (by unfold Bt;omega);have l:=h.aK u f;have E:=u.sm.m;unfold Hs.get;simp only;by_cases t:(H.aJ id x 1).1=0;rw[Z7 (Z6 t)];obtain⟨i,rfl,z,hs,M,I,J,L⟩:=(h.s.d4 h.a f y (by unfold Bt;omega) t).ix;rw[show((i:Int)).toNat=i by omega];have d:Ir (H.aJ i x 1).2 i:=⟨z.1,by rw[E];exact z.2⟩
 cases e:((H.aJ i x 1).2.tx i).ae.reverse.find? (λp=>sx p.key == x)with
 |some p=>
  have D:=List.mem_reverse.1 (WY e);have:=((l.a.wf.tx i d.1 d.2).ps p D).2;have N:=J5 p.val;show(sx p.val).length<=40;omega
 |none=>
  cases C:(H.aJ i x 1).2.head (Aa x)with
  |none=>exact ZB C I
  |some j=>
   simp only;rw[l.s.sv l.a d hs C J];cases q:Ba (H.aJ i x 1).2 G.E x with
   |none=>exact VG _
   |some v=>exact l.dX q
 rw[Z8 (Z6 t)];exact VG _
def UI(o:Cv):Prop:=o.key.size<=40/\o.val.size<=40
def BH(T:List Au):Prop:=∀t∈T,∀o∈t.bh,UI o
def BH.nil:BH []:=λ_ h=>(nomatch h)
def BH.op(h:BH T)(id:Int){o:Cv}(l:UI o):BH (Ch T id o):=by unfold Ch;split;rename_i t f;split;intro u e p d;obtain g|g:=List.mem_or_eq_of_mem_set e;exact h u g p d;subst g;obtain g|g:=XA.1 d;exact h t (N2 f) p g;rw[VU.1 g];exact l;exact h;exact h
def BH.late(h:BH T)(H:Hs)(now:Int):BH (Bq H now T):=by
 intro t p o q;unfold Bq at p;obtain⟨i,d⟩:=ZI.1 p;rw[Wd]at d;cases e:T[i]? with
 |none=>rw[e]at d;cases d
 |some l=>
  rw[e]at d;injection d with d;subst d;have f:(DI H now i l).bh=l.bh:=by unfold DI;split<;>rfl
  rw[f]at q;exact h l (N2 e) o q
def GU(a:Int):(⟨(AT a).toArray⟩:ByteArray).size<=40:=by
 have h:∀x∈names,x.length<=40:=by decide
 have:=h _ (MI a);show(AT a).toArray.size<=40;simpa using this
def BH.mid{safe:Bool}{nodes:Nat}{now:Int}{x:ActX}{T':List Au}(f:BH T)(h:AA H G B)(e:H.m<=40)(r:Bf safe nodes now x H T H' T'):BH T':=by
 cases r with
 |a5 _ q=>
  intro t l o d;obtain g|g:=XA.1 l;exact f t g o d;rw[VU.1 g]at d;cases d
 |get _ p=>
  refine f.op _ ⟨GU _,?_⟩;have:=h.dt e (Bc T x.tx) (MI x.a);show(H.get (Bc T x.tx) (AT x.a)).1.2.1.toArray.size<=40;simpa using this
 |put _ p=>exact f.op _ ⟨GU _,by have:=qbh x.val;show(CY x.val).size<=40;omega⟩
 |_=>exact f
end
section
open Go.RowKit Go.Maps Go.WideMaps
def Mo:Keyed Tryz.prog 9:=string_keyed Tryz.underlying9
def zeroS(w:D0):(zeroValue 9).run Tryz.prog w=.ok (ZV ⟨#[]⟩) w:=by kernel_rfl
def OM(s:ByteArray):Lit:=.string s.data.toList
def OK(s:ByteArray):WideAt.IsKeyLit (OM s):=trivial
def OL{s:ByteArray}(h:OM s=OM t):s=t:=by unfold OM at h;injection h with h;have:s.data=t.data:=Array.ext' h;cases s;cases t;simp_all
def q97(D:YI Unit)(m:Mp):Prop:=∀s:ByteArray,s.size<=VY->Maps.has D (OM s)=(m s).isSome/\∀v,m s=Bs v->∀z,D.atKey (OM s) z=.lit (.string v.data.toList)
def BN(w:D0)(b n:Nat)(m:Mp):Prop:=∃D:YI Unit,w.ownsMap Tryz.prog 9 (plainElem Tryz.prog 9) b n D/\q97 D m
section
variable {w w':D0}{b n:Nat}{m:Mp}
def BN.lt(h:BN w b n m):b<w.heap.size:=by obtain⟨D,h,_⟩:=h;exact h.lt
def BN.mono(h:BN w b n m){n':Nat}(e:n<=n'):BN w b n' m:=by obtain⟨D,h,d⟩:=h;exact⟨D,h.mono e,d⟩
def BN.c7(h:BN w b n m)(e:w'.heap[b]? = w.heap[b]?):BN w' b n m:=by obtain⟨D,⟨p,d,l,r⟩,f⟩:=h;exact⟨D,⟨p,d,e.trans l,r⟩,f⟩
def BN.fr{S:Nat->Prop}(h:BN w b n m)(e:Fr S w w')(d:¬S b):BN w' b n m:=h.c7 (e.block b h.lt d)
def BN.alloc(h:BN w b n m)(o:Obj):BN (w.alloc o) b n m:=h.fr (S:=λ_=>False) ((Fr.refl _ _).alloc o) (λx=>x)
def Hy:q97 (.map []) Mp.empty:=λs _=>⟨rfl,λv h=>by cases h⟩
def BN.cT(w:D0):BN (w.alloc (.map #[] 0)) w.heap.size 0 Mp.empty:=⟨_,World.ownsMap_made w _ _ _,Hy⟩
def q97.set{D:YI Unit}(h:q97 D m)(p:IsMap D)(s v:ByteArray):q97 (D.put (OM s) (.lit (.string v.data.toList))) (m.set s (Bs v)):=λt l=>by
 by_cases e:t=s;subst e;rw[has_put_same p (OK t)];refine⟨by simp[Mp.set],λu f z=>?_⟩;rw[atKey_put_same p (OK t)];simp[Mp.set]at f;rw[f];have d:OM t≠OM s:=λx=>e (OL x)
 rw[has_put_other d];have q:m.set s (Bs v) t=m t:=by simp[Mp.set,e]
 rw[q];refine⟨(h t l).1,λu f z=>?_⟩;rw[atKey_put_other d];exact(h t l).2 u f z
def q97.del{D:YI Unit}(h:q97 D m)(s:ByteArray):q97 (D.del (OM s)) (m.set s B0):=λt l=>by
 by_cases e:t=s;subst e;rw[has_del_same];exact⟨by simp[Mp.set],λu f z=>by simp[Mp.set]at f⟩;have d:OM t≠OM s:=λq=>e (OL q)
 rw[has_del_other d];have p:m.set s B0 t=m t:=by simp[Mp.set,e]
 rw[p];refine⟨(h t l).1,λu f z=>?_⟩;rw[atKey_del_other d];exact(h t l).2 u f z
def BN.cn(h:BN w b n m)(s:ByteArray)(hs:s.size<=VY) :
  (Instr.lookup 113 (.map (Bs b)) (.string s) VD).run Tryz.prog w=.ok (ZZ #[.string ((m s).getD ⟨#[]⟩),ZX (m s).isSome]) w:=by
 obtain⟨D,z,y⟩:=h;obtain⟨v,ps,f,E⟩:=z.look_ok Mo Tryz.underlying113 (zeroS w) (zd:=.lit (.string [])) (zp:=[]) (plainElem_string Tryz.underlying9 (s:=⟨#[]⟩) (by unfold VY;show 0<=_;omega)) (keyOf_string_mk Tryz.underlying9 hs);obtain⟨u,rfl,l,_⟩:=plainElem_string_inv Tryz.underlying9 E;obtain⟨q,I⟩:=y s hs;rw[f];have C:(Lit.string s.data.toList)=OM s:=rfl;rw[C]at l ⊢;have e:u=(m s).getD ⟨#[]⟩:=by
  rcases p:m s with _|x
  ·have t:D.atKey (OM s) (.lit (.string []))=.lit (.string []):=atKey_of_not_has (by rw[q,p];rfl) _;rw[t]at l;have d:(DataW.lit (Lit.string []):YI Unit)=.lit (.string u.data.toList):=congrArg Prod.fst l;simp only[DataW.lit.injEq,Lit.string.injEq]at d;show u=_;have:u.data=#[]:=Array.ext' (Z6 d.symm);cases u;simp_all
  rw[I x p]at l;have d:(DataW.lit (Lit.string x.data.toList):YI Unit)=.lit (.string u.data.toList):=congrArg Prod.fst l;simp only[DataW.lit.injEq,Lit.string.injEq]at d;show u=x;have:u.data=x.data:=Array.ext' d.symm;cases u;cases x;simp_all
 rw[q,e]
end
section
variable {w:D0}{ops:Array Oper}{rest:List Oper}{o:Oper}{a:Act}{Q:Exit->Act->D0->Prop}{K:Act->D0->Prop}
def RO(m x v:Yi)(t:o.op=Op.mapUpdate 113 m x v)(b n:Nat)(u:Mp)(L:a.eval m=.map (Bs b))(p:BN w b n u)(J:n<VY)(f d:ByteArray)(E:a.eval x=ZV f)(I:a.eval v=ZV d)
  (M:f.size<=VY) (q:d.size<=VY) (N:∀w',BN w' b (n+1) (u.set f (Bs d))->Fr (λk=>k=b) w w'->K (a.put o.dst Yl) w'):o.wp Tryz.prog a w K Q:=by
 obtain⟨D,y,h⟩:=p;obtain⟨w',l,C,z⟩:=y.update Mo Tryz.underlying113 J (keyOf_string_mk Tryz.underlying9 M) (plainElem_string Tryz.underlying9 q);unfold Yp;simp[execOp,t,L,E,I,l,W8];exact N _ ⟨_,C,h.set y.isMap f d⟩ (Fr.b8 z (λk e=>(Wn e).symm))
def Hr(D:o.guard=B0)(m x v:Yi)(p:o.op=Op.mapUpdate 113 m x v)(b n:Nat)(h:Mp)(z:a.eval m=.map (Bs b))(f:BN w b n h)(y:n<VY)(e d:ByteArray)(t:a.eval x=ZV e)(u:a.eval v=ZV d)
  (C:e.size<=VY) (l:d.size<=VY) (E:∀w',BN w' b (n+1) (h.set e (Bs d))->Fr (λk=>k=b) w w'->wpList Tryz.prog ops Q rest (a.put o.dst Yl) w'):wpList Tryz.prog ops Q (o::rest) a w:=
 wpList_plain D λ_ q=>RO m x v p b n h z f y e d t u C l λw' J I=>q _ _ (E w' J I)
def RP(m x:Yi)(p:o.op=Op.call {callee:=Callee.builtin Builtin.delete,args:=#[m,x],argTypes:=#[113,9]})(b n:Nat)(q:Mp)(z:a.eval m=.map (Bs b))(l:BN w b n q)(d:ByteArray)(v:a.eval x=ZV d)
  (C:d.size<=VY) (E:∀w',BN w' b n (q.set d B0)->Fr (λk=>k=b) w w'->K (a.put o.dst (ZZ #[])) w'):o.wp Tryz.prog a w K Q:=by
 obtain⟨D,y,f⟩:=l;obtain⟨w',h,u,t⟩:=y.drop Mo Tryz.underlying113 (keyOf_string_mk Tryz.underlying9 C) o.type;unfold Yp;simp[execOp,p,resolve,invoke,builtin,z,v,h,W8];exact E _ ⟨_,u,f.del d⟩ (Fr.b8 t.grown (λk e=>(Wn e).symm))
def Ht(u:o.guard=B0)(m x:Yi)(h:o.op=Op.call {callee:=Callee.builtin Builtin.delete,args:=#[m,x],argTypes:=#[113,9]})(b n:Nat)(f:Mp)(q:a.eval m=.map (Bs b))(e:BN w b n f)(d:ByteArray)(p:a.eval x=ZV d)
  (t:d.size<=VY) (v:∀w',BN w' b n (f.set d B0)->Fr (λk=>k=b) w w'->wpList Tryz.prog ops Q rest (a.put o.dst (ZZ #[])) w'):wpList Tryz.prog ops Q (o::rest) a w:=
 wpList_plain u λ_ l=>RP m x h b n f q e d p t λw' z y=>l _ _ (v w' z y)
end
end
def qe2{α:Type}(size:Nat)(e1:α->List S2)(d:∀x,(e1 x).length=size):∀(l:List α)(j:Nat)(x:α),l[j]? = Bs x->∀i,i<size->(l.flatMap e1)[j*size+i]? = (e1 x)[i]?
 |[],j,x,h,_,_=>by simp at h
 |y::l,0,x,h,i,hi=>by
  simp at h;subst h;rw[VH,Zp,Wk,VZ (by rw[d];exact hi)]
 |y::l,j+1,x,h,i,hi=>by
  have p:l[j]? = Bs x:=Z6 h;have f:=qe2 size e1 d l j x p i hi;have e:(j+1)*size+i=(j*size+i)+size:=by rw[Nat.succ_mul];omega
  rw[e,VH,List.getElem?_append_right (by rw[d];omega),d,Xc];exact f
def Rd.elem{size:Nat}{e1:α->List S2}(f:∀x,(e1 x).length=size){B:Nat}{l:List α}(hl:l.length=n)(h:Rd w B size A n (l.flatMap e1))(z:k<n) :
  ∃g d x,A=Bs ⟨g,d,B0⟩/\g<B/\l[k]? = Bs x/\∀i u,(e1 x)[i]? = Bs u->w.cell? ⟨g,d+k*size+i,B0⟩=Bs u:=by
 obtain⟨g,d,e,y,v⟩:=h.2 Z0;have p:k<l.length:=by omega
 refine⟨g,d,l[k],e,y,K0 p,λi u q=>?_⟩;have t:i<size:=by rw[<- f l[k]];exact(ZC.1 q).1
 have:=v (k*size+i) u (by rw[qe2 size e1 f l k _ (K0 p) i t];exact q);rw[<- Nat.add_assoc]at this;exact this
structure CO where
 t:Au
 A:Option Xo
 n:Nat
 c:Nat
def Oz(o:Cv):List S2:=[Wm eQ o.aj,ZV o.key,ZV o.val,ZX o.dF]
def UU(x:CO):List S2:=[ZU x.A x.n x.c,Wm eQ x.t.ar,Wm eQ x.t.a8]
def Iu(o:Cv):Prop:=o.key.size<=VY/\o.val.size<=VY
def q98(w:D0)(B:Nat)(A:Option Xo)(n:Nat)(l:List Cv):Prop:=l.length=n/\Rd w B 4 A n (l.flatMap Oz)
def ME(w:D0)(B:Nat)(A:Option Xo)(n:Nat)(l:List CO):Prop:=l.length=n/\Rd w B 3 A n (l.flatMap UU)/\∀x∈l,q98 w B x.A x.n x.t.bh/\∀o∈x.t.bh,Iu o
def Aj(l:List CO):List Au:=l.map (·.t)
def q98.below{l:List Cv}(h:q98 w B A n l)(d:VI B w w'):q98 w' B A n l:=⟨h.1,h.2.below d⟩
def ME.below{l:List CO}(h:ME w B A n l)(e:VI B w w'):ME w' B A n l:=⟨h.1,h.2.1.below e,λx d=>⟨(h.2.2 x d).1.below e,(h.2.2 x d).2⟩⟩
def q98.aN{l:List Cv}(h:q98 w B A n l)(q:k<n):∃g d o,A=Bs ⟨g,d,B0⟩/\g<B/\l[k]? = Bs o/\
  w.cell? ⟨g,d+k*4,B0⟩=Bs (Wm eQ o.aj)/\w.cell? ⟨g,d+k*4+1,B0⟩=Bs (ZV o.key)/\w.cell? ⟨g,d+k*4+2,B0⟩=Bs (ZV o.val)/\w.cell? ⟨g,d+k*4+3,B0⟩=Bs (ZX o.dF):=by
 obtain⟨g,d,o,e,t,p,f⟩:=h.2.elem (e1:=Oz) (λ_=>rfl) h.1 q;exact⟨g,d,o,e,t,p,f 0 _ rfl,f 1 _ rfl,f 2 _ rfl,f 3 _ rfl⟩
def ME.aN{l:List CO}(h:ME w B A n l)(q:k<n):∃g d x,A=Bs ⟨g,d,B0⟩/\g<B/\l[k]? = Bs x/\
  w.cell? ⟨g,d+k*3,B0⟩=Bs (ZU x.A x.n x.c)/\w.cell? ⟨g,d+k*3+1,B0⟩=Bs (Wm eQ x.t.ar)/\w.cell? ⟨g,d+k*3+2,B0⟩=Bs (Wm eQ x.t.a8)/\q98 w B x.A x.n x.t.bh/\∀o∈x.t.bh,Iu o:=by
 obtain⟨g,d,x,e,t,p,f⟩:=h.2.1.elem (e1:=UU) (λ_=>rfl) h.1 q;exact⟨g,d,x,e,t,p,f 0 _ rfl,f 1 _ rfl,f 2 _ rfl,h.2.2 x (N2 p)⟩
def Sb{l:List CO}{x:CO}(h:l[k]? = Bs x):Dq (Aj l) k=x.t.a8:=by unfold Dq Aj;rw[VQ,h];rfl
def KX{l:List CO}{x:CO}(h:l[k]? = Bs x):BY (Aj l) k=x.t.ar:=by unfold BY Aj;rw[VQ,h];rfl
def opsA_of{l:List CO}{x:CO}(h:l[k]? = Bs x):BL (Aj l) k=x.t.bh:=by unfold BL Aj;rw[VQ,h];rfl
def qd4(l:List CO):(Aj l).length=l.length:=by unfold Aj;simp
def As(l:List Nat):List S2:=l.map λk:Nat=>Wm eQ (k:Int)
def LP(b:Bool)(w:D0)(e:Ending)(w':D0):Prop:=e=ZY (ZX b)/\VI w.heap.size w w'
def q4f{B:Nat}(h:VI B w w')(n:Nat):VI B w (w'.drewN n):=⟨h.os,h.tape,h.output,h.size,h.block⟩
def str_inj{a b:ByteArray}(h:a.toList=b.toList):a=b:=by rw[ByteArray.toList_eq,ByteArray.toList_eq]at h;have:=Array.ext' h;cases a;cases b;simp_all
def str_ne{a b:ByteArray}(h:a≠b):(a.toList == b.toList)=L1:=by simp only[beq_eq_false_iff_ne,ne_eq];exact λe=>h (str_inj e)
def qck{d:Mp}{ops:List Cv}{o:Cv}(h:DY m (ops.take j)=Bs d)(e:ops[j]? = Bs o):DY m (ops.take (j+1))=FM d o:=by rw[VV,e,q21,h];simp only[Option.toList,DY,Option.bind];obtain _|x:=FM d o<;> rfl
def MQ{d:Mp}{ops:List Cv}{o:Cv}(h:DY m (ops.take j)=Bs d)(f:ops[j]? = Bs o)(l:FM d o=B0):DY m ops=B0:=by have e:=qck h f;rw[l]at e;rw[<- List.take_append_drop (j+1) ops,q21,e];rfl
def Kg:∀(n:Nat)(l:List Nat),l.Nodup->(∀x∈l,x<n)->l.length<=n
 |0,[],_,_=>Hi _
 |0,x::l,_,h=>ZB (h x (VB ..)) Z0
 |n+1,l,d,h=>by
  have p:(l.erase n).length<=n:=Kg n (l.erase n) (d.erase n) (λx e=>by
   have:=(d.mem_erase_iff).1 e;have:=h x this.2;have:=((d.mem_erase_iff).1 e).1;omega)
  have f:l.length<=(l.erase n).length+1:=by
   rw[List.length_erase];split<;>omega
  omega
def qcm{order:List Nat}(h:order.Nodup)(hl:∀x∈order,x<n)(l:i<n)(f:i ∉ order):order.length+1<=n:=
 Kg n (i::order) (List.nodup_cons.2 ⟨f,h⟩) (λx d=>by
  obtain e|e:=ZF.1 d;omega;exact hl x e)
def qbc(F:Nat->Option α)(j:Nat)(h:(Ww j).findSome? F=B0):(Ww (j+1)).findSome? F=F j:=by rw[List.range_succ,List.findSome?_append,h];simp
def QZ{F:Nat->Option α}{x:α}(f:j<n)(h:(Ww j).findSome? F=B0)(e:F j=Bs x):(Ww n).findSome? F=Bs x:=by
 have d:=qbc F j h;rw[e]at d;obtain⟨k,rfl⟩:∃k,n=(j+1)+k:=⟨n-(j+1),Z0⟩
 rw[List.range_add,List.findSome?_append,d];rfl
def qcq(l:List Nat)(j:Nat):As (l++[j])=As l++[Wm eQ (j:Int)]:=by unfold As;simp
def GV(l:List Nat):(As l).length=l.length:=by unfold As;simp
def UR:(Tryz.prog.info? 3).map (λi=>(i.zero,i.size,i.bytes))=Bs (Bs (Wm eQ 0),1,8):=by kernel_rfl
def qdi{P:Program}(t e:TypeId)(i:TypeInfo)(z:S2)(u:P.underlying t=Bs (.slice e))(x:P.info? e=Bs i)(q:i.zero=Bs z)
  (f l:IntKind) (n c:Nat) (v:n<=c) (d:i.bytes*c<=281474976710656) (C:c<=9223372036854775807) (w:D0) :
  (Instr.makeSlice t (Wm f (n:Int)) (Wm l (c:Int))).run P w=.ok (ZU (Bs ⟨w.heap.size,0,B0⟩) n c) (w.alloc (eT (madeCells z.cells (c*i.size)) e)):=by
 have y:(i.bytes:Int)*(c:Int)<=281474976710656:=by
  have h:((i.bytes*c:Nat):Int)<=281474976710656:=by omega
  rwa [Int.natCast_mul]at h
 have p:=run_make (P:=P) w t e i z u x q f l n c Z0 Z0 y Z0;simp only[Int.toNat_natCast]at p;exact p
def Rt(n:Nat)(o:List Nat):Array S2:=((Ww n).map λk:Nat=>Wm eQ (BA o k:Nat)).toArray
def q43(n i:Nat)(o:List Nat):(Rt n o)[i]? = if i<n then Bs (Wm eQ (BA o i:Nat))else B0:=by unfold Rt;by_cases h:i<n<;>simp[h]
def JL(n:Nat)(o:List Nat):(Rt n o).size=n:=by unfold Rt;simp
def Qg{o:List Nat}{x:Nat}(d:k ∉ o):BA (o++[k]) x=if x=k then o.length+1 else BA o x:=by unfold BA;by_cases e:x=k;subst e;rw[Z8 Z3,Z8 rfl,q4o d];rw[Z7 e];by_cases h:x∈o;rw[Z8 (by simp[h]),Z8 h,q3l h];rw[Z7 (by simp[h,e]),Z7 h]
def JM{o:List Nat}(d:k ∉ o):(Rt n o).setIfInBounds k (Wm eQ ((o.length:Int)+1))=Rt n (o++[k]):=by apply Array.ext_getElem?;intro i;rw[Array.getElem?_setIfInBounds,q43,q43,JL,Qg d];by_cases e:i=k;subst e;rw[Z8 rfl,Z8 rfl];simp;rw[Z7 (λh=>e h.symm),Z7 e]
def Gy{o:List Nat}(h:k ∉ o):BA o k=0:=by unfold BA;rw[Z7 h]
def M6(n:Nat):madeCells (Wm eQ 0).cells n=Rt n []:=by apply Array.ext_getElem?;intro i;rw[q43];unfold madeCells;by_cases d:i<n<;>simp[Value.cells,d,Nat.mod_one,BA]
def M5(n:Nat)(l:n<=1000)(w:D0):(Instr.makeSlice 26 (Wm eQ (n:Int)) (Wm eQ (n:Int))).run Tryz.prog w=.ok (ZU (Bs ⟨w.heap.size,0,B0⟩) n n) (w.alloc (eT (Rt n []) 3)):=by obtain⟨i,e,d,hs,f⟩:=info_parts UR;have h:=qdi 26 3 i _ Tryz.underlying26 e d eQ eQ n n (Hi _) (by rw[f];omega) Z0 w;rw[hs,Nat.mul_one,M6]at h;exact h
def LI(order:List Nat)(n:Nat)(w:D0)(v:S2)(wr:D0):Prop:=
 ∃j:Nat,v=Wm eQ j/\j<=order.length/\(order.take j).Nodup/\(∀k∈order.take j,k<n)/\Ae wr w.heap.size 3 (Rt n (order.take j))/\VI w.heap.size w wr
def Up(L:List Au)(order:List Nat)(i:Nat):Prop:=(0<=Dq L i->i∈order)/\∀k,k<L.length->¬(0<=Dq L i/\Dq L i<BY L k/\0<BA order k/\BA order k<BA order i)
def O7(L:List CO)(order:List Nat)(n:Nat)(w:D0)(v:S2)(wr:D0):Prop:=
 ∃j:Nat,v=Wm eQ j/\j<=n/\(∀i,i<j->Up (Aj L) order i)/\Ae wr w.heap.size 3 (Rt n order)/\VI w.heap.size w wr
def qec(L:List CO)(order:List Nat)(n i d:Nat)(x:CO)(w:D0)(v:S2)(wr:D0):Prop:=
 ∃j:Nat,v=Wm eQ j/\j<=n/\(∀k,k<j->¬(0<=Dq (Aj L) i/\Dq (Aj L) i<BY (Aj L) k/\0<BA order k/\BA order k<BA order i))/\Ae wr w.heap.size 3 (Rt n order)/\
  Ae wr d 52 #[ZU x.A x.n x.c,Wm eQ x.t.ar,Wm eQ x.t.a8]/\VI w.heap.size w wr
def qed(L:List CO)(order:List Nat)(e:Nat)(w:D0)(v:S2)(wr:D0):Prop:=
 ∃(j d:Nat)(m:Mp),v=Wm eQ j/\j<=order.length/\DY Mp.empty ((order.take j).flatMap (BL (Aj L)))=Bs m/\d<=1000*j/\BN wr e d m/\VI w.heap.size w wr
def Rw(ops:List Cv)(n f d:Nat)(e:Mp)(w:D0)(v:S2)(wr:D0):Prop:=
 ∃(j:Nat)(m:Mp),v=Wm eQ j/\j<=n/\DY e (ops.take j)=Bs m/\BN wr f (d+j) m/\VI w.heap.size w wr
def q7j(l:List α)(j:Nat)(x:α)(h:l[j]? = Bs x):l.take (j+1)=l.take j++[x]:=by rw[VV,h];rfl
def G0{order:List Nat}(d:DY Mp.empty ((order.take j).flatMap (BL L))=Bs m)(e:order[j]? = Bs k):DY Mp.empty ((order.take (j+1)).flatMap (BL L))=DY m (BL L k):=by rw[q7j order j k e,Wq,q21,d];simp
def QX{order:List Nat}(e:DY Mp.empty ((order.take j).flatMap (BL L))=Bs m)(f:order[j]? = Bs k)(l:DY m (BL L k)=B0):DY Mp.empty (order.flatMap (BL L))=B0:=by
 have d:=G0 e f;rw[l]at d;have h:order.flatMap (BL L)=(order.take (j+1)).flatMap (BL L)++(order.drop (j+1)).flatMap (BL L):=by
  rw[<- Wq,List.take_append_drop]
 rw[h,q21,d];rfl
def Rw.step{ops:List Cv}{n q d e j:Nat}{p l h:Mp}{w f:D0}{o:Cv}(t:DY p (ops.take j)=Bs l)(u:ops[j]? = Bs o)(C:FM l o=Bs h)(y:j<n)(x:BN f q e h)(v:e<=d+(j+1))(z:VI w.heap.size w f) :
  Rw ops n q d p w (Wm eQ ((j:Int)+1)) f:=⟨j+1,h,rfl,y,by rw[qck t u,C],x.mono v,z⟩
def Gq(L:List CO)(order:List Nat)(B n c no co:Nat)(A Ao:Option Xo)(w:D0)(h:ME w B A n L)(hB:B<=w.heap.size)(hn:n<=100)(hs:∀x∈L,x.n<=1000)(ho:Rd w B 1 Ao no (As order))(bG:no<=100) :
  VX Tryz.prog 25 #[ZU A n c,ZU Ao no co] w (LP (decide (B5 (Aj L) order)) w):=by
 have b0:order.length=no:=by have:=ho.1;rw[GV]at this;omega
 have aE:(Aj L).length=n:=by rw[qd4];exact h.1
 have bi:=λW=>M5 n Z0 W
 have aw:=@run_makeMap Tryz.prog;have bo:=LH aw;clear aw;have a9:=LH b0;clear b0;have Z:=LH aE;clear aE;have H:=LH h;clear h;have HO:=LH ho;clear ho;have HS:=LH hs;clear hs;go_enter Tryz.func25,Tryz.ntmps25;go_wp2_with fail;clear bi;go_loopw [24] (LI order n w) (λv _=>no-(intOf v).toNat)
 case atStart=>exact⟨0,rfl,VG _,Z3,Z3,Ae.b4 _ _ _,(VC _ _).alloc (Hi _) _⟩
 obtain⟨j,rfl,hj,aj,ah,l,d⟩:=hrel;have ar:=LH aj;clear aj;have ae:=LH ah;clear ah;have bj:j<=no:=by rw[<- a9.o];exact hj
 clear hj;by_cases aZ:(j:Int)<no
 ·obtain⟨g,aP,u,hA,hg,E,hc⟩:=(HO.o.below (d.mono hB)).dg (k:=j) Z0;obtain⟨k,hk,rfl⟩:∃k:Nat,order[j]? = Bs k/\u=Wm eQ (k:Int):=by
   unfold As at E;rw[VQ]at E;rcases hh:order[j]? with _|k;rw[hh]at E;simp at E;rw[hh]at E;simp at E;exact⟨k,rfl,E.symm⟩
  subst hA;have av:=d.size;have bk:g<wr.heap.size:=by omega
  have bf:=l.lt;have aS:=q7j order j k hk;have az:=LH aS;clear aS E;have HK:=LH hk;clear hk;have d0:decide ((k:Int)<0)=L1:=by simp
  by_cases b1:(k:Int)<n
  ·have d1:decide ((n:Int)<=k)=L1:=by simp;omega
   have D:=(l.cell k).trans (by rw[q43,Z8 Z0]);by_cases a0:k∈order.take j
   ·have d2:0<BA (order.take j) k:=q9e.2 a0;generalize BA (order.take j) k=q at D d2;have hf:decide (B5 (Aj L) order)=L1:=by
     simp only[decide_eq_false_iff_not];intro hf;have:=hf.1;have h2:=this.sublist (List.take_sublist (j+1) order);rw[az.o,Xg]at h2;exact h2.2.2 k a0 k Z3 rfl
    have HF:=LH hf;clear hf a0;have ac:=LH l;clear l;go_wp2_with fail;go_ret;rw[HF.o];exact⟨rfl,d⟩
   rw[Gy a0]at D;simp only[Int.natCast_zero]at D;have bN:=l.frozen k;have ai:=l.aZ k (Wm eQ ((j:Int)+1));have b3:(order.take j).length=j:=by rw[List.length_take,a9.o];omega
   have a7:=JM (n:=n) a0;rw[b3]at a7;rw[a7,<- az.o]at ai;have hrel:LI order n w (Wm eQ ((j:Int)+1)) (wr.setCell ⟨w.heap.size,k,B0⟩ (Wm eQ ((j:Int)+1))):=by
    refine⟨j+1,rfl,by rw[a9.o];omega,?_,?_,ai,d.setCell (p:=⟨w.heap.size,k,B0⟩) (Hi _) _⟩;rw[az.o,Xg];exact⟨ar.o,Z3,λa ha b hb=>by rw[VU.1 hb];exact λe=>a0 (e▸ha)⟩;rw[az.o];intro x E;obtain E|E:=XA.1 E;exact ae.o x E;rw[VU.1 E];omega
   have N:=LH hrel;clear hrel ai a7 b3 a0;have ac:=LH l;clear l;go_wp2_with fail;go_roundw;exact N.o;simp[intOf];omega
  have d1:decide ((n:Int)<=k)=VD:=by simp;omega
  have hf:decide (B5 (Aj L) order)=L1:=by
   simp only[decide_eq_false_iff_not];intro hf;have:=hf.2.1 k (N2 HK.o);rw[Z.o]at this;omega
  have HF:=LH hf;clear hf;have ac:=LH l;clear l;go_wp2_with fail;go_ret;rw[HF.o];exact⟨rfl,d⟩
 have ax:j=order.length:=by rw[a9.o];omega
 rw[ax,WU]at l;have aj:order.Nodup:=by have:=ar.o;rw[ax,WU]at this;exact this
 have ah:∀k∈order,k<n:=by have:=ae.o;rw[ax,WU]at this;exact this
 clear ax ar ae;have ar:=LH aj;clear aj;have ae:=LH ah;clear ah;have ac:=LH l;clear l;have bd:=LH d;clear d;go_wp2_with fail;go_loopw [52] (O7 L order n w) (λv _=>n-(intOf v).toNat)
 case atStart=>exact⟨0,rfl,VG _,λi hi=>ZB hi Z0,ac.o,bd.o⟩
 clear ac bd;obtain⟨i,rfl,hi,aT,l,d⟩:=hrel;have aJ:=LH aT;clear aT;by_cases aZ:(i:Int)<n
 ·obtain⟨g,aP,x,hA,hg,E,k0,k1,k2,_⟩:=(H.o.below (d.mono hB)).aN (k:=i) Z0;have aR:=Sb E;have av:=d.size;have bk:g<wr.heap.size:=by omega
  have bK:g<w.heap.size:=by omega
  have bf:=l.lt;have D:=(l.cell i).trans (by rw[q43,Z8 Z0]);have ap:=LH aR;clear aR;have HX:=LH E;clear E;have bq:=LH hA;rw[hA];clear hA;have aQ:∀o,Ae (wr.alloc o) w.heap.size 3 (Rt n order):=λo=>l.alloc o
  have b8:=LH aQ;clear aQ;have ac:=LH l;clear l;have C:(0<=x.t.a8->i∈order)->RowKit.Hid (0<=Dq (Aj L) i->i∈order):=λh h0=>h (by rw[ap.o]at h0;exact h0)
  by_cases I:0<=x.t.a8/\i ∉ order
  ·have d1:decide (0<=x.t.a8)=VD:=Z6 I.1;rw[Gy I.2]at D;simp only[Int.natCast_zero]at D;have hf:decide (B5 (Aj L) order)=L1:=by
    simp only[decide_eq_false_iff_not];intro hf;exact I.2 ((hf.2.2.1 i (by rw[Z.o];omega)).1 (by rw[ap.o];exact I.1))
   have HF:=LH hf;clear hf I C;go_wp2_with fail;go_ret;rw[HF.o];exact⟨rfl,d.alloc av _⟩
  have a0:0<=Dq (Aj L) i->i∈order:=λh0=>by
   rw[ap.o]at h0;obtain h|h:=Decidable.em (i∈order);exact h;exact ZB ⟨h0,h⟩ I
  have bc:=LH a0;clear a0 C;have U:qec L order n i wr.heap.size x w (Wm eQ 0) (wr.alloc (eT #[ZU x.A x.n x.c,Wm eQ x.t.ar,Wm eQ x.t.a8] 52)):=
   ⟨0,rfl,VG _,λk hk=>ZB hk Z0,b8.o _,Ae.b4 _ _ _,d.alloc av _⟩
  have a6:=LH U;clear U I;go_upto_region 12 with (fail)
  go_cut [66] (λs66 wx=>s66=ZX L1/\wr.alloc (eT #[ZU x.A x.n x.c,Wm eQ x.t.ar,Wm eQ x.t.a8] 52)=wx)
  case first=>
   by_cases h0:0<=x.t.a8
   ·have d1:decide (0<=x.t.a8)=VD:=Z6 h0;have aV:=q9e.2 (bc.o (by rw[ap.o];exact h0));generalize BA order i=q at D aV;have d2:((q:Int) == 0)=L1:=by simp;omega
    go_wp2_with fail;go_meet;exact⟨rfl,rfl⟩
   have d1:decide (0<=x.t.a8)=L1:=Z6 h0;go_wp2_with fail;go_meet;exact⟨rfl,rfl⟩
  obtain⟨rfl,rfl⟩:=hcut;clear k0 k1 k2 D;go_wp2_with fail;obtain⟨wo,rfl⟩:∃wo:D0,wo=wr:=⟨_,rfl⟩
  go_loopw [69] (qec L order n i wo.heap.size x w) (λv _=>n-(intOf v).toNat)
  case atStart=>exact a6.o
  clear a6 b8 ac;obtain⟨k,rfl,hk,aD,O,ad,a5⟩:=hrel;have bb:=LH aD;clear aD;by_cases bw:(k:Int)<n
  ·obtain⟨g',bu,y,ay,bM,hy,q0,q1,q2,_⟩:=(H.o.below (a5.mono hB)).aN (k:=k) Z0;rw[bq.o]at ay;injection ay with ay;injection ay with e1 e2;subst e1 e2;have a4:=KX hy;have bp:=LH a4;clear a4 hy;have aB:=a5.size;have bC:g<wr.heap.size:=by omega
   have bv:=O.lt;have bD:=ad.lt;have bm:=ad.cell 2;simp only[List.getElem?_toArray,List.getElem?_cons_succ,List.getElem?_cons_zero]at bm;have bl:=(O.cell i).trans (by rw[q43,Z8 Z0]);have b5:=(O.cell k).trans (by rw[q43,Z8 Z0]);have Y:¬(0<=Dq (Aj L) i/\Dq (Aj L) i<BY (Aj L) k/\0<BA order k/\BA order k<BA order i)->∀o nq,qec L order n i wo.heap.size x w (Wm eQ ((k:Int)+1)) ((wr.alloc o).drewN nq):=λbh o nq=>
    ⟨k+1,rfl,Z0,λk' b2=>by
     by_cases e:k'=k;rw[e];exact bh;exact bb.o k' Z0,(O.alloc o).drewN nq,(ad.alloc o).drewN nq,q4f (a5.alloc aB o) nq⟩
   have S:(0<=Dq (Aj L) i/\Dq (Aj L) i<BY (Aj L) k/\0<BA order k/\BA order k<BA order i)->decide (B5 (Aj L) order)=L1:=λh=>by
    simp only[decide_eq_false_iff_not];intro hf;exact(hf.2.2.1 i (by rw[Z.o];omega)).2 k (by rw[Z.o];omega) h
   rw[ap.o,bp.o]at Y S;have bE:=LH O;clear O;have bO:=LH ad;clear ad;generalize BA order i=pi at bl Y S;generalize BA order k=pk at b5 Y S;have a1:=LH Y;clear Y;have aK:=LH S;clear S;by_cases c1:0<=x.t.a8
   ·have d1:decide (0<=x.t.a8)=VD:=Z6 c1;by_cases c2:x.t.a8<y.t.ar
    ·have d2:decide (x.t.a8<y.t.ar)=VD:=Z6 c2;obtain c3|c3:=Nat.eq_zero_or_pos pk
     ·subst c3;simp only[Int.natCast_zero]at b5;have R:=a1.o Z0;have aa:=LH R;clear R;go_wp2_with fail;go_quiet (fail);go_wp2_with fail;go_roundw;exact aa.o _ _;simp[intOf];omega
     by_cases c4:pk<pi
     ·have U:=aK.o ⟨c1,c2,c3,c4⟩;have b9:=LH U;clear U;go_wp2_with fail;go_quiet (fail);go_wp2_with fail;go_ret;rw[b9.o];exact⟨rfl,q4f (a5.alloc aB _) _⟩
     have d4:decide (pk<pi)=L1:=Z6 c4;have R:=a1.o Z0;have aa:=LH R;clear R;go_wp2_with fail;go_quiet (fail);go_wp2_with fail;go_roundw;exact aa.o _ _;simp[intOf];omega
    have d2:decide (x.t.a8<y.t.ar)=L1:=Z6 c2;have R:=a1.o Z0;have aa:=LH R;clear R;go_wp2_with fail;go_quiet (fail);go_wp2_with fail;go_roundw;exact aa.o _ _;simp[intOf];omega
   have d1:decide (0<=x.t.a8)=L1:=Z6 c1;have R:=a1.o Z0;have aa:=LH R;clear R;go_wp2_with fail;go_quiet (fail);go_wp2_with fail;go_roundw;exact aa.o _ _;simp[intOf];omega
  have V:O7 L order n w (Wm eQ ((i:Int)+1)) wr:=
   ⟨i+1,rfl,Z0,λi' bJ=>by
    by_cases e:i'=i;rw[e];exact⟨bc.o,λk' b2=>bb.o k' (by rw[Z.o]at b2;omega)⟩;exact aJ.o i' Z0,O,a5⟩
  have N:=LH V;clear V O ad;go_wp2_with fail;go_roundw;exact N.o;simp[intOf];omega
 have bA:i=n:=by omega
 have aF:∀i,i<n->Up (Aj L) order i:=λk hk=>aJ.o k Z0
 have be:=LH aF;clear aF aJ;have aw:=bo.o;go_wp2_with fail;clear aw;obtain⟨wo,rfl⟩:∃wo:D0,wo=wr:=⟨_,rfl⟩
 have al:w.heap.size<=wo.heap.size:=d.size;have U:qed L order wo.heap.size w (Wm eQ 0) (wo.alloc (.map #[] 0)):=⟨0,0,Mp.empty,rfl,VG _,rfl,VG _,BN.cT wo,d.alloc al _⟩
 have a6:=LH U;clear U l d;go_loopw [107] (qed L order wo.heap.size w) (λv _=>no-(intOf v).toNat)
 case atStart=>exact a6.o
 clear a6;obtain⟨j,nm,m,rfl,hj,aW,bH,M,d⟩:=hrel;have aL:=LH aW;clear aW;have bj:j<=no:=by rw[<- a9.o];exact hj
 clear hj;by_cases aZ:(j:Int)<no
 ·obtain⟨g,aP,u,hA,hg,E,hc⟩:=(HO.o.below (d.mono hB)).dg (k:=j) Z0;obtain⟨k,hk,rfl⟩:∃k:Nat,order[j]? = Bs k/\u=Wm eQ (k:Int):=by
   unfold As at E;rw[VQ]at E;rcases hh:order[j]? with _|k;rw[hh]at E;simp at E;rw[hh]at E;simp at E;exact⟨k,rfl,E.symm⟩
  clear E;have b1:=ae.o k (N2 hk);obtain⟨g2,bt,x,aI,R,E,k0,k1,k2,bg,am⟩:=(H.o.below (d.mono hB)).aN (k:=k) b1;have aC:=opsA_of E;have bF:=HS.o x (N2 E);have bz:(k:Int)<n:=by omega
  have av:=d.size;have bn:=LH (N2 E);have aG:=LH aC;clear aC E;have HK:=LH hk;clear hk;rw[hA,aI];have HA:=LH hA;clear hA;have bP:=LH aI;clear aI;have U:Rw x.t.bh x.n wo.heap.size nm m w (Wm eQ 0) wr:=⟨0,m,rfl,VG _,rfl,M,d⟩
  have a6:=LH U;clear U M;have ba:=LH (H.o.2.2 x bn.o).1;clear bg;have aN:=LH am;clear am;go_wp2_with fail;obtain⟨w7,rfl⟩:∃w7:D0,w7=wr:=⟨_,rfl⟩
  clear k0 k1 k2 hc d;go_loopw [117] (Rw x.t.bh x.n wo.heap.size nm m w) (λv _=>x.n-(intOf v).toNat)
  case atStart=>exact a6.o
  clear a6;obtain⟨jj,mj,rfl,bI,aX,M,d⟩:=hrel;have af:=LH aX;clear aX;by_cases bx:(jj:Int)<x.n
  ·obtain⟨g3,br,o,b7,bL,ho,q0,q1,q2,q3⟩:=(ba.o.below (d.mono hB)).aN (k:=jj) Z0;rw[b7];clear b7;have aH:=aN.o o (N2 ho);have aU:=d.size;have bB:g3<wr.heap.size:=by omega
   obtain⟨kd,t,z,f⟩:=o;simp only at q0 q1 q2 q3;have a8:=((M.alloc (eT #[Wm eQ kd,ZV t,ZV z,ZX f] 56)).cn t aH.1)
   have aq:=LH ho;clear ho;have aM:=LH aH;clear aH;have aY:∀o,BN (wr.alloc o) wo.heap.size (nm+jj) mj:=λo=>M.alloc o
   have b6:∀o,VI w.heap.size w (wr.alloc o):=λo=>d.alloc aU o
   have aA:=LH aY;clear aY M;have ab:=LH b6;clear b6 d;have an:FM mj ⟨kd,t,z,f⟩=B0->decide (B5 (Aj L) order)=L1:=λh0=>by
    simp only[decide_eq_false_iff_not];intro hf;have h1:=hf.2.2.2;rw[QX aL.o HK.o (by rw[aG.o];exact MQ af.o aq.o h0)]at h1;cases h1
   have aO:=LH an;clear an;generalize hq:mj t=q at a8;have HQ:=LH hq;clear hq;by_cases h1:kd=1
   ·have d1:(kd == 1)=VD:=Z6 h1;have X:FM mj ⟨kd,t,z,f⟩=if CG mj ⟨kd,t,z,f⟩then Bs mj else B0:=by unfold FM;rw[Z8 h1]
    have ag:=LH X;clear X h1;have b4:CG mj ⟨kd,t,z,f⟩↔(q.isSome=f/\∀v,q=Bs v->v=z):=by unfold CG;rw[<- HQ.o]
    have a1:=LH b4;clear b4;have C:CG mj ⟨kd,t,z,f⟩->∀o,Rw x.t.bh x.n wo.heap.size nm m w (Wm eQ ((jj:Int)+1)) (wr.alloc o):=λhg o=>
     Rw.step af.o aq.o (by rw[ag.o,Z8 hg]) Z0 (aA.o o) Z0 (ab.o o)
    have a3:=LH C;clear C;have I:¬CG mj ⟨kd,t,z,f⟩->decide (B5 (Aj L) order)=L1:=λhg=>aO.o (by rw[ag.o,Z7 hg])
    have au:=LH I;clear I;obtain _|v:=q
    ·cases f
     ·have J:=a1.o.2 ⟨rfl,λv h=>by cases h⟩;have a2:=LH J;clear J;go_wp2_with fail;go_roundw;exact a3.o a2.o _;simp[intOf];omega
     have J:¬CG mj ⟨kd,t,z,VD⟩:=λh=>by have:=(a1.o.1 h).1;simp at this
     have a2:=LH J;clear J;go_wp2_with fail;go_ret;rw[au.o a2.o];exact⟨rfl,ab.o _⟩
    cases f
    ·have J:¬CG mj ⟨kd,t,z,L1⟩:=λh=>by have:=(a1.o.1 h).1;simp at this
     have a2:=LH J;clear J;go_wp2_with fail;go_ret;rw[au.o a2.o];exact⟨rfl,ab.o _⟩
    by_cases hv:v=z
    ·subst hv;have J:=a1.o.2 ⟨rfl,λu h=>by injection h with h;exact h.symm⟩;have a2:=LH J;clear J;go_wp2_with fail;go_roundw;exact a3.o a2.o _;simp[intOf];omega
    have J:¬CG mj ⟨kd,t,z,VD⟩:=λh=>hv ((a1.o.1 h).2 v rfl)
    have a2:=LH J;clear J;have dv:=str_ne hv;have HV:=LH hv;clear hv;go_wp2_with fail;go_ret;rw[au.o a2.o];exact⟨rfl,ab.o _⟩
   have d1:(kd == 1)=L1:=Z6 h1;by_cases h2:kd=2
   ·have d2:(kd == 2)=VD:=Z6 h2;have X:FM mj ⟨kd,t,z,f⟩=Bs (mj.set t (Bs z)):=by unfold FM;rw[Z7 h1,Z8 h2]
    have ag:=LH X;clear X h1 h2;go_wp2_with (at_mapUpdate;refine stop ?_)
    clear a8;refine CD ?_;refine Hr rfl (.tmp 147) (.tmp 149) (.tmp 151) rfl wo.heap.size (nm+jj) mj rfl (aA.o _) Zx t z rfl rfl aM.o.1 aM.o.2 ?_;intro w1 ak a4;have ao:VI w.heap.size w w1:=(ab.o _).trans (a4.below (λi e=>e▸al) Zz);have hrel:Rw x.t.bh x.n wo.heap.size nm m w (Wm eQ ((jj:Int)+1)) w1:=Rw.step af.o aq.o ag.o Z0 ak Z0 ao;have N:=LH hrel;clear hrel ak a4 ao;go_wp2_with fail;go_roundw;exact N.o;simp[intOf];omega
   have d2:(kd == 2)=L1:=Z6 h2;by_cases h3:kd=3
   ·have d3:(kd == 3)=VD:=Z6 h3;have X:FM mj ⟨kd,t,z,f⟩=Bs (mj.set t B0):=by unfold FM;rw[Z7 h1,Z7 h2,Z8 h3]
    have ag:=LH X;clear X h1 h2 h3;go_wp2_with (at_delete;refine stop ?_)
    clear a8;refine CD ?_;refine Ht rfl (.tmp 154) (.tmp 156) rfl wo.heap.size (nm+jj) mj rfl (aA.o _) t rfl aM.o.1 ?_;intro w1 ak a4;have ao:VI w.heap.size w w1:=(ab.o _).trans (a4.below (λi e=>e▸al) Zz);have hrel:Rw x.t.bh x.n wo.heap.size nm m w (Wm eQ ((jj:Int)+1)) w1:=Rw.step af.o aq.o ag.o Z0 ak Z0 ao;have N:=LH hrel;clear hrel ak a4 ao;go_wp2_with fail;go_roundw;exact N.o;simp[intOf];omega
   have d3:(kd == 3)=L1:=Z6 h3;have X:FM mj ⟨kd,t,z,f⟩=Bs mj:=by unfold FM;rw[Z7 h1,Z7 h2,Z7 h3]
   have C:∀o,Rw x.t.bh x.n wo.heap.size nm m w (Wm eQ ((jj:Int)+1)) (wr.alloc o):=λo=>
    Rw.step af.o aq.o X Z0 (aA.o o) Z0 (ab.o o)
   have a3:=LH C;clear C X h1 h2 h3;go_wp2_with fail;go_roundw;exact a3.o _;simp[intOf];omega
  have V:qed L order wo.heap.size w (Wm eQ ((j:Int)+1)) wr:=by
   refine⟨j+1,nm+jj,mj,rfl,by rw[a9.o];omega,?_,Z0,M,d⟩;rw[G0 aL.o HK.o,aG.o,<- af.o,VS (Z4 ba.o.1)]
  have N:=LH V;clear V M;go_wp2_with fail;go_roundw;exact N.o;simp[intOf];omega
 have hf:decide (B5 (Aj L) order)=VD:=by
  simp only[decide_eq_true_eq];refine⟨ar.o,by rw[Z.o];exact ae.o,λi hi=>be.o i (by rw[Z.o]at hi;exact hi),?_⟩;have:=aL.o;rw[VS (by rw[a9.o];omega)]at this;rw[this];rfl
 have HF:=LH hf;clear hf M;go_wp2_with fail;go_ret;rw[HF.o];exact⟨rfl,d⟩
def IE{B:Nat}{l:List Nat}(h:Rd w B 1 A n (As l))(p:k<n):∃g d x,A=Bs ⟨g,d,B0⟩/\g<B/\l[k]? = Bs x/\w.cell? ⟨g,d+k,B0⟩=Bs (Wm eQ (x:Nat)):=by obtain⟨g,d,u,v,q,e,t⟩:=h.dg p;unfold As at e;rw[VQ]at e;rcases f:l[k]? with _|x;rw[f]at e;simp at e;rw[f]at e;simp at e;subst e;exact⟨g,d,x,v,q,rfl,t⟩
def TE{B:Nat}{l:List Nat}(h:Rd w B 1 A n (As l)):l.length=n:=by have:=h.1;rw[GV]at this;omega
def CC(L:List CO)(order:List Nat)(i:Nat):List CO:=L.mapIdx λq x=>if q<i/\q ∉ order/\0<=x.t.a8 then⟨⟨x.t.bh,x.t.ar,-1⟩,x.A,x.n,x.c⟩else x
def Lp(L:List CO)(order:List Nat)(i:Nat):(CC L order i).length=L.length:=by unfold CC;simp
def Q9(L:List CO)(order:List Nat):CC L order 0=L:=by unfold CC;apply XL;intro q;rw[Wd];obtain _|x:=L[q]?;rfl;simp
def cutX_at{L:List CO}{order:List Nat}{x:CO}(h:L[q]? = Bs x)(d:i<=q):(CC L order i)[q]? = Bs x:=by unfold CC;rw[Wd,h];simp;omega
def Rc{L:List CO}{order:List Nat}{x:CO}(h:L[q]? = Bs x):∃y,(CC L order i)[q]? = Bs y/\y.t.ar=x.t.ar:=by unfold CC;rw[Wd,h];refine⟨_,rfl,?_⟩;simp only;split<;>rfl
def Rb{L:List CO}{order:List Nat}{x:CO}(h:L[i]? = Bs x)(f:¬(i ∉ order/\0<=x.t.a8)):CC L order (i+1)=CC L order i:=by
 unfold CC;apply XL;intro q;rw[Wd,Wd];rcases d:L[q]? with _|y;rfl;simp only[WA];by_cases e:q=i;subst e;rw[h]at d;obtain rfl:=Wn d;rw[Z7 (λ⟨_,l⟩=>f l),Z7 (λ⟨p,_⟩=>ZB p Z0)];have:q<i+1↔q<i:=by omega
 simp only[this]
def Ra{L:List CO}{order:List Nat}{x:CO}(h:L[i]? = Bs x)(d:i ∉ order)(l:0<=x.t.a8):CC L order (i+1)=(CC L order i).set i ⟨⟨x.t.bh,x.t.ar,-1⟩,x.A,x.n,x.c⟩:=by
 have f:i<L.length:=(ZC.1 h).1;apply XL;intro q;rw[Yu];by_cases e:i=q;subst e;rw[Z8 rfl,Z8 (by rw[Lp];exact f)];unfold CC;rw[Wd,h];simp[d,l];rw[Z7 e];unfold CC;rw[Wd,Wd];obtain _|y:=L[q]?;rfl;have:q<i+1↔q<i:=by omega
 simp only[WA,this]
def cutX_ts(L:List CO)(order:List Nat)(n:Nat)(h:L.length<=n):Aj (CC L order n)=D7 (Aj L) order:=by unfold Aj CC D7;apply XL;intro q;rw[VQ,Wd,Wd,VQ];rcases e:L[q]? with _|y;rfl;have hl:q<L.length:=(ZC.1 e).1;simp only[WA];by_cases d:q ∉ order/\0<=y.t.a8;rw[Z8 ⟨Z0,d⟩,Z8 d];rw[Z7 (λ⟨_,f⟩=>d f),Z7 d]
def Lo{L:List CO}{order:List Nat}{y:CO}(h:y∈CC L order i):∃x∈L,y.A=x.A/\y.n=x.n/\y.c=x.c/\y.t.bh=x.t.bh:=by obtain⟨q,d⟩:=ZI.1 h;unfold CC at d;rw[Wd]at d;rcases e:L[q]? with _|x;rw[e]at d;cases d;rw[e]at d;simp only[WA,VN]at d;refine⟨x,N2 e,?_⟩;rw[<- d];split<;>exact⟨rfl,rfl,rfl,rfl⟩
def SE:(Tryz.prog.info? 52).map (λi=>(i.zero,i.size,i.bytes))=Bs (Bs (.agg #[ZU B0 0 0,Wm eQ 0,Wm eQ 0]),3,40):=by kernel_rfl
def S8{base e size g:Nat}{v:S2}{xs:List S2}(h:w.ownsRow base e size v n xs)(d:v.ownBlock=Bs g):∃c,v=ZU (Bs ⟨g,0,B0⟩) n c:=by
 obtain⟨rfl,_⟩|⟨f,cap,l,rfl,_⟩:=h.2;simp[Wa]at d;have:f=g:=by simpa [Wa]using d
 subst this;exact⟨_,rfl⟩
def KZ{α:Type}(size:Nat)(e1:α->List S2)(d:∀x,(e1 x).length=size)(i:Nat)(u:S2)(f:i<size):∀(X:List α)(j:Nat)(x y:α),X[j]? = Bs x->(e1 x).set i u=e1 y->(X.flatMap e1).set (j*size+i) u=(X.set j y).flatMap e1
 |[],j,x,y,h,_=>by simp at h
 |z::X,0,x,y,h,hy=>by
  simp at h;subst h;rw[VH,Zp,Wk,List.set_append_left _ _ (by rw[d];exact f),hy];simp
 |z::X,j+1,x,y,h,hy=>by
  have p:X[j]? = Bs x:=Z6 h;have l:=KZ size e1 d i u f X j x y p hy;have e:(j+1)*size+i=(e1 z).length+(j*size+i):=by rw[d,Nat.succ_mul];omega
  rw[VH,e,List.set_append_right _ _ Z0];have q:(e1 z).length+(j*size+i)-(e1 z).length=j*size+i:=by omega
  rw[q,l];simp
def own_set{base e size c g:Nat}{xs:List S2}(h:w.ownsRow base e size (ZU (Bs ⟨g,0,B0⟩) n c) n xs)(i:Nat)(u:S2):(w.setCell ⟨g,i,B0⟩ u).ownsRow base e size (ZU (Bs ⟨g,0,B0⟩) n c) n (xs.set i u):=(h.stored i u).1
def Vp(l:List CO):∀u∈l.flatMap UU,u.oneCell'=VD:=by intro u e;obtain⟨x,_,d⟩:=List.mem_flatMap.1 e;simp[UU]at d;obtain rfl|rfl|rfl:=d<;> rfl
structure StIR(w wr:D0)(L:List CO)(order:List Nat)(n cx gx i:Nat):Prop where
 row:wr.ownsRow w.heap.size 52 3 (ZU (Bs ⟨gx,0,B0⟩) n cx) n ((CC L order i).flatMap UU)
 ok:∀q,q<i->q ∉ order->0<=Dq (Aj L) q->∀k∈order,¬Dq (Aj L) q<BY (Aj L) k
 below:VI w.heap.size w wr
def Ur(w:D0)(L:List CO)(order:List Nat)(n e d:Nat)(v:S2)(wr:D0):Prop:=∃i:Nat,v=Wm eQ i/\i<=n/\StIR w wr L order n e d i
def InOrd(order:List Nat)(i f:Nat)(w:D0)(e d:S2)(wr:D0):Prop:=∃q:Nat,d=Wm eQ q/\q<=f/\e=ZX (decide (i∈order.take q))/\wr=w
def StInR(L:List CO)(order:List Nat)(i d:Nat)(w:D0)(v:S2)(wr:D0):Prop:=
 ∃q m:Nat,v=Wm eQ q/\q<=d/\(∀k∈order.take q,¬Dq (Aj L) i<BY (Aj L) k)/\wr=w.drewN m
def q7w{l:List Nat}(h:l[q]? = Bs k):decide (i∈l.take (q+1))=(decide (i∈l.take q) || decide (k=i)):=by rw[q7j l q k h,Bool.eq_iff_iff];simp only[XA,VU,decide_eq_true_eq,Bool.or_eq_true];exact⟨λh=>h.imp id Eq.symm,λh=>h.imp id Eq.symm⟩
def Mq(L:List CO)(order:List Nat)(B n c O co:Nat)(A Ao:Option Xo)(w:D0)(h:ME w B A n L)(hB:B<=w.heap.size)(hn:n<=100)(hs:∀x∈L,x.n<=1000)(ho:Rd w B 1 Ao O (As order))(aA:O<=100)(al:∀k∈order,k<n) :
  VX Tryz.prog 26 #[ZU A n c,ZU Ao O co] w (LP (decide (I8 (Aj L) order)) w):=by
 have aj:=TE ho;have Y:(Aj L).length=n:=by rw[qd4];exact h.1
 have ax:=LH aj;clear aj;have a2:=LH Y;clear Y;have H:=LH h;clear h;have HO:=LH ho;clear ho;have HS:=LH hs;clear hs;have aI:=LH al;clear al;go_enter Tryz.func26,Tryz.ntmps26;go_wp2_with (at_builtin;refine stop ?_)
 refine CD ?_;have a5:VI w.heap.size w (w.alloc (eT #[] 52)):=(VC _ _).alloc (Hi _) _;have af:(w.alloc (eT #[] 52)).ownsRow w.heap.size 52 3 (ZU (Bs ⟨w.heap.size,0,B0⟩) 0 0) 0 []:=X5 (base:=w.heap.size) (e:=52) (size:=3) w #[] 0 (Hi _) Zx rfl;have ac:=H.o.2.1.below (a5.mono hB);refine q1o _ rfl (.tmp 12) (.tmp 13) 29 rfl w.heap.size 52 _ 3 40 Tryz.underlying29 SE rfl Z2 _ 0 [] rfl af B A n c (L.flatMap UU) rfl ac.bB (Vp L) Zx Z0 Z3 ?_;intro v5 w2 a3 a4;have aq:VI w.heap.size w w2:=a5.trans (a4.below (λg hg=>by have e:w.heap.size=g:=Wn hg;omega) Z3);obtain⟨f,am⟩:∃f,v5.ownBlock=Bs f:=by
  obtain e|⟨g,e,_⟩:=a4.2;exact⟨_,e⟩;exact⟨g,e⟩
 obtain⟨cx,rfl⟩:=S8 a3 am;have S:StIR w w2 L order n cx f 0:=⟨by rw[Q9];simpa using a3,λq hq=>ZB hq Z0,aq⟩
 have ar:=LH S;clear S af ac a3 a4 a5 am aq;simp only[Wk];go_wp2_with fail;go_loopw [17] (Ur w L order n cx f) (λv _=>n-(intOf v).toNat)
 case atStart=>exact⟨0,rfl,VG _,ar.o⟩
 clear ar;obtain⟨i,rfl,hi,hI⟩:=hrel;obtain⟨R,rfl⟩:∃R:D0,R=wr:=⟨_,rfl⟩
 by_cases aQ:(i:Int)<n
 ·obtain⟨x,W⟩:∃x,L[i]? = Bs x:=⟨_,K0 (Z4 H.o.1)⟩
  have a9:=Sb W;have a6:=cutX_at (order:=order) W (Hi i);have J:=qe2 3 UU (λ_=>rfl) _ i x a6;have aS:R.cell? ⟨f,i*3+2,B0⟩=Bs (Wm eQ x.t.a8):=(hI.row.cellAt (i*3+2) Z0).trans (J 2 Z0);have aT:f<R.heap.size:=(hI.row.lt f rfl).2;have X:=HO.o.below (hI.below.mono hB);have a1:=LH X;clear X J;have HX:=LH W;clear W;have aG:=LH a6;clear a6;have V:=LH a9;clear a9;have HI:=LH hI;clear hI;have aV:=HI.o.below.size;go_wp2_with fail;go_loopw [7,22] (InOrd order i O R) (λ_ v _=>O-(intOf v).toNat)
  case atStart=>exact⟨0,rfl,VG _,Z3,rfl⟩
  obtain⟨q,rfl,hq,rfl,rfl⟩:=hrel;by_cases aL:(q:Int)<O
  ·obtain⟨g,az,k,hA,hg,d,hc⟩:=IE a1.o (k:=q) Z0;subst hA;have an:g<wr.heap.size:=by omega
   have ai:=q7w (i:=i) d;have aw:=LH ai;clear ai d;by_cases l:i∈order.take q
   ·rw[ZA l];have M:=aw.o;rw[ZA l,Bool.true_or]at M;have H2:=LH M;clear M l;go_wp2_with fail;go_roundw
    case rel=>exact⟨q+1,rfl,Z0,by rw[H2.o],rfl⟩
    case measure=>simp[intOf];omega
   rw[Z9 l];have M:=aw.o;rw[Z9 l,YR]at M;by_cases h3:(k:Int)=i
   ·have h4:k=i:=by omega
    rw[ZA h4]at M;have d1:((k:Int) == i)=VD:=Z6 h3;have H2:=LH M;clear M l h3 h4;go_wp2_with fail;go_roundw
    case rel=>exact⟨q+1,rfl,Z0,by rw[H2.o],rfl⟩
    case measure=>simp[intOf];omega
   have h4:¬k=i:=by omega
   rw[Z9 h4]at M;have d1:((k:Int) == i)=L1:=Z6 h3;have H2:=LH M;clear M l h3 h4;go_wp2_with fail;go_roundw
   case rel=>exact⟨q+1,rfl,Z0,by rw[H2.o],rfl⟩
   case measure=>simp[intOf];omega
  have ae:order.take q=order:=VS (Z4 ax.o);have aP:L.length=n:=H.o.1;rw[ae];clear ae;have D:¬(i ∉ order/\0<=x.t.a8)->Ur w L order n cx f (Wm eQ ((i:Int)+1)) wr:=λah=>
   ⟨i+1,rfl,Z0,by rw[Rb HX.o ah];exact HI.o.row,λq hq t C k d=>by
    by_cases e:q=i;subst e;rw[V.o]at C;exact ZB ⟨t,C⟩ ah;exact HI.o.ok q Z0 t C k d,HI.o.below⟩
  have N:=LH D;clear D;by_cases l:i∈order
  ·rw[ZA l];have hr:=N.o (λh=>h.1 l);have HR:=LH hr;clear hr l;go_wp2_with fail;go_roundw;exact HR.o;simp[intOf];omega
  rw[Z9 l];have H1:=LH l;clear l;by_cases C:0<=x.t.a8
  ·have d0:decide (0<=x.t.a8)=VD:=Z6 C;have aF:wr=wr:=rfl;clear aF;go_wp2_with fail;obtain⟨w9,rfl⟩:∃w9:D0,w9=wr:=⟨_,rfl⟩
   go_loopw [45] (StInR L order i O w9) (λv _=>O-(intOf v).toNat)
   case atStart=>exact⟨0,0,rfl,VG _,Z3,rfl⟩
   obtain⟨q2,m2,rfl,aO,ag,rfl⟩:=hrel;have av:=LH ag;clear ag;by_cases aM:(q2:Int)<O
   ·obtain⟨g,az,k,hA,hg,d,hc⟩:=IE a1.o (k:=q2) Z0;subst hA;have an:g<w9.heap.size:=by omega
    have aR:=aI.o k (N2 d);obtain⟨y,hy⟩:∃y,L[k]? = Bs y:=⟨_,K0 Z0⟩
    obtain⟨z,hz,a7⟩:=Rc (order:=order) (i:=i) hy;have J:=qe2 3 UU (λ_=>rfl) _ k z hz;have aC:w9.cell? ⟨f,k*3+1,B0⟩=Bs (Wm eQ z.t.ar):=(HI.o.row.cellAt (k*3+1) Z0).trans (J 1 Z0);rw[a7]at aC;have ao:=KX hy;have aN:(k:Int)<n:=by omega
    have aa:=q7j order q2 k d;have aH:=LH aa;clear aa;have HK:=LH d;clear d J hz a7 hy;have ay:=LH ao;clear ao;by_cases hb:x.t.a8<y.t.ar
    ·have d1:decide (x.t.a8<y.t.ar)=VD:=Z6 hb;have hf:decide (I8 (Aj L) order)=L1:=by
      simp only[decide_eq_false_iff_not];intro S;exact S.1 i (by rw[a2.o];omega) H1.o (by rw[V.o];exact C) k (N2 HK.o) (by rw[V.o,ay.o];exact hb)
     have HF:=LH hf;clear hf hb;go_wp2_with fail;go_quiet (fail);go_wp2_with fail;go_ret;rw[HF.o];exact⟨rfl,q4f (q4f HI.o.below _) _⟩
    have d1:decide (x.t.a8<y.t.ar)=L1:=Z6 hb;have aK:=LH hb;clear hb;go_wp2_with fail;go_quiet (fail);go_wp2_with fail;go_roundw
    case rel=>
     refine⟨q2+1,_,rfl,Z0,λk' u=>?_,rfl⟩;rw[aH.o]at u;obtain u|u:=XA.1 u;have:=av.o k' u;omega;rw[VU.1 u,V.o,ay.o];have:=aK.o;omega
    case measure=>simp[intOf];omega
   have a0:∀k∈order,¬Dq (Aj L) i<BY (Aj L) k:=λk d=>av.o k (by rw[VS (Z4 ax.o)];exact d)
   have E:=own_set HI.o.row (i*3+2) (Wm eQ (-1));rw[KZ 3 UU (λ_=>rfl) 2 _ Z0 _ i x ⟨⟨x.t.bh,x.t.ar,-1⟩,x.A,x.n,x.c⟩ aG.o rfl,<- Ra HX.o H1.o C]at E;have aU:=HI.o.row.frozenAt (i*3+2);have I:∀w',w'=(w9.drewN m2).setCell ⟨f,i*3+2,B0⟩ (Wm eQ (-1))->Ur w L order n cx f (Wm eQ ((i:Int)+1)) w':=λw' e=>by
    subst e;refine⟨i+1,rfl,Z0,E,λq hq t C k d=>?_,(q4f HI.o.below m2).setCell (p:=⟨f,i*3+2,B0⟩) (HI.o.row.lt f rfl).1 _⟩;by_cases e:q=i;subst e;exact a0 k d;exact HI.o.ok q Z0 t C k d
   have au:=LH I;clear I E a0;go_wp2_with fail;go_roundw;exact au.o _ rfl;simp[intOf];omega
  have d0:decide (0<=x.t.a8)=L1:=Z6 C;have hr:=N.o (λh=>C h.2);have HR:=LH hr;clear hr;go_wp2_with fail;go_roundw;exact HR.o;simp[intOf];omega
 have ak:i=n:=by omega
 subst ak;have a8:=cutX_ts L order i (by rw[H.o.1];exact Hi _);have ad:ME R R.heap.size (Bs ⟨f,0,B0⟩) i (CC L order i):=by
  refine⟨by rw[Lp];exact H.o.1,Rd.a7 hI.row,λy hy=>?_⟩;obtain⟨x,W,e1,e2,e3,e4⟩:=Lo hy;rw[e1,e2,e4];obtain⟨ab,aB⟩:=H.o.2.2 x W;exact⟨⟨ab.1,((ab.2.below (hI.below.mono hB)).more (VK hB hI.below.size))⟩,aB⟩
 have U:=Gq (CC L order i) order R.heap.size i cx O co (Bs ⟨f,0,B0⟩) Ao R ad (Hi _) hn (λy hy=>by
  obtain⟨x,W,_,e2,_,_⟩:=Lo hy;rw[e2];exact HS.o x W) ((HO.o.below (hI.below.mono hB)).more (VK hB hI.below.size)) aA
 rw[a8]at U;have Z:decide (B5 (D7 (Aj L) order) order)=decide (I8 (Aj L) order):=by
  rw[decide_eq_decide];exact⟨λhf=>⟨λq hq t C k d=>hI.ok q (by rw[a2.o]at hq;exact hq) t C k d,hf⟩,λhf=>hf.2⟩
 rw[Z]at U;have ap:=hI.below;have aJ:=LH U;clear U a8 Z hI ad;go_wp2_with fail;refine aJ.o.mono ?_;rintro e w3 ⟨rfl,aE⟩;have aD:=ap.trans (aE.mono ap.size);go_wp2_with fail;go_ret;exact⟨rfl,aD⟩
variable {ops:Array Oper}{md:Region.Mode}
section
variable {P:Program}
def Om{S:D0->Prop}(i j:Nat){o f:Oper}{fuel:Nat}{d:Array Bool}{a:Act}(v:Ws md ops d=[i,j])(x:ops[i]? = Bs o)(p:ops[j]? = Bs f)
  (u:Wu o (yielded ops a.tmps)=VD) (l:Wu f (yielded ops a.tmps)=VD)
  (h:∀e:Act->D0->Prop,(∀a w,S w->wpAnyH P md ops Q S fuel (d.setIfInBounds i VD) a w->e a w)->Yp P o a w e Q)
  (z:∀e:Act->D0->Prop,(∀a w,S w->wpAnyH P md ops Q S fuel (d.setIfInBounds j VD) a w->e a w)->Yp P f a w e Q):wpAnyH P md ops Q S (fuel+1) d a w:=
 wpAnyH_all v Z3 (λk y=>by
  obtain rfl|rfl:=(Z6 y:k=i\/k=j)
  ·exact wpOp_step x (λe t=>by rw[Z8 u];exact h e (λa w hs q=>t a w ⟨hs,q⟩))
  exact wpOp_step p (λe t=>by rw[Z8 l];exact z e (λa w hs q=>t a w ⟨hs,q⟩)))
def q7o{S:D0->Prop}(i:Nat){e:Oper}{fuel:Nat}{d:Array Bool}{a:Act}(p:ops[i]? = Bs e)
  (hs:Region.noSelect ops=VD) (q:Region.free md ops d i=VD) (l:(Ws md ops d).contains i=VD)
  (u:∀c a w,Q (.panic c) (a.put e.dst Yl) w->Q (.panic c) a w) (f:Wu e (yielded ops a.tmps)=L1) (t:S w)
  (h:wpAnyH P md ops Q S fuel (d.setIfInBounds i VD) (a.put e.dst Yl) w):wpAnyH P md ops Q S (fuel+1) d a w:=
 wpAnyH_take p hs q l u (eS ⟨f,rfl⟩) t h
end
def nextT(l:List Au)(order:List Nat)(i:Nat):Nat->Option (List Nat)
 |0=>B0
 |d+1=>Cn l d (order++[i])
def DZ(l:List Au)(f:Nat)(order:List Nat)(i:Nat):Option (List Nat):=if i∈order\/¬I8 l (order++[i])then B0 else nextT l order i f
def Vy{l:List Au}{f:Nat}{order:List Nat}(h:order.Nodup)(hl:∀x∈order,x<l.length)(p:order.length+f=l.length) :
  Cn l f order=if B5 l order then Bs order else(Ww l.length).findSome? (DZ l f order):=by
 cases f with
 |zero=>
  unfold Cn;have:(Ww l.length).findSome? (DZ l 0 order)=B0:=by
   rw[List.findSome?_eq_none_iff];intro i e;have e:=Zs.1 e;unfold DZ;by_cases d:i∈order;rw[Z8 (eR d)];have:=qcm h hl e d;omega
  rw[this]
 |succ f=>
  unfold Cn;rfl
def q7f(o:Option (List Nat))(w:D0)(e:Ending)(w':D0):Prop:=
 ∃A k c,e=ZY (ZZ #[ZU A k c,ZX o.isSome])/\k=(o.getD []).length/\Rd w' w'.heap.size 1 A k (As (o.getD []))/\VI w.heap.size w w'
def fnV(e d:Nat):S2:=.func (.func 24) #[] #[ZW (Bs ⟨e,0,B0⟩),ZW (Bs ⟨d,0,B0⟩)]
def N5(l:List Au)(f:Nat)(order:List Nat)(n:Nat)(w:D0)(v:S2)(wr:D0):Prop:=
 ∃j:Nat,v=Wm eQ j/\j<=n/\(Ww j).findSome? (DZ l f order)=B0/\VI w.heap.size w wr
def InOrd2(order:List Nat)(i f:Nat)(w:D0)(e d:S2)(wr:D0):Prop:=∃q:Nat,d=Wm eQ q/\q<=f/\e=ZX (decide (i∈order.take q))/\wr=w
def ME.more{w:D0}{B B' n:Nat}{A:Option Xo}{l:List CO}(h:ME w B A n l)(e:B<=B'):ME w B' A n l:=⟨h.1,h.2.1.more e,λx d=>⟨⟨(h.2.2 x d).1.1,(h.2.2 x d).1.2.more e⟩,(h.2.2 x d).2⟩⟩
def q34(l:List Nat):∀u∈As l,u.oneCell'=VD:=by intro u d;unfold As at d;obtain⟨x,_,rfl⟩:=ZE.1 d;rfl
def Vv(L:List CO)(B n c pl pt:Nat)(A:Option Xo)(hn:n<=8)(hs:∀x∈L,x.n<=1000):∀(f:Nat)(order:List Nat)(w:D0)(Bo co:Nat)(Ao:Option Xo),w.cell? ⟨pl,0,B0⟩=Bs (ZU A n c)->w.cell? ⟨pt,0,B0⟩=Bs (fnV pl pt)->
  ME w B A n L->B<=w.heap.size->order.Nodup->(∀k∈order,k<n)->order.length+f=n->Rd w Bo 1 Ao order.length (As order)->Bo<=w.heap.size->
  VX Tryz.prog 24 #[ZU Ao order.length co,ZW (Bs ⟨pl,0,B0⟩),ZW (Bs ⟨pt,0,B0⟩)] w (q7f (Cn (Aj L) f order) w):=by
 intro f;induction f using Nat.strongRecOn with
 |ind f ih=>
 intro order w Bo co Ao ap aH h hB hd hl hf ho aw;have a4:(Aj L).length=n:=by rw[qd4];exact h.1
 have aR:Cn (Aj L) f order=if B5 (Aj L) order then Bs order else(Ww n).findSome? (DZ (Aj L) f order):=by
  rw[<- a4];exact Vy hd (by rw[a4];exact hl) (by rw[a4];exact hf)
 have bx:order.length<=8:=by omega
 have ah:=V5 w _ ap;have ag:=V5 w _ aH;have aN:=LH aR;clear aR;have bv:=LH a4;clear a4;have IH:=LH ih;clear ih;have H:=LH h;clear h;have HD:=LH hd;clear hd;have HL:=LH hl;clear hl;have bd:=LH hf;clear hf;have HS:=LH hs;clear hs;have HO:=LH ho;clear ho;have aO:=LH aH;clear aH;have b6:=Gq L order w.heap.size n c order.length co A Ao w (H.o.more hB) (Hi _) Z0 HS.o (HO.o.more aw) Z0;have bq:=LH b6;clear b6;generalize b0:order.length=I at *;have ay:=LH b0;clear b0;go_enter Tryz.func24,Tryz.ntmps24;go_wp2_with fail;refine bq.o.mono ?_;rintro e w1 ⟨rfl,W⟩;by_cases Y:B5 (Aj L) order
 ·rw[ZA Y];have a2:Cn (Aj L) f order=Bs order:=by rw[aN.o,Z8 Y]
  have aa:=LH a2;clear a2 Y;have aZ:(w1.alloc (eT #[] 3)).ownsRow w.heap.size 3 1 (ZU (Bs ⟨w1.heap.size,0,B0⟩) 0 0) 0 []:=X5 (base:=w.heap.size) (e:=3) (size:=1) w1 #[] 0 W.size Zx rfl;have aK:VI w.heap.size w (w1.alloc (eT #[] 3)):=W.alloc W.size _;have aT:=HO.o.below (aK.mono aw);go_wp2_with (at_builtin;refine stop ?_)
  refine CD ?_;refine q1o _ rfl (.tmp 15) (.tmp 16) 26 rfl w.heap.size 3 (Wm eQ 0) 1 8 Tryz.underlying26 UR rfl Z2 _ 0 [] rfl aZ Bo Ao I co (As order) rfl aT.bB (q34 order) Zx Z0 (by have:=W.size;simp;omega) ?_;intro v4 w2 aq b4;have bk:VI w.heap.size w w2:=aK.trans (b4.below (λg hg=>by have e:w1.heap.size=g:=Wn hg;have:=W.size;omega) (by have:=W.size;simp;omega));simp only[Wk,WN]at aq;obtain⟨A4,c4,rfl,_,_⟩:=AM aq;have aA:=Rd.a7 aq;have bm:=LH aA;clear aA aq b4 aT aK aZ;go_wp2_with fail;go_ret2;rw[aa.o];exact⟨A4,I,c4,rfl,ay.o.symm,bm.o,bk⟩
 rw[Z9 Y];have a2:Cn (Aj L) f order=(Ww n).findSome? (DZ (Aj L) f order):=by rw[aN.o,Z7 Y]
 have aa:=LH a2;clear a2 Y aN;have aY:w1.cell? ⟨pl,0,B0⟩=Bs (ZU A n c):=(W.cell (p:=⟨pl,0,B0⟩) ah).trans ap;have aI:pl<w1.heap.size:=Z4 W.size;go_wp2_with fail;clear aY aI;go_loopw [20] (N5 (Aj L) f order n w) (λv _=>n-(intOf v).toNat)
 case atStart=>exact⟨0,rfl,VG _,rfl,W⟩
 clear W;obtain⟨i,rfl,hi,al,a8⟩:=hrel;obtain⟨wo,rfl⟩:∃wo:D0,wo=wr:=⟨_,rfl⟩
 have a1:=LH al;clear al;by_cases bw:(i:Int)<n
 ·have ak:i<n:=by omega
  have aD:=HO.o.below (a8.mono aw);have M:=LH aD;clear aD;have bz:=a8.size;have aX:wo.cell? ⟨pl,0,B0⟩=Bs (ZU A n c):=(a8.cell (p:=⟨pl,0,B0⟩) ah).trans ap;have aC:wo.cell? ⟨pt,0,B0⟩=Bs (fnV pl pt):=(a8.cell (p:=⟨pt,0,B0⟩) ag).trans aO.o;have bu:=LH aC;clear aC;go_wp2_with fail;go_loopw [7,25] (InOrd2 order i I wo) (λ_ v _=>I-(intOf v).toNat)
  case atStart=>exact⟨0,rfl,VG _,Z3,rfl⟩
  obtain⟨q,rfl,hq,rfl,rfl⟩:=hrel;by_cases br:(q:Int)<I
  ·obtain⟨g,ab,k,hA,hg,hk,hc⟩:=IE M.o (k:=q) Z0;subst hA;have bt:g<wr.heap.size:=by omega
   have b3:=q7w (i:=i) hk;have bc:=LH b3;clear b3 hk;by_cases h1:i∈order.take q
   ·rw[ZA h1];have h2:=bc.o;rw[ZA h1,Bool.true_or]at h2;have H2:=LH h2;clear h2 h1;go_wp2_with fail;go_roundw
    case rel=>exact⟨q+1,rfl,Z0,by rw[H2.o],rfl⟩
    case measure=>simp[intOf];omega
   rw[Z9 h1];have h2:=bc.o;rw[Z9 h1,YR]at h2;by_cases h3:(k:Int)=i
   ·have h4:k=i:=by omega
    rw[ZA h4]at h2;have d1:((k:Int) == i)=VD:=Z6 h3;have H2:=LH h2;clear h2 h1 h3 h4;go_wp2_with fail;go_roundw
    case rel=>exact⟨q+1,rfl,Z0,by rw[H2.o],rfl⟩
    case measure=>simp[intOf];omega
   have h4:¬k=i:=by omega
   rw[Z9 h4]at h2;have d1:((k:Int) == i)=L1:=Z6 h3;have H2:=LH h2;clear h2 h1 h3 h4;go_wp2_with fail;go_roundw
   case rel=>exact⟨q+1,rfl,Z0,by rw[H2.o],rfl⟩
   case measure=>simp[intOf];omega
  have aU:order.take q=order:=VS (Z4 ay.o);rw[aU];clear aU;have aP:=LH a8;clear a8;have aW:pl<wr.heap.size:=by omega
  have S:Bo<=wr.heap.size:=by omega
  have b9:ME wr wr.heap.size A n L:=(H.o.below (aP.o.mono hB)).more Z0;have bo:=LH b9;clear b9;have aE:∀k∈order++[i],k<n:=λk hk=>by
   obtain hk|hk:=XA.1 hk;exact HL.o k hk;rw[VU.1 hk];exact ak
  have aG:=LH aE;clear aE;generalize b8:decide (i∈order)=b;have bf:=LH b8;clear b8;go_upto_region 12 with (fail)
  go_cut [47] (λs47 wx=>s47=ZX (b || !decide (I8 (Aj L) (order++[i])))/\VI wr.heap.size wr wx)
  case first=>
   have z:VI wr.heap.size wr wr.drew:=(VC _ _).drew;obtain _|_:=b
   rotate_left
   ·refine nW ?_;refine SF (λw'=>VI wr.heap.size wr w') ?_;refine MG 0 rfl Z1 Z1 Z1 (λ_ _ _ h=>h) Z1 z (λw' E=>by go_simp;rfl) ?_;refine MG 1 rfl Z1 Z1 Z1 (λ_ _ _ h=>h) Z1 z (λw' E=>by go_simp;rfl) ?_;refine q7o 2 rfl Z1 Z1 Z1 (λ_ _ _ h=>h) Z1 z ?_;refine q7o 3 rfl Z1 Z1 Z1 (λ_ _ _ h=>h) Z1 z ?_;refine q7o 4 rfl Z1 Z1 Z1 (λ_ _ _ h=>h) Z1 z ?_;refine q7o 6 rfl Z1 Z1 Z1 (λ_ _ _ h=>h) Z1 z ?_;refine q7o 5 rfl Z1 Z1 Z1 (λ_ _ _ h=>h) Z1 z ?_;refine q7o 7 rfl Z1 Z1 Z1 (λ_ _ _ h=>h) Z1 z ?_;refine q7o 8 rfl Z1 Z1 Z1 (λ_ _ _ h=>h) Z1 z ?_;refine q7o 9 rfl Z1 Z1 Z1 (λ_ _ _ h=>h) Z1 z ?_;refine q7o 10 rfl Z1 Z1 Z1 (λ_ _ _ h=>h) Z1 z ?_;refine MG 11 rfl Z1 Z1 Z1 (λ_ _ _ h=>h) Z1 z (λw' E=>by go_simp;rfl) ?_;refine wpAnyH_done Z1 ?_ _;go_wp2_with fail;go_meet;exact⟨rfl,z⟩
   refine nW ?_;refine SF (λw'=>VI wr.heap.size wr w') ?_;refine MG 0 rfl Z1 Z1 Z1 (λ_ _ _ h=>h) Z1 z (λw' E=>by go_simp;rfl) ?_;refine MG 1 rfl Z1 Z1 Z1 (λ_ _ _ h=>h) Z1 z (λw' E=>by go_simp;rfl) ?_;refine MG 2 rfl Z1 Z1 Z1 (λ_ _ _ h=>h) Z1 z (λw' E=>by have bj:=(E.cell (p:=⟨pl,0,B0⟩) aW).trans aX;go_simp;rfl) ?_;refine MG 4 rfl Z1 Z1 Z1 (λ_ _ _ h=>h) Z1 z (λw' E=>by go_simp;rfl) ?_;refine MG 6 rfl Z1 Z1 Z1 (λ_ _ _ h=>h) Z1 z (λw' E=>by go_simp;rfl) ?_;refine Om 3 7 Z1 rfl rfl Z1 Z1 (λK l=>?ordP) (λK l=>?ordQ)
   case' ordP=>
    go_simp;refine l _ _ (((VC _ _).alloc (Hi _) _).drew) ?_;clear l K;refine Om 5 7 Z1 rfl rfl Z1 Z1 (λK l=>?ordR) (λK l=>?ordS)
   case' ordR=>
    have d:VI wr.heap.size wr ((wr.alloc (eT #[] 3)).drew):=((VC _ _).alloc (Hi _) _).drew;have IF:XS ((wr.alloc (eT #[] 3)).drew) wr.heap.size 3 1 (ZU (Bs ⟨wr.heap.size,0,B0⟩) 0 0) 0 []:=X5 (base:=wr.heap.size) (e:=3) (size:=1) wr #[] 0 (Hi _) Zx rfl;have D:=M.o.below (d.mono S);refine q2m ((wr.alloc (eT #[] 3)).drew) (.tmp 39) (.tmp 40) 26 rfl wr.heap.size 3 (Wm eQ 0) 1 8 Tryz.underlying26 UR rfl Z2 _ 0 [] rfl IF Bo Ao I co (As order) rfl D.bB (q34 order) Zx Z0 d.size ?_;intro ad w5 t y;simp only[Wk,WN]at t;obtain⟨A5,c5,rfl,_,_⟩:=AM t;have u:VI wr.heap.size wr w5:=d.trans (y.below (λg hg=>by have e:wr.heap.size=g:=Wn hg;omega) d.size);clear D IF y;go_simp;refine l _ _ u ?_;clear l K;refine MF 7 Z1 rfl Z1 (λK l=>?_);go_simp;refine l _ _ (u.alloc u.size _) ?_;clear l K;have C:XS (w5.alloc (eT #[Wm eQ (i:Int)] 3)) wr.heap.size 3 1 (ZU A5 I c5) I (As order):=t.alloc _;have U:Rd (w5.alloc (eT #[Wm eQ (i:Int)] 3)) ((w5.alloc (eT #[Wm eQ (i:Int)] 3))).heap.size 1 (Bs ⟨w5.heap.size,0,B0⟩) 1 (As [i]):=by have h:=Rd.lit w5 #[Wm eQ (i:Int)] 3 1 1 rfl;simpa [As]using h
    have J:VI wr.heap.size wr (w5.alloc (eT #[Wm eQ (i:Int)] 3)):=u.alloc u.size _;obtain⟨Z,ae⟩:∃Z:D0,Z=(w5.alloc (eT #[Wm eQ (i:Int)] 3)):=⟨_,rfl⟩
    rw[<- ae]at C U J ⊢;clear ae u t d
   case' ordS=>
    go_simp;refine l _ _ ((((VC _ _).alloc (Hi _) _).alloc Z3 _).drew) ?_;clear l K;refine MF 5 Z1 rfl Z1 (λK l=>?_);have d:VI wr.heap.size wr (((wr.alloc (eT #[] 3)).alloc (eT #[Wm eQ (i:Int)] 3)).drew):=(((VC _ _).alloc (Hi _) _).alloc Z3 _).drew;have IF:XS (((wr.alloc (eT #[] 3)).alloc (eT #[Wm eQ (i:Int)] 3)).drew) wr.heap.size 3 1 (ZU (Bs ⟨wr.heap.size,0,B0⟩) 0 0) 0 []:=(X5 (base:=wr.heap.size) (e:=3) (size:=1) wr #[] 0 (Hi _) Zx rfl).alloc _;have D:=M.o.below (d.mono S);refine q2m (((wr.alloc (eT #[] 3)).alloc (eT #[Wm eQ (i:Int)] 3)).drew) (.tmp 39) (.tmp 40) 26 rfl wr.heap.size 3 (Wm eQ 0) 1 8 Tryz.underlying26 UR rfl Z2 _ 0 [] rfl IF Bo Ao I co (As order) rfl D.bB (q34 order) Zx Z0 d.size ?_;intro ad w5 t y;simp only[Wk,WN]at t;obtain⟨A5,c5,rfl,_,_⟩:=AM t;have u:VI wr.heap.size wr w5:=d.trans (y.below (λg hg=>by have e:wr.heap.size=g:=Wn hg;omega) d.size);have U:Rd w5 w5.heap.size 1 (Bs ⟨wr.heap.size+1,0,B0⟩) 1 (As [i]):=by
     have h:=Rd.lit (wr.alloc (eT #[] 3)) #[Wm eQ (i:Int)] 3 1 1 rfl;have e1:(wr.alloc (eT #[] 3)).heap.size=wr.heap.size+1:=by simp
     rw[e1]at h;have h2:=Rd.fr h ((((Fr.refl (λk=>Bs k=Bs wr.heap.size) _).drew).trans y.1)) Z3 (λg ab e _=>by injection e with e;injection e with e _;intro e2;injection e2;omega);simpa [As]using h2.more (by have:=y.size;simp at this;omega)
    clear D IF y;go_simp;refine l _ _ u ?_;clear l K;have C:XS w5 wr.heap.size 3 1 (ZU A5 I c5) I (As order):=t;have J:VI wr.heap.size wr w5:=u;obtain⟨Z,rfl⟩:∃Z:D0,Z=w5:=⟨_,rfl⟩
    clear u t d
   case' ordQ=>
    go_simp;refine l _ _ (((VC _ _).alloc (Hi _) _).drew) ?_;clear l K;refine MF 3 Z1 rfl Z1 (λK l=>?_);go_simp;refine l _ _ ((((VC _ _).alloc (Hi _) _).alloc Z3 _).drew) ?_;clear l K;refine MF 5 Z1 rfl Z1 (λK l=>?_);have d:VI wr.heap.size wr (((wr.alloc (eT #[Wm eQ (i:Int)] 3)).alloc (eT #[] 3)).drew):=(((VC _ _).alloc (Hi _) _).alloc Z3 _).drew;have IF:XS (((wr.alloc (eT #[Wm eQ (i:Int)] 3)).alloc (eT #[] 3)).drew) wr.heap.size 3 1 (ZU (Bs ⟨wr.heap.size+1,0,B0⟩) 0 0) 0 []:=by
     have h:=X5 (base:=wr.heap.size) (e:=3) (size:=1) (wr.alloc (eT #[Wm eQ (i:Int)] 3)) #[] 0 Z3 Zx rfl;have e1:(wr.alloc (eT #[Wm eQ (i:Int)] 3)).heap.size=wr.heap.size+1:=by simp
     rw[e1]at h;exact h
    have D:=M.o.below (d.mono S);refine q2m (((wr.alloc (eT #[Wm eQ (i:Int)] 3)).alloc (eT #[] 3)).drew) (.tmp 39) (.tmp 40) 26 rfl wr.heap.size 3 (Wm eQ 0) 1 8 Tryz.underlying26 UR rfl Z2 _ 0 [] rfl IF Bo Ao I co (As order) rfl D.bB (q34 order) Zx Z0 d.size ?_;intro ad w5 t y;simp only[Wk,WN]at t;obtain⟨A5,c5,rfl,_,_⟩:=AM t;have u:VI wr.heap.size wr w5:=d.trans (y.below (λg hg=>by have e:wr.heap.size+1=g:=Wn hg;omega) d.size);have U:Rd w5 w5.heap.size 1 (Bs ⟨wr.heap.size,0,B0⟩) 1 (As [i]):=by
     have h:=(Rd.lit wr #[Wm eQ (i:Int)] 3 1 1 rfl).fr ((Fr.refl (λk=>Bs k=Bs (wr.heap.size+1)) _).alloc (eT #[] 3)) Z3 (λg ab e _=>by injection e with e;injection e with e _;intro e2;injection e2;omega);have h2:=Rd.fr h ((((Fr.refl (λk=>Bs k=Bs (wr.heap.size+1)) _).drew).trans y.1)) Z3 (λg ab e _=>by injection e with e;injection e with e _;intro e2;injection e2;omega);simpa [As]using h2.more (by have:=y.size;simp at this;omega)
    clear D IF y;go_simp;refine l _ _ u ?_;clear l K;have C:XS w5 wr.heap.size 3 1 (ZU A5 I c5) I (As order):=t;have J:VI wr.heap.size wr w5:=u;obtain⟨Z,rfl⟩:∃Z:D0,Z=w5:=⟨_,rfl⟩
    clear u t d
   all_goals
    refine MF 8 Z1 rfl Z1 (λK l=>?_);refine q2m Z (.tmp 41) (.tmp 43) 26 rfl wr.heap.size 3 (Wm eQ 0) 1 8 Tryz.underlying26 UR rfl Z2 _ I (As order) rfl C _ _ 1 1 (As [i]) rfl U.bB (q34 [i]) Zx Z0 J.size ?_;intro bg X a7 ai;obtain⟨A8,c8,rfl,_,_⟩:=AM a7;have O:VI wr.heap.size wr X:=J.trans (ai.below (λg hg=>(C.lt g hg).1) J.size);have a3:Rd X X.heap.size 1 A8 (I+1) (As (order++[i])):=by
     have h:=Rd.a7 a7;rw[qcq];exact h
    clear C U J a7 ai;go_simp;refine l _ _ O ?_;clear l K;refine MF 9 Z1 rfl Z1 (λK l=>?_);go_simp;refine(Mq L (order++[i]) X.heap.size n c (I+1) c8 A A8 X ((bo.o.below O).more O.size) (Hi _) Z0 HS.o a3 Z0 aG.o).mono ?_;rintro e w9 ⟨rfl,aL⟩;have N:VI wr.heap.size wr w9:=O.trans (aL.mono O.size);generalize aS:decide (I8 (Aj L) (order++[i]))=sb;have bl:=LH aS;clear aS;go_simp;refine l _ _ N ?_;clear l K;refine MF 10 Z1 rfl Z1 (λK l=>?_);go_simp;refine l _ _ N ?_;clear l K;refine MF 11 Z1 rfl Z1 (λK l=>?_);go_simp;refine l _ _ N ?_;clear l K;refine wpAnyH_done Z1 ?_ _;go_wp2_with fail;go_meet;rw[bl.o];exact⟨rfl,N⟩
  obtain⟨rfl,b7⟩:=hcut;have V:VI w.heap.size w wc:=aP.o.trans (b7.mono aP.o.size);have a0:(i∈order\/¬I8 (Aj L) (order++[i]))->(b || !decide (I8 (Aj L) (order++[i])))=VD:=λh=>by
   rw[<- bf.o];obtain h|h:=h;simp[h];simp[h]
  have au:¬(i∈order\/¬I8 (Aj L) (order++[i]))->(b || !decide (I8 (Aj L) (order++[i])))=L1:=λh=>by
   rw[<- bf.o];simp only[not_or,Decidable.not_not]at h;simp[h.1,h.2]
  generalize (b || !decide (I8 (Aj L) (order++[i])))=sk at a0 au;by_cases a5:i∈order\/¬I8 (Aj L) (order++[i])
  ·obtain rfl:=a0 a5;have hrel:N5 (Aj L) f order n w (Wm eQ ((i:Int)+1)) wc:=⟨i+1,rfl,Z0,by rw[qbc _ _ a1.o];unfold DZ;rw[Z8 a5],V⟩
   have ba:=LH hrel;clear hrel a0 au a5;go_wp2_with fail;go_roundw;exact ba.o;simp[intOf];omega
  obtain rfl:=au a5;have b1:i ∉ order:=λh=>a5 (eR h)
  obtain⟨f',aJ⟩:∃f',f=f'+1:=⟨f-1,by have:=qcm HD.o HL.o ak b1;have:=bd.o;have:=ay.o;omega⟩
  have aQ:DZ (Aj L) f order i=Cn (Aj L) f' (order++[i]):=by unfold DZ;rw[Z7 a5,aJ];rfl
  have aM:=LH aQ;clear aQ a5 a0 au;have b2:(order++[i]).Nodup:=by
   rw[Xg];exact⟨HD.o,Z3,λa ha b hb=>by rw[VU.1 hb];exact λe=>b1 (e▸ha)⟩
  have ar:(order++[i]).length=I+1:=by rw[VJ,ay.o];rfl
  have bh:pl<wc.heap.size:=Z4 V.size;have aV:pt<wc.heap.size:=Z4 V.size;have aB:wc.cell? ⟨pt,0,B0⟩=Bs (fnV pl pt):=(V.cell (p:=⟨pt,0,B0⟩) ag).trans aO.o;have am:∀(X:D0)(A8:Option Xo)(c8:Nat),VI wc.heap.size wc X->Rd X X.heap.size 1 A8 (I+1) (As (order++[i]))->
    VX Tryz.prog 24 #[ZU A8 (I+1) c8,ZW (Bs ⟨pl,0,B0⟩),ZW (Bs ⟨pt,0,B0⟩)] X (q7f (Cn (Aj L) f' (order++[i])) X):=λX A8 c8 O a3=>by
   have av:VI w.heap.size w X:=V.trans (O.mono V.size);have h:=IH.o f' Z0 (order++[i]) X X.heap.size c8 A8 ((av.cell (p:=⟨pl,0,B0⟩) ah).trans ap) ((av.cell (p:=⟨pt,0,B0⟩) ag).trans aO.o) (H.o.below (av.mono hB)) (VK hB av.size) b2 aG.o (by rw[ar];have:=bd.o;omega) (by rw[ar];exact a3) (Hi _);rw[ar]at h;exact h
  have an:=LH am;clear am b2 ar;have M:=LH (HO.o.below (V.mono aw));have S:Bo<=wc.heap.size:=Z4 V.size;have bA:=LH aJ;clear aJ;have be:=LH V;clear V b7;generalize bi:Cn (Aj L) f' (order++[i])=o' at an aM;clear bi;unfold fnV at aB;go_upto_region 13 with (fail)
  go_cut [10,11] (λs10 s11 wx=>∃ao ac ax,s10=ZU ao ac ax/\s11=ZX o'.isSome/\ac=(o'.getD []).length/\Rd wx wx.heap.size 1 ao ac (As (o'.getD []))/\VI wc.heap.size wc wx)
  case first=>
   have z:VI wc.heap.size wc wc.drew:=(VC _ _).drew;refine nW ?_;refine SF (λw'=>VI wc.heap.size wc w') ?_;refine MG 0 rfl Z1 Z1 Z1 (λ_ _ _ h=>h) Z1 z (λw' E=>by have bj:=(E.cell (p:=⟨pt,0,B0⟩) aV).trans aB;go_simp;rfl) ?_;refine MG 2 rfl Z1 Z1 Z1 (λ_ _ _ h=>h) Z1 z (λw' E=>by go_simp;rfl) ?_;refine MG 4 rfl Z1 Z1 Z1 (λ_ _ _ h=>h) Z1 z (λw' E=>by go_simp;rfl) ?_;refine Om 1 5 Z1 rfl rfl Z1 Z1 (λK l=>?Cj) (λK l=>?ordU)
   case' Cj=>
    go_simp;refine l _ _ (((VC _ _).alloc (Hi _) _).drew) ?_;clear l K;refine Om 3 5 Z1 rfl rfl Z1 Z1 (λK l=>?ordV) (λK l=>?ordW)
   case' ordV=>
    have d:VI wc.heap.size wc ((wc.alloc (eT #[] 3)).drew):=((VC _ _).alloc (Hi _) _).drew;have IF:XS ((wc.alloc (eT #[] 3)).drew) wc.heap.size 3 1 (ZU (Bs ⟨wc.heap.size,0,B0⟩) 0 0) 0 []:=X5 (base:=wc.heap.size) (e:=3) (size:=1) wc #[] 0 (Hi _) Zx rfl;have D:=M.o.below (d.mono S);refine q2m ((wc.alloc (eT #[] 3)).drew) (.tmp 50) (.tmp 51) 26 rfl wc.heap.size 3 (Wm eQ 0) 1 8 Tryz.underlying26 UR rfl Z2 _ 0 [] rfl IF Bo Ao I co (As order) rfl D.bB (q34 order) Zx Z0 d.size ?_;intro ad w5 t y;simp only[Wk,WN]at t;obtain⟨A5,c5,rfl,_,_⟩:=AM t;have u:VI wc.heap.size wc w5:=d.trans (y.below (λg hg=>by have e:wc.heap.size=g:=Wn hg;omega) d.size);clear D IF y;go_simp;refine l _ _ u ?_;clear l K;refine MF 5 Z1 rfl Z1 (λK l=>?_);go_simp;refine l _ _ (u.alloc u.size _) ?_;clear l K;have C:XS (w5.alloc (eT #[Wm eQ (i:Int)] 3)) wc.heap.size 3 1 (ZU A5 I c5) I (As order):=t.alloc _;have U:Rd (w5.alloc (eT #[Wm eQ (i:Int)] 3)) (w5.alloc (eT #[Wm eQ (i:Int)] 3)).heap.size 1 (Bs ⟨w5.heap.size,0,B0⟩) 1 (As [i]):=by have h:=Rd.lit w5 #[Wm eQ (i:Int)] 3 1 1 rfl;simpa [As]using h
    have J:VI wc.heap.size wc (w5.alloc (eT #[Wm eQ (i:Int)] 3)):=u.alloc u.size _;obtain⟨Z,ae⟩:∃Z:D0,Z=w5.alloc (eT #[Wm eQ (i:Int)] 3):=⟨_,rfl⟩
    rw[<- ae]at C U J ⊢;clear ae u t d
   case' ordW=>
    go_simp;refine l _ _ ((((VC _ _).alloc (Hi _) _).alloc Z3 _).drew) ?_;clear l K;refine MF 3 Z1 rfl Z1 (λK l=>?_);have d:VI wc.heap.size wc (((wc.alloc (eT #[] 3)).alloc (eT #[Wm eQ (i:Int)] 3)).drew):=(((VC _ _).alloc (Hi _) _).alloc Z3 _).drew;have IF:XS (((wc.alloc (eT #[] 3)).alloc (eT #[Wm eQ (i:Int)] 3)).drew) wc.heap.size 3 1 (ZU (Bs ⟨wc.heap.size,0,B0⟩) 0 0) 0 []:=(X5 (base:=wc.heap.size) (e:=3) (size:=1) wc #[] 0 (Hi _) Zx rfl).alloc _;have D:=M.o.below (d.mono S);refine q2m (((wc.alloc (eT #[] 3)).alloc (eT #[Wm eQ (i:Int)] 3)).drew) (.tmp 50) (.tmp 51) 26 rfl wc.heap.size 3 (Wm eQ 0) 1 8 Tryz.underlying26 UR rfl Z2 _ 0 [] rfl IF Bo Ao I co (As order) rfl D.bB (q34 order) Zx Z0 d.size ?_;intro ad w5 t y;simp only[Wk,WN]at t;obtain⟨A5,c5,rfl,_,_⟩:=AM t;have u:VI wc.heap.size wc w5:=d.trans (y.below (λg hg=>by have e:wc.heap.size=g:=Wn hg;omega) d.size);have U:Rd w5 w5.heap.size 1 (Bs ⟨wc.heap.size+1,0,B0⟩) 1 (As [i]):=by
     have h:=Rd.lit (wc.alloc (eT #[] 3)) #[Wm eQ (i:Int)] 3 1 1 rfl;have e1:(wc.alloc (eT #[] 3)).heap.size=wc.heap.size+1:=by simp
     rw[e1]at h;have h2:=Rd.fr h ((((Fr.refl (λk=>Bs k=Bs wc.heap.size) _).drew).trans y.1)) Z3 (λg ab e _=>by injection e with e;injection e with e _;intro e2;injection e2;omega);simpa [As]using h2.more (by have:=y.size;simp at this;omega)
    clear D IF y;go_simp;refine l _ _ u ?_;clear l K;have C:XS w5 wc.heap.size 3 1 (ZU A5 I c5) I (As order):=t;have J:VI wc.heap.size wc w5:=u;obtain⟨Z,rfl⟩:∃Z:D0,Z=w5:=⟨_,rfl⟩
    clear u t d
   case' ordU=>
    go_simp;refine l _ _ (((VC _ _).alloc (Hi _) _).drew) ?_;clear l K;refine MF 1 Z1 rfl Z1 (λK l=>?_);go_simp;refine l _ _ ((((VC _ _).alloc (Hi _) _).alloc Z3 _).drew) ?_;clear l K;refine MF 3 Z1 rfl Z1 (λK l=>?_);have d:VI wc.heap.size wc (((wc.alloc (eT #[Wm eQ (i:Int)] 3)).alloc (eT #[] 3)).drew):=(((VC _ _).alloc (Hi _) _).alloc Z3 _).drew;have IF:XS (((wc.alloc (eT #[Wm eQ (i:Int)] 3)).alloc (eT #[] 3)).drew) wc.heap.size 3 1 (ZU (Bs ⟨wc.heap.size+1,0,B0⟩) 0 0) 0 []:=by
     have h:=X5 (base:=wc.heap.size) (e:=3) (size:=1) (wc.alloc (eT #[Wm eQ (i:Int)] 3)) #[] 0 Z3 Zx rfl;have e1:(wc.alloc (eT #[Wm eQ (i:Int)] 3)).heap.size=wc.heap.size+1:=by simp
     rw[e1]at h;exact h
    have D:=M.o.below (d.mono S);refine q2m (((wc.alloc (eT #[Wm eQ (i:Int)] 3)).alloc (eT #[] 3)).drew) (.tmp 50) (.tmp 51) 26 rfl wc.heap.size 3 (Wm eQ 0) 1 8 Tryz.underlying26 UR rfl Z2 _ 0 [] rfl IF Bo Ao I co (As order) rfl D.bB (q34 order) Zx Z0 d.size ?_;intro ad w5 t y;simp only[Wk,WN]at t;obtain⟨A5,c5,rfl,_,_⟩:=AM t;have u:VI wc.heap.size wc w5:=d.trans (y.below (λg hg=>by have e:wc.heap.size+1=g:=Wn hg;omega) d.size);have U:Rd w5 w5.heap.size 1 (Bs ⟨wc.heap.size,0,B0⟩) 1 (As [i]):=by
     have h:=(Rd.lit wc #[Wm eQ (i:Int)] 3 1 1 rfl).fr ((Fr.refl (λk=>Bs k=Bs (wc.heap.size+1)) _).alloc (eT #[] 3)) Z3 (λg ab e _=>by injection e with e;injection e with e _;intro e2;injection e2;omega);have h2:=Rd.fr h ((((Fr.refl (λk=>Bs k=Bs (wc.heap.size+1)) _).drew).trans y.1)) Z3 (λg ab e _=>by injection e with e;injection e with e _;intro e2;injection e2;omega);simpa [As]using h2.more (by have:=y.size;simp at this;omega)
    clear D IF y;go_simp;refine l _ _ u ?_;clear l K;have C:XS w5 wc.heap.size 3 1 (ZU A5 I c5) I (As order):=t;have J:VI wc.heap.size wc w5:=u;obtain⟨Z,rfl⟩:∃Z:D0,Z=w5:=⟨_,rfl⟩
    clear u t d
   all_goals
    refine MF 6 Z1 rfl Z1 (λK l=>?_);refine q2m Z (.tmp 52) (.tmp 54) 26 rfl wc.heap.size 3 (Wm eQ 0) 1 8 Tryz.underlying26 UR rfl Z2 _ I (As order) rfl C _ _ 1 1 (As [i]) rfl U.bB (q34 [i]) Zx Z0 J.size ?_;intro bg X a7 ai;obtain⟨A8,c8,rfl,_,_⟩:=AM a7;have O:VI wc.heap.size wc X:=J.trans (ai.below (λg hg=>(C.lt g hg).1) J.size);have a3:Rd X X.heap.size 1 A8 (I+1) (As (order++[i])):=by
     have h:=Rd.a7 a7;rw[qcq];exact h
    clear C U J a7 ai;go_simp;refine l _ _ O ?_;clear l K;refine MF 7 Z1 rfl Z1 (λK l=>?_);go_simp;refine(an.o X A8 c8 O a3).mono ?_;rintro e w9 ⟨A9,k9,c9,rfl,b5,az,aL⟩;have N:VI wc.heap.size wc w9:=O.trans (aL.mono O.size);have bb:=LH az;clear az;have bp:=LH b5;clear b5;go_simp;refine l _ _ N ?_;clear l K;refine MG 8 rfl Z1 Z1 Z1 (λ_ _ _ h=>h) Z1 N (λw' E=>by go_simp;rfl) ?_;refine MG 9 rfl Z1 Z1 Z1 (λ_ _ _ h=>h) Z1 N (λw' E=>by go_simp;rfl) ?_;refine MG 10 rfl Z1 Z1 Z1 (λ_ _ _ h=>h) Z1 N (λw' E=>by go_simp;rfl) ?_;refine MG 11 rfl Z1 Z1 Z1 (λ_ _ _ h=>h) Z1 N (λw' E=>by go_simp;rfl) ?_;refine MF 12 Z1 rfl Z1 (λK l=>?_);go_simp;refine l _ _ N ?_;clear l K;refine wpAnyH_done Z1 ?_ _;go_wp2_with fail;go_meet;exact⟨A9,k9,c9,rfl,rfl,bp.o,bb.o,N⟩
  obtain⟨ao,ac,ax,rfl,rfl,aj,a6,aF⟩:=hcut;have a9:VI w.heap.size w wc:=be.o.trans (aF.mono be.o.size);clear aF;obtain _|x:=o'
  ·have af:N5 (Aj L) f order n w (Wm eQ ((i:Int)+1)) wc:=⟨i+1,rfl,Z0,by rw[qbc _ _ a1.o];exact aM.o,a9⟩
   have bn:=LH af;clear af aj a6 a9;simp only[Option.isSome_none];go_wp2_with fail;go_roundw;exact bn.o;simp[intOf];omega
  have R:q7f (Cn (Aj L) f order) w (ZY (ZZ #[ZU ao ac ax,ZX VD])) wc:=by
   rw[aa.o,QZ ak a1.o aM.o];exact⟨ao,ac,ax,rfl,aj,a6,a9⟩
  have HP:=LH R;clear R aj a6 a9;simp only[Option.isSome_some];go_wp2_with fail;go_ret2;exact HP.o
 have ak:i=n:=by omega
 subst ak;have R:q7f (Cn (Aj L) f order) w (ZY (ZZ #[ZU B0 0 0,ZX L1])) wo:=by
  rw[aa.o,a1.o];exact⟨B0,0,0,rfl,rfl,Rd.bo _ _ _ _,a8⟩
 have HP:=LH R;clear R;go_wp2_with fail;go_ret2;exact HP.o
end Go.Proofs.YtccahlhdifadfaaGreatDoor
