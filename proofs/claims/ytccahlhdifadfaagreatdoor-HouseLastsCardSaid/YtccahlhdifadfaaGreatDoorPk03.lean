import Derived.Test.YtccahlhdifadfaaGreatDoorPk02
import Derived.StillTailTactics
import Derived.RangeFuncNested
import Derived.RangeFuncBound
import Derived.RangeFuncCalls
import Derived.RangeFuncLeaves
import Derived.Shelf.Abstract
import Derived.Shelf.RegionOpen
import Derived.WalkKit
import Derived.OwnWalkIn
import Derived.TacticsInMore
import Derived.LoopNIn
import Derived.LoopIn
import Derived.OrdersIn
import Derived.Test.YtccahlhdifadfaaGreatDoorRows
import Derived.WalkSpells
import Derived.WalkLawsBesides
import Derived.IntWalk
import Derived.Below
namespace Go.Proofs.YtccahlhdifadfaaGreatDoor
noncomputable section
open Go.RowKit
open _root_.Go.Obj renaming cells->eT
open _root_.Or renaming inl->eR,inr->eS
open _root_.Go.IntKind renaming i64->eQ
open _root_.Go.Ending renaming returned->ZY
open _root_.And renaming intro->Wo
open _root_.Array renaming replicate_zero->YZ,replicate_succ->Y0,getElem?_eq_some_iff->ZP
open _root_.Bool renaming false->L1,true->VD
open _root_.Go renaming World->D0,Value->S2,Calls->VX,maxLen->VY,Ending->WE,wpAnyIn_done->W9,yielded->Xx,wp_region_still_tail->X2,undef->Yl
open _root_.Go.Act renaming eval->Xm,put->Xq
open _root_.Go.Code renaming wp->Yq
open _root_.Go.Fence renaming wide->Ya
open _root_.Go.IntWalk renaming i64_in->V4,wrap64_in->Xk
open _root_.Go.Region renaming ready->Ws,wanted->Wu,Mode->XP
open _root_.Go.RowKit renaming Below->VI,wrap64->Xt
open _root_.Go.RowKit.Below renaming refl->VC
open _root_.Go.Value renaming int->Wm,oneCell'->Wx,slice->WK,nilIface->ZS,string->ZV,pointer->ZW,bool->ZX,tuple->ZZ
open _root_.Go.World renaming ownsRow_nil->VW,cell?_alloc_lt->WT,drew->YC,alloc->Zn
open _root_.Iff renaming rfl->Yw
open _root_.Int renaming le_refl->WH
open _root_.List renaming getElem?_cons_zero->Ft,getElem?_eq_getElem->K0,getElem?_toArray->NW,mem_of_getElem?->N2,getElem?_cons_succ->O0,mem_cons_self->VB,mem_cons_of_mem->VE,flatMap_cons->VH,length_append->VJ,prefix_refl->VO,findIdx?_eq_some_iff_getElem->VP,getElem?_map->VQ,mem_singleton->VU,take_add_one->VV,getElem?_append_left->VZ,length_map->V0,getElem?_mapIdx->Wd,getElem?_append_right->Wg,range'->Wh,length_cons->Wi,flatMap_append->Wq,range->Ww,getElem_mem->Wy,map_cons->WJ,nil_append->WN,map_append->WQ,take_length->WU,foldl_append->WV,take_succ_cons->WZ,drop_succ_cons->Xj,size_toArray->Xu,prefix_append->Xy,length_nil->XB,map_congr_left->XH,mem_range'_1->XJ,map_nil->XT,length_set->XU,set_cons_succ->XY,cons_append->X0,take_zero->X3,range_succ->Ys,getElem?_set->Yu,nodup_nil->YF,drop_zero->YG,mem_or_eq_of_mem_set->Y5,append_toArray->Zb,range'_concat->Zi,push_toArray->Zr,mem_range->Zs,idxOf_append->Zt,getElem?_eq_some_iff->ZC,mem_append->ZD,mem_map->ZE
open _root_.List.Pairwise renaming filter->Yg,nil->Yv
open _root_.Nat renaming le_refl->Hi,lt_of_lt_of_le->VF,zero_le->VG,le_trans->VK,zero_add->Wk,le_succ->WX,lt_or_ge->Xd,lt_succ_self->Y1
open _root_.Option renaming some->Bs,none->B0,map_some->WA,getD->Xl,ne_none_iff_exists'->ZJ,isSome_iff_exists->ZQ
open _root_.Option.some renaming injEq->VN
variable {M:Act}{f:Array S2}{x':Bv}{Q:Exit->Act->D0->Prop}{Bd U tx:Int}{v:LW}{b g i j n s:Nat}{S:Nat->Prop}{v':Pa}{p:Pr}{x:Sx}{e:TypeId}{V V' s0 s1 s5:S2}{W w w':D0}
set_option linter.all false
set_option maxRecDepth 100000
set_option maxHeartbeats 16000000
def lkV(P:Av)(id:Int)(k:Sx)(b:Int):S2:=if b=0 then ZZ #[pw (P.gt id.toNat),pw (P.gs (Aa k)),ZS]else ZZ #[ZW B0,ZW B0,.iface 79 (Wm eQ b)]
def LkP(P:Av)(own:Ah)(id:Int)(k:Sx)(w:D0)(r:Int×Hs)(e:WE)(w':D0):Prop:=e=ZY (lkV P id k r.1)/\Cf P own r.2 w w'
def Hl(P:Av)(own:Ah)(i s:Nat)(w:D0)(r:Int×Hs)(e:WE)(w':D0):Prop:=e=ZY (if r.1=0 then ZZ #[pw (P.gt i),pw (P.gs s),ZS]else ZZ #[ZW B0,ZW B0,.iface 79 (Wm eQ r.1)])/\Cf P own r.2 w w'
def Hl.no{P:Av}{own:Ah}{r:Int×Hs}{b:Int}{H2:Hs}(h:r=(b,H2))(d:b≠0)(c:Cf P own H2 w w'):Hl P own i s w r (ZY (ZZ #[ZW B0,ZW B0,.iface 79 (Wm eQ b)])) w':=by subst h;exact⟨by rw[Z7 d],c⟩
def Hl.yes{P:Av}{own:Ah}{r:Int×Hs}{H2:Hs}(h:r=(0,H2))(b:Cf P own H2 w w'):Hl P own i s w r (ZY (ZZ #[ZW (Bs ⟨P.gt i,0,B0⟩),ZW (Bs ⟨P.gs s,0,B0⟩),ZS])) w':=by subst h;exact⟨by rw[Z8 rfl];rfl,b⟩
def Hl.dQ{P:Av}{own:Ah}{r:Int×Hs}{e:WE}{k:Sx}(h:Hl P own i s w r e w')(b:Aa k=s):LkP P own i k w r e w':=by subst b;exact h
variable {own own':Ah}{P:Av}{H:Hs}
def Ja{Z:Tg->Prop}{t:TypeId}(c:HZ Z w own w' own')(e:Ae w b t f)(d:own b=B0):Ae w' b t f/\own' b=B0:=
 ⟨c.fr.al e (λhs=>hs.bR d),(c.ext b e.lt).trans d⟩
def QM{f:Int->Option Int}(h:Ab BP w b n (Dl f)){o:Int}(d:FB o):(Instr.lookup 61 (.map (Bs b)) (Wm eQ o) VD).run Tryz.prog w=.ok (ZZ #[Wm eQ ((f o).getD 0),ZX (f o).isSome]) w:=by
 have c:(zeroValue 3).run Tryz.prog w=.ok (Wm eQ 0) w:=by kernel_rfl
 have:=(h.cn Tryz.underlying61 c (x:=o) d).1;rw[show BP.val o=Wm eQ o from rfl]at this;rw[this];unfold Dl;cases f o<;>rfl
def EB(P:Av)(own:Ah)(H:Hs)(l:List Int)(w:D0)(v:S2)(wr:D0):Prop:=∃q:Nat,v=Wm eQ q/\q<=l.length/\Cf P own (woundd H (l.take q)) w wr
def qb0{T T':Tb}{mode e:Int}{ok:Bool}{l:List Int}(h:DM T ⟨tx,x,mode⟩ ok l e T')(j:Bt mode)(f:x.length<=20) :
  (CF (Ad T x).ws tx=VD/\ok=L1/\l=[]/\e=9)\/(CF (Ad T x).ws tx=L1/\Ai (Ad T x).h tx mode (Ad T x).ws=VD/\ok=VD/\l=[]/\e=0)\/
  (CF (Ad T x).ws tx=L1/\Ai (Ad T x).h tx mode (Ad T x).ws=L1/\(Ad T x).ws.length=50/\ok=L1/\l=[]/\e=4)\/
  (CF (Ad T x).ws tx=L1/\Ai (Ad T x).h tx mode (Ad T x).ws=L1/\(Ad T x).ws.length≠50/\ok=L1/\e=0/\IZ (Ad T x).h tx mode l):=by
 cases h with
 |arg h=>exact ZB j h
 |long _ h=>exact ZB f (Z6 h)
 |twice _ _ b=>exact eR ⟨b,rfl,rfl,rfl⟩
 |got _ _ b d=>exact eS (eR ⟨b,d,rfl,rfl,rfl⟩)
 |full _ _ b d c=>exact eS (eS (eR ⟨b,d,c,rfl,rfl,rfl⟩))
 |waits _ _ b d c hl=>exact eS (eS (eS ⟨b,d,c,rfl,rfl,hl⟩))
def q9s(h:Int->Option Int)(tx mode:Int):(EG h tx mode).length<=61:=by unfold EG;exact VK (List.length_filter_le _ _) Z3
def Oa:(Tryz.prog.info? 129).map (λi=>(i.zero,i.size,i.bytes))=Bs (Bs (.agg #[ZV ⟨#[]⟩,Wm eQ 0]),2,24):=by kernel_rfl
def HI.dC(h:HI w own P H)(j:CL w own i (P.gt i) v (H.tx i)){k:Sx}{mode:Int}(u:Am w w' v.Vx.ownBlock V'.ownBlock)
  (z:w'.ownsRow 0 129 2 V' ((H.tx i).ak.length+1) ((H.tx i).ak.flatMap EF++EF (k,mode))):∃own',HI (w'.setCell ⟨P.gt i,8,B0⟩ V') own' P (H.bq i k mode)/\AC w own (w'.setCell ⟨P.gt i,8,B0⟩ V') own'/\∃v',CL (w'.setCell ⟨P.gt i,8,B0⟩ V') own' i (P.gt i) v' ((H.bq i k mode).tx i):=by
 have x:Fr (λb=>v.Vx.ownBlock=Bs b\/w.heap.size<=b) w w':=u.1.mono (λb _ e=>eR e.symm);have y:Ext own (Ej own w.heap.size (λb=>V'.ownBlock=Bs b) (.tx i)) w.heap.size:=SV;have s:w'.ownsRow 0 129 2 V' ((H.tx i).ak++[(k,mode)]).length (((H.tx i).ak++[(k,mode)]).flatMap EF):=by
  rw[VJ,Wq];simpa using z
 have A:∀b,V'.ownBlock=Bs b->Ej own w.heap.size (λb=>V'.ownBlock=Bs b) (.tx i) b=Bs (.tx i):=λb d=>SS (by
  obtain e|⟨D,e,hl⟩:=u.2;exact eR (j.xt b (by rw[<- e];exact d));rw[e]at d;injection d with d;exact eS Z0) d
 have f:=j.cX y x s A;have c:Fr (OS own (λt=>t=.tx i)) w (w'.setCell ⟨P.gt i,8,B0⟩ V'):=
  (u.1.mono (T:=OS own (λt=>t=.tx i)) (λb _ e=>⟨_,j.xt b e.symm,rfl⟩)).setCell (p:=⟨P.gt i,8,B0⟩) (.inl ⟨_,j.gt,rfl⟩) _
 have hI:=h.setTx' (t':={H.tx i with ak:=(H.tx i).ak++[(k,mode)]}) c y (SR c.size (λb d=>VF (z.lt b d).2 (Fr.aL (P.gt i) w' 8 V').size)) ⟨{v with Vx:=V'},f⟩;refine⟨_,hI,⟨y,Ii c (λ_=>DH),(by first|exact RC Z3|exact λ_ _ h=>h)⟩,{v with Vx:=V'},?_⟩;rw[show(H.bq i k mode).tx i = {H.tx i with ak:=(H.tx i).ak++[(k,mode)]}from UT _ _ _];exact f
def Kv(h:HI w own P H)(wf:Wf H)(cq:EN own)(hc:H.c=3)(id:Int)(k:Sx)(hk:k∈names)(mode:Int)(hm:Bt mode):VX Tryz.prog 35 #[pw P.g,Wm eQ id,ZV ⟨k.toArray⟩,Wm eQ mode] w (LkP P own id k w (H.aJ id k mode)):=by
 have b7:=Ex hk;have cO:(⟨k.toArray⟩:ByteArray).size=k.length:=by simp[ByteArray.size]
 have bJ:VI w.heap.size w (w.alloc (eT #[ZV ⟨k.toArray⟩] 9)):=(VC w.heap.size w).alloc (Hi _) _;have bK:Ae (w.alloc (eT #[ZV ⟨k.toArray⟩] 9)) w.heap.size 9 #[ZV ⟨k.toArray⟩]:=Ae.b4 w _ _;have aP:=LH (h.below bJ);have bL:=LH (HZ.below (Z:=BZ) own bJ);have cC:=LH bK;have b5:=LH (show own w.heap.size=B0 from h.free (Hi _));have HF:=LH (q5k (h.below bJ) (Z4 wf.cr) id);have cw:=bK.cell 0;have cH:=bK.lt;simp only[NW,Ft,O0]at cw;have aM:=LH wf;clear h bJ bK wf;unfold pw at *;go_enter Tryz.func35,Tryz.ntmps35;go_upto_region 1 with (fail)
 generalize (w.alloc _)=w1 at *;generalize w.heap.size=kb at *;by_cases hb:id<1\/H.m<id
 ·have D:=LH (show LkP P own id k w (H.aJ id k mode) (ZY (ZZ #[ZW B0,ZW B0,.iface 79 (Wm eQ 7)])) w1 from by rw[q1l hb];exact⟨rfl,own,aP.o,bL.o⟩);rw[q84 hb]at HF;clear hb;go_wp2_with fail;refine HF.o.mono ?_;rintro e w2 ⟨rfl,rfl⟩;go_wp2_with fail;go_ret3;exact D.o
 obtain⟨i,rfl⟩:∃i:Nat,id=i:=⟨id.toNat,Z0⟩
 have h1:1<=i:=by omega
 have hi:i<=H.m:=by omega
 rw[q62 h1 hi]at HF;unfold pw at HF;obtain⟨v,hv⟩:=aP.o.tx i h1 hi;have HV:=LH hv;obtain⟨_,k1,_,k3,_,_,k8,gl⟩:=hv.cells;clear hv hb;by_cases s1:(H.tx i).aa=1
 ·rw[s1]at k1;have ch:=LH (λh5=>q4z (mode:=mode) h1 hi s1 b7 h5);have bB:=LH (λh5 h6=>q41 (mode:=mode) h1 hi s1 b7 h5 h6);have bP:=LH (λh5 h6 h7=>q3z (mode:=mode) h1 hi s1 b7 h5 h6 h7);have bO:=LH (λh5 h6 h7=>q78 (mode:=mode) h1 hi s1 b7 h5 h6 h7);have cz:=LH (Gm aP.o hc ⟨k.toArray⟩ Z0);rw[DG]at cz;have cp:=FJ k;have cA:=LH (q83 aP.o aM.o (s:=Aa k) Z0);have bN:=LH (λh=>q2z (H:=H.aA i (Aa k)) (i:=i) (k:=k) (mode:=mode) h);have bQ:=LH (λh h2=>q3d (H:=H.aA i (Aa k)) (i:=i) (k:=k) (mode:=mode) h h2);have bR:=LH (λh h2 h3=>q3e (H:=H.aA i (Aa k)) (i:=i) (k:=k) (mode:=mode) h h2 h3);have bM:=LH (λh h2 h3=>q2k (H:=H.aA i (Aa k)) (i:=i) (k:=k) (mode:=mode) h h2 h3);unfold pw at *;clear s1;generalize H.aJ i k mode=cN at *;generalize ct:Aa k=s at *;have a6:=LH ct;clear ct;obtain⟨vh,bX⟩:=aP.o.hs;obtain⟨_,c3,_,_,gg⟩:=bX.cells;obtain⟨r3,q3,cy,cP,cv⟩:=bX.dh (s:=s) Z0;rw[cy,hc]at c3;unfold pw at cv;clear bX cy;go_wp2_with fail;refine HF.o.mono ?_;rintro e w2 ⟨rfl,rfl⟩;go_wp2_with fail;refine cz.o.mono ?_;rintro e w1 ⟨rfl,rfl⟩;go_wp2_with fail;refine cA.o.mono ?_;rintro e w2 ⟨rfl,c6⟩;have bW:AC w1 own w2 own:=HZ.below own c6;have au:=LH (aP.o.below c6);have b8:=LH (bL.o.trans bW);have cu:=Ja bW cC.o b5.o;have bS:=LH cu.1;clear c6 bW cu c3 cv gg k1 k3 k8 gl cw cH aP bL cC cA HV;rcases bI:H.head s with _|j
  ·have cs:=ch.o bI;have D:=LH (Hl.no (i:=i) (s:=s) cs Z2 ⟨own,au.o,b8.o⟩);clear bI cs;unfold Dw;go_wp2_with fail;go_ret3;exact D.o.dQ a6.o
  have bz:=LH (show H.head s≠B0 by rw[bI];simp);obtain⟨vt,bH⟩:=au.o.tx i h1 hi;have HV:=LH bH;obtain⟨_,k1,_,k3,_,_,k8,gl⟩:=bH.cells;obtain⟨vs,cn⟩:=au.o.sh s Z0;obtain⟨_,_,m2,_,_,sl⟩:=cn.cells;have a3:=QM bH.af (o:=(s:Int)) (Gu Z0 Z0);clear bI bH cn;unfold Dw pw;cases ax:(H.tx i).af s with
  |none=>
   have bx:=LH (show ¬Rs H i s from λ⟨e,h,_⟩=>by rw[ax]at h;cases h);rw[ax]at a3;clear ax;go_upto_region 16 with (fail)
   clear a3 k1 k8;have bA:=LH (HV.o.af.fr ((Fr.refl (λ_=>False) w2).drew) (λh=>h));have bV:w2.drew.cell? ⟨P.gt i,3,B0⟩=Bs (.map (Bs vt.bs)):=k3;have bU:w2.drew.cell? ⟨P.gs s,2,B0⟩=Bs (Wm eQ (H.sh s).ad):=m2;have cb:P.gt i<w2.drew.heap.size:=gl;have bT:P.gs s<w2.drew.heap.size:=sl;clear k3 m2 gl sl;refine X2 9 Z1 Z1 ?_;change wpStill _ _ (YC _) _ _ _;simp only[WZ,X3,Xj,YG]
   repeat still_step
   refine wpStill_nil ?_;refine U1 (C:=BP) rfl 61 3 Tryz.underlying61 (.tmp 80) (.tmp 81) (.tmp 85) rfl (by simp[Xm]) bA.o Zx (s:Int) (Wm eQ (H.sh s).ad) (by simp[Xm];rfl) (by simp[Xm]) (Gu Z0 Z0) ?_;intro w3 aT bh;have aj:Fr (λb=>b=vt.bs) w2 w3:=((Fr.refl _ w2).drew).trans bh;rw[qdw]at aT;have aI:Ab BP w3 vt.bs 100 (Dl (AS (H.tx i).af s (H.sh s).ad)):=by
    refine(aT.bK DR (λa _ ha=>?_)).mono (show DR.length<=100 from by rw[q3y];decide);unfold Dl at ha;cases e:AS (H.tx i).af s (H.sh s).ad a with
    |none=>rw[e]at ha;exact ZB rfl ha
    |some q=>
     unfold AS at e;split at e;exact RA Z0 Z0;have:=((aM.o.tx i h1 hi).sh a q e).1;exact RA Z0 Z0
   have a7:=HV.o.dr aj aI;have az:Fr (OS own (λt=>t=.tx i)) w2 w3:=aj.mono (λb _ e=>⟨_,by rw[e];exact HV.o.st.resolve_right (cq _ _),rfl⟩);have aL:HI w3 own P (H.aA i s):=au.o.setTx' az (Ext.refl own _) (λb hb=>VF (au.o.lt b hb) az.size) ⟨_,a7⟩;have aS:AC w2 own w3 own:=⟨Ext.refl own _,Ii az (λ_=>DH),λ_ _ h=>h⟩
   have aY:=aM.o.aA h1 hi cp;have a5:=Ja aS bS.o b5.o;have al:=a5.1.cell 0;have bi:=a5.1.lt;simp only[NW,Ft]at al;have aE:FD {H.tx i with af:=AS (H.tx i).af s (H.sh s).ad}:=by
    have:=aY.tx i h1 hi;unfold Hs.aA at this;rw[UT]at this;exact this
   have O:=qby a7 aE k al;obtain⟨_,n1,_,_,_,_,n8,nl⟩:=a7.cells;obtain⟨A8,c8,bm,_,_⟩:=AM a7.ak;rw[bm]at n8 O;have aC:=LH O;have b6:=LH aL;have b0:=LH (b8.o.trans aS);have bG:=LH a5.1;have aD:=LH aY;have cf:=LH a7;clear O aL aS a5 aY aE a7 az aI aT aj bh bV bU cb bT bA bm;go_wp2_with fail;refine aC.o.mono ?_;rintro e w4 ⟨rfl,X⟩;cases y:Cp (H.tx i).ak k with
   |true=>
    have D:=LH (Hl.no (i:=i) (s:=s) (bP.o bz.o bx.o y) Z2 ⟨own,b6.o.below X,b0.o.trans (HZ.below own X)⟩);clear y X;go_wp2_with fail;go_ret3;exact D.o.dQ a6.o
   |false=>
    have bD:=LH (b6.o.below X);have bu:=LH (b0.o.trans (HZ.below own X));have a4:=Ja (HZ.below (Z:=BZ) own X) bG.o b5.o;have bF:=LH a4.1;have a3:=qb6 (bD.o.below (VC w4.heap.size w4).drew) (show s<(H.aA i s).c from by show s<H.c;omega) i mode ⟨k.toArray⟩ (Z4 aM.o.cr) (by rw[DG];exact hk) hm (aD.o.tab s (by show s<H.c;omega));rw[DG]at a3;have aO:=LH a3;have aq:=LH (bO.o bz.o bx.o y);have cd:=LH y;have d:=Wo ((show Ae w4.drew _ _ _ from a4.1).cell 0) (show kb<w4.drew.heap.size from a4.1.lt);simp only[NW,Ft]at d;clear a3 y a4 X al bi n8 bG b6 aC;go_upto_region 19 with (fail)
    clear n1 nl;refine nW ?_;refine CR (λW=>W.cell? ⟨kb,0,B0⟩=Bs (ZV ⟨k.toArray⟩)/\kb<W.heap.size) 14 (λ_ _ _ _ _ h=>h) (λf=>?_);refine nD 0 [1,2,6,7,8,9,10,11,12,13] f d ?_;refine nD 1 [2,6,7,8,9,10,11,12,13] f d ?_;refine nD 2 [6,7,8,9,10,11,12,13] f d ?_;refine nD 3 [6,7,8,9,10,11,12,13] f d ?_;refine nA 4 [6,7,8,9,10,11,12,13] rfl rfl f d (λw' ae=>by obtain⟨p0,pl⟩:=ae;go_simp;rfl) ?_;refine nD 5 [6,7,8,9,10,11,12,13] f d ?_;clear d;refine nG 6 (λI x=>?_);go_simp;refine aO.o.mono ?_;rintro e w5 ⟨ok,l,er,A,c,J,rfl,hP,bp,bl,aH,br⟩;have aR:AC w4 own w5 J:=(HZ.below own (VC w4.heap.size w4).drew).trans (bl.mono (λ_=>Ge));have M:=Ja aR bF.o b5.o;have d:=Wo (M.1.cell 0) M.1.lt;simp only[NW,Ft]at d;have ar:=LH M.1;have b4:=LH M.2;have ac:=LH (show HI w5 J P ((H.aA i s).b7 i s k mode)from bp);have an:=LH (bu.o.trans aR);have HP:=LH hP;have b3:=LH aH;have HA:=LH br;clear aR M bp bl hP aH br aO bD bu bF;go_simp;refine x _ _ (λ_=>d) ?_;clear x I;refine nG 7 (λI x=>?_);go_simp;refine x _ _ (λ_=>d) ?_;clear x I;refine nD 8 [11,12,13] f d ?_;refine nD 9 [12,13] f d ?_;refine nD 10 [13] f d ?_;refine nG 11 (λI x=>?_);go_simp;refine x _ _ (λ_=>d) ?_;clear x I;refine nG 12 (λI x=>?_);go_simp;refine x _ _ (λ_=>d) ?_;clear x I;refine nG 13 (λI x=>?_);go_simp;refine x _ _ (λ_=>d) ?_;clear x I;refine nX ?_;clear f;obtain⟨q1,rfl,rfl,rfl⟩|⟨q1,q2,rfl,rfl,rfl⟩|⟨q1,q2,q3,rfl,rfl,rfl⟩|⟨q1,q2,q3,rfl,rfl,bb⟩:=qb0 HP.o hm b7
    ·have D:=LH (Hl.no (i:=i) (s:=s) (aq.o.trans (bN.o q1)) Z2 ⟨J,ac.o,an.o⟩);rw[show C0 9=.iface 79 (Wm eQ 9)from rfl];clear q1 d;go_wp2_with fail;go_ret3;exact D.o.dQ a6.o
    ·have D:=LH (Hl.yes (i:=i) (s:=s) (aq.o.trans (bQ.o q1 q2)) ⟨J,ac.o,an.o⟩);rw[show C0 0=ZS from rfl];clear q1 q2 d;go_wp2_with fail;go_ret3;exact D.o.dQ a6.o
    ·have D:=LH (Hl.no (i:=i) (s:=s) (aq.o.trans (bR.o q1 q2 q3)) Z2 ⟨J,ac.o,an.o⟩);rw[show C0 4=.iface 79 (Wm eQ 4)from rfl];clear q1 q2 q3 d;go_wp2_with fail;go_ret3;exact D.o.dQ a6.o
    have bC:=LH (aq.o.trans (bM.o q1 q2 q3));have c1:=FR (λo m ho=>((aD.o.tab s (by show s<H.c;omega)).aN k).dD o m ho) bb;subst c1;rw[show C0 0=ZS from rfl];clear q1 q2 q3 d bb;have aB:=aD.o.b7 (mode:=mode) h1 (show i<=(H.aA i s).m from hi) (show s<(H.aA i s).c by show s<H.c;omega) hk;have aF:Cp (((H.aA i s).b7 i s k mode).tx i).ak k=L1:=by
     show Cp ((H.aA i s).tx i).ak k=L1;unfold Hs.aA;rw[UT];exact cd.o
    have c5:((H.aA i s).b7 i s k mode).c=3:=hc;have c0:((H.aA i s).b7 i s k mode).m=H.m:=rfl;have be:=λo (ho:o∈EG (Ad ((H.aA i s).sh s).tab k).h (i:Int) mode)=>q9r ho
    have cG:=q9s (Ad ((H.aA i s).sh s).tab k).h (i:Int) mode;generalize EG (Ad ((H.aA i s).sh s).tab k).h (i:Int) mode=l at *;clear bN bQ bR bM aq HP ch bB bP bO aD cf b8 b0 au bS;generalize (H.aA i s).b7 i s k mode=H5 at *;have cJ:=LH aB;have bv:=LH (aB.bq (mode:=mode) h1 (show i<=H5.m by omega) hk aF);have cK:=LH be;obtain⟨v5,ag⟩:=ac.o.tx i h1 Z0;have ao:=LH ag;have cm:=(aB.tx i h1 Z0).cC;obtain⟨_,_,_,_,_,_,n8,nl⟩:=ag.cells;obtain⟨A9,c9,aZ,_,_⟩:=AM ag.ak;have S:=ag.ak;rw[aZ]at n8 S;have ap:=LH S;have b1:=LH aZ;clear ag aZ S aB aF be;go_upto_region 23 with (fail)
    refine nW ?_;refine CR (λW=>W.cell? ⟨P.gt i,8,B0⟩=Bs (WK A9 (H5.tx i).ak.length c9)/\W.cell? ⟨kb,0,B0⟩=Bs (ZV ⟨k.toArray⟩)) 10 (λ_ _ _ _ _ h=>h) (λf=>?_);have d:w5.drew.cell? ⟨P.gt i,8,B0⟩=Bs (WK A9 (H5.tx i).ak.length c9)/\w5.drew.cell? ⟨kb,0,B0⟩=Bs (ZV ⟨k.toArray⟩):=⟨n8,(show Ae w5.drew _ _ _ from ar.o).cell 0⟩
    refine nD 0 [10,11,12] f d ?_;refine nD 1 [2,3,4,9,10,11,12] f d ?_;refine nD 2 [3,4,9,10,11,12] f d ?_;refine nD 3 [4,9,10,11,12] f d ?_;refine nA 4 [9,10,11,12] rfl rfl f d (λw' ae=>by obtain⟨p0,p1⟩:=ae;go_simp;rfl) ?_;refine nA 5 [7,8,9,10,11,12] rfl rfl f d (λw' ae=>by obtain⟨p0,p1⟩:=ae;go_simp;rfl) ?_;refine nD 6 [7,8,9,10,11,12] f d ?_;refine nD 7 [8,9,10,11,12] f d ?_;have U:∀o q p,q<w5.heap.size->(w5.alloc o).cell? ⟨q,p,B0⟩=w5.cell? ⟨q,p,B0⟩:=λo q p hq=>WT w5 o ⟨q,p,B0⟩ hq
    refine nG 8 (λI x=>?_);go_simp;refine x _ _ (λ_=>⟨(U _ _ _ nl).trans d.1,(U _ _ _ ar.o.lt).trans d.2⟩) ?_;clear x I d U;refine nG 9 (λI x=>?_);refine SX w5.drew w5.heap.size rfl _ (.tmp 113) (.tmp 117) 76 rfl 0 129 _ 2 24 Tryz.underlying76 Oa rfl Z2 _ _ _ #[ZV ⟨k.toArray⟩,Wm eQ mode] rfl ap.o 1 rfl _ rfl rfl (by simp[Wx]) Zx Z0 (VG _) ?_;intro V2 w6 R z;have a2:Am w5 w6 v5.Vx.ownBlock V2.ownBlock:=by rw[b1.o];exact⟨⟨z.1.os,z.1.tape,z.1.output,z.1.size,z.1.block⟩,z.2⟩
    obtain⟨E,bo,bk,v7,bY⟩:=ac.o.dC (i:=i) (k:=k) (mode:=mode) ao.o a2 R;have bg:¬Bs (P.gt i)=v5.Vx.ownBlock:=λe=>ao.o.bC.2.1 e.symm
    have ba:¬Bs kb=v5.Vx.ownBlock:=λe=>by have:=ao.o.xt kb e.symm;rw[b4.o]at this;cases this
    have ai:=a2.1.al ao.o.al bg;have bf:=a2.1.al ar.o ba;have y1:=ai.frozen 8;have yl:=ai.lt;have y0:∃u,w6.cell? ⟨P.gt i,8,B0⟩=Bs u:=by
     have:=ai.cell 8;unfold P8 at this;simp only[NW,Ft,O0]at this;exact⟨_,this⟩
    obtain⟨u0,y0⟩:=y0;have bq:w6.cell? ⟨P.gt i,8,B0⟩=Bs (WK A9 (H5.tx i).ak.length c9)/\w6.cell? ⟨kb,0,B0⟩=Bs (ZV ⟨k.toArray⟩):=⟨by
     have:=ai.cell 8;unfold P8 at this;simp only[NW,Ft,O0]at this;rw[this,b1.o],bf.cell 0⟩
    have bE:=LH bq;have ci:=LH bo;have aa:=LH bk;obtain⟨A7,c7,ca,_,_⟩:=AM R;subst ca;clear z a2 bg ba ai bf bq bo bk bY R v7;go_simp;refine x _ _ (λ_=>bE.o) ?_;clear x I;refine nG 10 (λI x=>?_);go_simp;refine x _ _ nZ ?_;clear x I;refine nG 11 (λI x=>?_);go_simp;refine x _ _ nZ ?_;clear x I;refine nG 12 (λI x=>?_);go_simp;refine x _ _ nZ ?_;clear x I;refine nX ?_;clear f y0 y1 yl bE n8 nl;generalize (w6.setCell _ _)=w7 at *;have ah:=Ja aa.o ar.o b4.o;have cj:=LH ah.1;have cg:=LH ah.2;have aG:Rd w7 w5.heap.size 1 A l.length (l.map (Wm eQ)):=b3.o.fr aa.o.fr (Hi _) (λg av e h0 hs=>hs.bR (HA.o g av e h0));have bw:=LH aG;have ck:=LH (λb o (e:A=Bs ⟨b,o,B0⟩) (h0:0<l.length)=>((aa.o.ext b (by
     obtain⟨g,av,u,e2,hg,_⟩:=b3.o.dg (k:=0) h0;rw[e]at e2;injection e2 with e2;injection e2 with e2;omega)).trans (HA.o b o e h0):E b=B0))
    have bt:=LH (an.o.trans aa.o);have aX:(H5.bq i k mode).c=3:=c5;have z:(H5.bq i k mode).m=H.m:=c0;have aN:=LH (show w5.heap.size<=w7.heap.size from aa.o.fr.size);clear ah aG aa an ac ar b4 b3 HA ao b1 ap;generalize H5.bq i k mode=H6 at *;go_wp2_with fail;go_loopw [123] (EB P E H6 l w7) (λv _=>l.length-(intOf v).toNat)
    case atStart=>exact⟨0,rfl,VG _,E,ci.o,HZ.refl _ _ _⟩
    obtain⟨q,rfl,hq,a1,a0,Y⟩:=hrel;by_cases cF:(q:Int)<l.length
    ·obtain⟨r,o,u,hA,hr,hu,c2⟩:=(bw.o.fr Y.fr aN.o (λg av e h0 hs=>hs.bR (ck.o g av e h0))).dg (k:=q) Z0;have hx:l[q]? = Bs l[q]:=K0 Z0;rw[VQ,hx]at hu;simp only[WA,VN]at hu;subst hu hA;have cD:r<wr.heap.size:=VF hr (VK aN.o Y.fr.size);have b2:=LH (q9t (H:=H6) hx);have a8:=q4q (l.take q) H6;have a9:=bv.o.bD (l.take q) aX;have c4:(woundd H6 (l.take q)).c=3:=a8.c.trans aX;have bZ:(woundd H6 (l.take q)).m=H.m:=a8.m.trans z;clear a8 hx;generalize l[q]=oo at *;generalize woundd H6 (l.take q)=H8 at *;have ad:=LH (q5k a0 (Z4 a9.cr) oo);have ab:=LH a0;have am:=LH Y;have ce:=LH a9;clear a0 Y a9;by_cases aW:oo<1\/(H8.m:Int)<oo
     ·rw[q84 aW]at ad;have K:H8.bc oo=H8:=by unfold Hs.bc;rw[Z7 (by rintro ⟨a,b,_⟩;omega)]
      have D:=LH (show EB P E H6 l w7 (Wm eQ ((q+1:Nat):Int)) wr from⟨q+1,rfl,Z0,a1,by rw[b2.o,K];exact ab.o,am.o⟩);clear aW K;go_wp2_with fail;refine ad.o.mono ?_;rintro e w9 ⟨rfl,rfl⟩;go_wp2_with fail;go_roundw;exact D.o;simp[intOf];omega
     obtain⟨j,rfl⟩:∃j:Nat,oo=j:=⟨oo.toNat,Z0⟩
     have aV:1<=j:=by omega
     have aU:j<=H8.m:=by omega
     rw[q62 aV aU]at ad;unfold pw at ad;obtain⟨vj,bc⟩:=ab.o.tx j aV aU;obtain⟨_,j1,_,_,_,_,_,jl⟩:=bc.cells;clear aW bc;by_cases sj:(H8.tx j).aa=1
     ·have K:H8.bc j=H8.a3 j:=by unfold Hs.bc;rw[Z8 ⟨Z0,Z0,sj⟩];rfl
      have aQ:=LH (q4g ab.o ce.o c4 aV aU);have cc:=LH K;rw[sj]at j1;unfold pw at aQ;clear K sj;go_wp2_with fail;refine ad.o.mono ?_;rintro e w9 ⟨rfl,rfl⟩;go_wp2_with fail;refine aQ.o.mono ?_;rintro e w9 ⟨rfl,b9,bn,bj⟩;have D:=LH (show EB P E H6 l w7 (Wm eQ ((q+1:Nat):Int)) w9 from⟨q+1,rfl,Z0,b9,by rw[b2.o,cc.o];exact bn,am.o.trans bj⟩);clear bn bj j1 jl c2;go_wp2_with fail;go_roundw;exact D.o;simp[intOf];omega
     have K:H8.bc j=H8:=by unfold Hs.bc;rw[Z7 (by rintro ⟨_,_,a⟩;exact sj a)]
     have D:=LH (show EB P E H6 l w7 (Wm eQ ((q+1:Nat):Int)) wr from⟨q+1,rfl,Z0,a1,by rw[b2.o,K];exact ab.o,am.o⟩);have e1:((H8.tx j).aa == 1)=L1:=Z6 sj;clear K sj;go_wp2_with fail;refine ad.o.mono ?_;rintro e w9 ⟨rfl,rfl⟩;go_wp2_with fail;go_roundw;exact D.o;simp[intOf];omega
    obtain rfl:q=l.length:=by omega
    rw[WU]at a0;have a8:=q4q l H6;have a9:=bv.o.bD l aX;have bZ:(woundd H6 l).m=H.m:=a8.m.trans z;obtain⟨v8,aw⟩:=a0.tx i h1 Z0;have aJ:=Ja Y cj.o cg.o;have ak:=aJ.1.cell 0;simp only[NW,Ft]at ak;have O:=qbx aw (a9.tx i h1 Z0) k ak;obtain⟨_,_,_,_,_,_,n8,nl⟩:=aw.cells;obtain⟨cM,cI,aK,_,_⟩:=AM aw.ak;rw[aK]at n8 O;have aC:=LH O;have ab:=LH a0;have am:=LH (bt.o.trans Y);clear O aJ ak aw aK a9 a8 a0 Y;generalize woundd H6 l=H8 at *;go_wp2_with fail;refine aC.o.mono ?_;rintro e w9 ⟨rfl,aA⟩;have ay:Cf P own H8 w w9:=⟨a1,ab.o.below aA,am.o.trans (HZ.below a1 aA)⟩
    have G:=bC.o;cases y:Cp (H8.tx i).ak k with
    |true=>
     rw[y,Z8 rfl]at G;have D:=LH (Hl.no (i:=i) (s:=s) G Z2 ay);clear y aA ay G n8;go_wp2_with fail;go_ret3;exact D.o.dQ a6.o
    |false=>
     rw[y,Z7 Z2]at G;have D:=LH (Hl.yes (i:=i) (s:=s) G ay);clear y aA ay G n8;go_wp2_with fail;go_ret3;exact D.o.dQ a6.o
  |some ee=>
   by_cases he:ee=(H.sh s).ad
   ·have bx:=LH (show ¬Rs H i s from λ⟨e,h,h2⟩=>by rw[ax]at h;injection h with h;exact h2 (h▸he));rw[ax]at a3;have d1:(ee != (H.sh s).ad)=L1:=Z6 he;clear ax he;go_upto_region 16 with (fail)
    clear a3 k1 k8;have bA:=LH (HV.o.af.fr ((Fr.refl (λ_=>False) w2).drew) (λh=>h));have bV:w2.drew.cell? ⟨P.gt i,3,B0⟩=Bs (.map (Bs vt.bs)):=k3;have bU:w2.drew.cell? ⟨P.gs s,2,B0⟩=Bs (Wm eQ (H.sh s).ad):=m2;have cb:P.gt i<w2.drew.heap.size:=gl;have bT:P.gs s<w2.drew.heap.size:=sl;clear k3 m2 gl sl;refine X2 9 Z1 Z1 ?_;change wpStill _ _ (YC _) _ _ _;simp only[WZ,X3,Xj,YG]
    repeat still_step
    refine wpStill_nil ?_;refine U1 (C:=BP) rfl 61 3 Tryz.underlying61 (.tmp 80) (.tmp 81) (.tmp 85) rfl (by simp[Xm]) bA.o Zx (s:Int) (Wm eQ (H.sh s).ad) (by simp[Xm];rfl) (by simp[Xm]) (Gu Z0 Z0) ?_;intro w3 aT bh;have aj:Fr (λb=>b=vt.bs) w2 w3:=((Fr.refl _ w2).drew).trans bh;rw[qdw]at aT;have aI:Ab BP w3 vt.bs 100 (Dl (AS (H.tx i).af s (H.sh s).ad)):=by
     refine(aT.bK DR (λa _ ha=>?_)).mono (show DR.length<=100 from by rw[q3y];decide);unfold Dl at ha;cases e:AS (H.tx i).af s (H.sh s).ad a with
     |none=>rw[e]at ha;exact ZB rfl ha
     |some q=>
      unfold AS at e;split at e;exact RA Z0 Z0;have:=((aM.o.tx i h1 hi).sh a q e).1;exact RA Z0 Z0
    have a7:=HV.o.dr aj aI;have az:Fr (OS own (λt=>t=.tx i)) w2 w3:=aj.mono (λb _ e=>⟨_,by rw[e];exact HV.o.st.resolve_right (cq _ _),rfl⟩);have aL:HI w3 own P (H.aA i s):=au.o.setTx' az (Ext.refl own _) (λb hb=>VF (au.o.lt b hb) az.size) ⟨_,a7⟩;have aS:AC w2 own w3 own:=⟨Ext.refl own _,Ii az (λ_=>DH),λ_ _ h=>h⟩
    have aY:=aM.o.aA h1 hi cp;have a5:=Ja aS bS.o b5.o;have al:=a5.1.cell 0;have bi:=a5.1.lt;simp only[NW,Ft]at al;have aE:FD {H.tx i with af:=AS (H.tx i).af s (H.sh s).ad}:=by
     have:=aY.tx i h1 hi;unfold Hs.aA at this;rw[UT]at this;exact this
    have O:=qby a7 aE k al;obtain⟨_,n1,_,_,_,_,n8,nl⟩:=a7.cells;obtain⟨A8,c8,bm,_,_⟩:=AM a7.ak;rw[bm]at n8 O;have aC:=LH O;have b6:=LH aL;have b0:=LH (b8.o.trans aS);have bG:=LH a5.1;have aD:=LH aY;have cf:=LH a7;clear O aL aS a5 aY aE a7 az aI aT aj bh bV bU cb bT bA bm;go_wp2_with fail;refine aC.o.mono ?_;rintro e w4 ⟨rfl,X⟩;cases y:Cp (H.tx i).ak k with
    |true=>
     have D:=LH (Hl.no (i:=i) (s:=s) (bP.o bz.o bx.o y) Z2 ⟨own,b6.o.below X,b0.o.trans (HZ.below own X)⟩);clear y X;go_wp2_with fail;go_ret3;exact D.o.dQ a6.o
    |false=>
     have bD:=LH (b6.o.below X);have bu:=LH (b0.o.trans (HZ.below own X));have a4:=Ja (HZ.below (Z:=BZ) own X) bG.o b5.o;have bF:=LH a4.1;have a3:=qb6 (bD.o.below (VC w4.heap.size w4).drew) (show s<(H.aA i s).c from by show s<H.c;omega) i mode ⟨k.toArray⟩ (Z4 aM.o.cr) (by rw[DG];exact hk) hm (aD.o.tab s (by show s<H.c;omega));rw[DG]at a3;have aO:=LH a3;have aq:=LH (bO.o bz.o bx.o y);have cd:=LH y;have d:=Wo ((show Ae w4.drew _ _ _ from a4.1).cell 0) (show kb<w4.drew.heap.size from a4.1.lt);simp only[NW,Ft]at d;clear a3 y a4 X al bi n8 bG b6 aC;go_upto_region 19 with (fail)
     clear n1 nl;refine nW ?_;refine CR (λW=>W.cell? ⟨kb,0,B0⟩=Bs (ZV ⟨k.toArray⟩)/\kb<W.heap.size) 14 (λ_ _ _ _ _ h=>h) (λf=>?_);refine nD 0 [1,2,6,7,8,9,10,11,12,13] f d ?_;refine nD 1 [2,6,7,8,9,10,11,12,13] f d ?_;refine nD 2 [6,7,8,9,10,11,12,13] f d ?_;refine nD 3 [6,7,8,9,10,11,12,13] f d ?_;refine nA 4 [6,7,8,9,10,11,12,13] rfl rfl f d (λw' ae=>by obtain⟨p0,pl⟩:=ae;go_simp;rfl) ?_;refine nD 5 [6,7,8,9,10,11,12,13] f d ?_;clear d;refine nG 6 (λI x=>?_);go_simp;refine aO.o.mono ?_;rintro e w5 ⟨ok,l,er,A,c,J,rfl,hP,bp,bl,aH,br⟩;have aR:AC w4 own w5 J:=(HZ.below own (VC w4.heap.size w4).drew).trans (bl.mono (λ_=>Ge));have M:=Ja aR bF.o b5.o;have d:=Wo (M.1.cell 0) M.1.lt;simp only[NW,Ft]at d;have ar:=LH M.1;have b4:=LH M.2;have ac:=LH (show HI w5 J P ((H.aA i s).b7 i s k mode)from bp);have an:=LH (bu.o.trans aR);have HP:=LH hP;have b3:=LH aH;have HA:=LH br;clear aR M bp bl hP aH br aO bD bu bF;go_simp;refine x _ _ (λ_=>d) ?_;clear x I;refine nG 7 (λI x=>?_);go_simp;refine x _ _ (λ_=>d) ?_;clear x I;refine nD 8 [11,12,13] f d ?_;refine nD 9 [12,13] f d ?_;refine nD 10 [13] f d ?_;refine nG 11 (λI x=>?_);go_simp;refine x _ _ (λ_=>d) ?_;clear x I;refine nG 12 (λI x=>?_);go_simp;refine x _ _ (λ_=>d) ?_;clear x I;refine nG 13 (λI x=>?_);go_simp;refine x _ _ (λ_=>d) ?_;clear x I;refine nX ?_;clear f;obtain⟨q1,rfl,rfl,rfl⟩|⟨q1,q2,rfl,rfl,rfl⟩|⟨q1,q2,q3,rfl,rfl,rfl⟩|⟨q1,q2,q3,rfl,rfl,bb⟩:=qb0 HP.o hm b7
     ·have D:=LH (Hl.no (i:=i) (s:=s) (aq.o.trans (bN.o q1)) Z2 ⟨J,ac.o,an.o⟩);rw[show C0 9=.iface 79 (Wm eQ 9)from rfl];clear q1 d;go_wp2_with fail;go_ret3;exact D.o.dQ a6.o
     ·have D:=LH (Hl.yes (i:=i) (s:=s) (aq.o.trans (bQ.o q1 q2)) ⟨J,ac.o,an.o⟩);rw[show C0 0=ZS from rfl];clear q1 q2 d;go_wp2_with fail;go_ret3;exact D.o.dQ a6.o
     ·have D:=LH (Hl.no (i:=i) (s:=s) (aq.o.trans (bR.o q1 q2 q3)) Z2 ⟨J,ac.o,an.o⟩);rw[show C0 4=.iface 79 (Wm eQ 4)from rfl];clear q1 q2 q3 d;go_wp2_with fail;go_ret3;exact D.o.dQ a6.o
     have bC:=LH (aq.o.trans (bM.o q1 q2 q3));have c1:=FR (λo m ho=>((aD.o.tab s (by show s<H.c;omega)).aN k).dD o m ho) bb;subst c1;rw[show C0 0=ZS from rfl];clear q1 q2 q3 d bb;have aB:=aD.o.b7 (mode:=mode) h1 (show i<=(H.aA i s).m from hi) (show s<(H.aA i s).c by show s<H.c;omega) hk;have aF:Cp (((H.aA i s).b7 i s k mode).tx i).ak k=L1:=by
      show Cp ((H.aA i s).tx i).ak k=L1;unfold Hs.aA;rw[UT];exact cd.o
     have c5:((H.aA i s).b7 i s k mode).c=3:=hc;have c0:((H.aA i s).b7 i s k mode).m=H.m:=rfl;have be:=λo (ho:o∈EG (Ad ((H.aA i s).sh s).tab k).h (i:Int) mode)=>q9r ho
     have cG:=q9s (Ad ((H.aA i s).sh s).tab k).h (i:Int) mode;generalize EG (Ad ((H.aA i s).sh s).tab k).h (i:Int) mode=l at *;clear bN bQ bR bM aq HP ch bB bP bO aD cf b8 b0 au bS;generalize (H.aA i s).b7 i s k mode=H5 at *;have cJ:=LH aB;have bv:=LH (aB.bq (mode:=mode) h1 (show i<=H5.m by omega) hk aF);have cK:=LH be;obtain⟨v5,ag⟩:=ac.o.tx i h1 Z0;have ao:=LH ag;have cm:=(aB.tx i h1 Z0).cC;obtain⟨_,_,_,_,_,_,n8,nl⟩:=ag.cells;obtain⟨A9,c9,aZ,_,_⟩:=AM ag.ak;have S:=ag.ak;rw[aZ]at n8 S;have ap:=LH S;have b1:=LH aZ;clear ag aZ S aB aF be;go_upto_region 23 with (fail)
     refine nW ?_;refine CR (λW=>W.cell? ⟨P.gt i,8,B0⟩=Bs (WK A9 (H5.tx i).ak.length c9)/\W.cell? ⟨kb,0,B0⟩=Bs (ZV ⟨k.toArray⟩)) 10 (λ_ _ _ _ _ h=>h) (λf=>?_);have d:w5.drew.cell? ⟨P.gt i,8,B0⟩=Bs (WK A9 (H5.tx i).ak.length c9)/\w5.drew.cell? ⟨kb,0,B0⟩=Bs (ZV ⟨k.toArray⟩):=⟨n8,(show Ae w5.drew _ _ _ from ar.o).cell 0⟩
     refine nD 0 [10,11,12] f d ?_;refine nD 1 [2,3,4,9,10,11,12] f d ?_;refine nD 2 [3,4,9,10,11,12] f d ?_;refine nD 3 [4,9,10,11,12] f d ?_;refine nA 4 [9,10,11,12] rfl rfl f d (λw' ae=>by obtain⟨p0,p1⟩:=ae;go_simp;rfl) ?_;refine nA 5 [7,8,9,10,11,12] rfl rfl f d (λw' ae=>by obtain⟨p0,p1⟩:=ae;go_simp;rfl) ?_;refine nD 6 [7,8,9,10,11,12] f d ?_;refine nD 7 [8,9,10,11,12] f d ?_;have U:∀o q p,q<w5.heap.size->(w5.alloc o).cell? ⟨q,p,B0⟩=w5.cell? ⟨q,p,B0⟩:=λo q p hq=>WT w5 o ⟨q,p,B0⟩ hq
     refine nG 8 (λI x=>?_);go_simp;refine x _ _ (λ_=>⟨(U _ _ _ nl).trans d.1,(U _ _ _ ar.o.lt).trans d.2⟩) ?_;clear x I d U;refine nG 9 (λI x=>?_);refine SX w5.drew w5.heap.size rfl _ (.tmp 113) (.tmp 117) 76 rfl 0 129 _ 2 24 Tryz.underlying76 Oa rfl Z2 _ _ _ #[ZV ⟨k.toArray⟩,Wm eQ mode] rfl ap.o 1 rfl _ rfl rfl (by simp[Wx]) Zx Z0 (VG _) ?_;intro V2 w6 R z;have a2:Am w5 w6 v5.Vx.ownBlock V2.ownBlock:=by rw[b1.o];exact⟨⟨z.1.os,z.1.tape,z.1.output,z.1.size,z.1.block⟩,z.2⟩
     obtain⟨E,bo,bk,v7,bY⟩:=ac.o.dC (i:=i) (k:=k) (mode:=mode) ao.o a2 R;have bg:¬Bs (P.gt i)=v5.Vx.ownBlock:=λe=>ao.o.bC.2.1 e.symm
     have ba:¬Bs kb=v5.Vx.ownBlock:=λe=>by have:=ao.o.xt kb e.symm;rw[b4.o]at this;cases this
     have ai:=a2.1.al ao.o.al bg;have bf:=a2.1.al ar.o ba;have y1:=ai.frozen 8;have yl:=ai.lt;have y0:∃u,w6.cell? ⟨P.gt i,8,B0⟩=Bs u:=by
      have:=ai.cell 8;unfold P8 at this;simp only[NW,Ft,O0]at this;exact⟨_,this⟩
     obtain⟨u0,y0⟩:=y0;have bq:w6.cell? ⟨P.gt i,8,B0⟩=Bs (WK A9 (H5.tx i).ak.length c9)/\w6.cell? ⟨kb,0,B0⟩=Bs (ZV ⟨k.toArray⟩):=⟨by
      have:=ai.cell 8;unfold P8 at this;simp only[NW,Ft,O0]at this;rw[this,b1.o],bf.cell 0⟩
     have bE:=LH bq;have ci:=LH bo;have aa:=LH bk;obtain⟨A7,c7,ca,_,_⟩:=AM R;subst ca;clear z a2 bg ba ai bf bq bo bk bY R v7;go_simp;refine x _ _ (λ_=>bE.o) ?_;clear x I;refine nG 10 (λI x=>?_);go_simp;refine x _ _ nZ ?_;clear x I;refine nG 11 (λI x=>?_);go_simp;refine x _ _ nZ ?_;clear x I;refine nG 12 (λI x=>?_);go_simp;refine x _ _ nZ ?_;clear x I;refine nX ?_;clear f y0 y1 yl bE n8 nl;generalize (w6.setCell _ _)=w7 at *;have ah:=Ja aa.o ar.o b4.o;have cj:=LH ah.1;have cg:=LH ah.2;have aG:Rd w7 w5.heap.size 1 A l.length (l.map (Wm eQ)):=b3.o.fr aa.o.fr (Hi _) (λg av e h0 hs=>hs.bR (HA.o g av e h0));have bw:=LH aG;have ck:=LH (λb o (e:A=Bs ⟨b,o,B0⟩) (h0:0<l.length)=>((aa.o.ext b (by
      obtain⟨g,av,u,e2,hg,_⟩:=b3.o.dg (k:=0) h0;rw[e]at e2;injection e2 with e2;injection e2 with e2;omega)).trans (HA.o b o e h0):E b=B0))
     have bt:=LH (an.o.trans aa.o);have aX:(H5.bq i k mode).c=3:=c5;have z:(H5.bq i k mode).m=H.m:=c0;have aN:=LH (show w5.heap.size<=w7.heap.size from aa.o.fr.size);clear ah aG aa an ac ar b4 b3 HA ao b1 ap;generalize H5.bq i k mode=H6 at *;go_wp2_with fail;go_loopw [123] (EB P E H6 l w7) (λv _=>l.length-(intOf v).toNat)
     case atStart=>exact⟨0,rfl,VG _,E,ci.o,HZ.refl _ _ _⟩
     obtain⟨q,rfl,hq,a1,a0,Y⟩:=hrel;by_cases cF:(q:Int)<l.length
     ·obtain⟨r,o,u,hA,hr,hu,c2⟩:=(bw.o.fr Y.fr aN.o (λg av e h0 hs=>hs.bR (ck.o g av e h0))).dg (k:=q) Z0;have hx:l[q]? = Bs l[q]:=K0 Z0;rw[VQ,hx]at hu;simp only[WA,VN]at hu;subst hu hA;have cD:r<wr.heap.size:=VF hr (VK aN.o Y.fr.size);have b2:=LH (q9t (H:=H6) hx);have a8:=q4q (l.take q) H6;have a9:=bv.o.bD (l.take q) aX;have c4:(woundd H6 (l.take q)).c=3:=a8.c.trans aX;have bZ:(woundd H6 (l.take q)).m=H.m:=a8.m.trans z;clear a8 hx;generalize l[q]=oo at *;generalize woundd H6 (l.take q)=H8 at *;have ad:=LH (q5k a0 (Z4 a9.cr) oo);have ab:=LH a0;have am:=LH Y;have ce:=LH a9;clear a0 Y a9;by_cases aW:oo<1\/(H8.m:Int)<oo
      ·rw[q84 aW]at ad;have K:H8.bc oo=H8:=by unfold Hs.bc;rw[Z7 (by rintro ⟨a,b,_⟩;omega)]
       have D:=LH (show EB P E H6 l w7 (Wm eQ ((q+1:Nat):Int)) wr from⟨q+1,rfl,Z0,a1,by rw[b2.o,K];exact ab.o,am.o⟩);clear aW K;go_wp2_with fail;refine ad.o.mono ?_;rintro e w9 ⟨rfl,rfl⟩;go_wp2_with fail;go_roundw;exact D.o;simp[intOf];omega
      obtain⟨j,rfl⟩:∃j:Nat,oo=j:=⟨oo.toNat,Z0⟩
      have aV:1<=j:=by omega
      have aU:j<=H8.m:=by omega
      rw[q62 aV aU]at ad;unfold pw at ad;obtain⟨vj,bc⟩:=ab.o.tx j aV aU;obtain⟨_,j1,_,_,_,_,_,jl⟩:=bc.cells;clear aW bc;by_cases sj:(H8.tx j).aa=1
      ·have K:H8.bc j=H8.a3 j:=by unfold Hs.bc;rw[Z8 ⟨Z0,Z0,sj⟩];rfl
       have aQ:=LH (q4g ab.o ce.o c4 aV aU);have cc:=LH K;rw[sj]at j1;unfold pw at aQ;clear K sj;go_wp2_with fail;refine ad.o.mono ?_;rintro e w9 ⟨rfl,rfl⟩;go_wp2_with fail;refine aQ.o.mono ?_;rintro e w9 ⟨rfl,b9,bn,bj⟩;have D:=LH (show EB P E H6 l w7 (Wm eQ ((q+1:Nat):Int)) w9 from⟨q+1,rfl,Z0,b9,by rw[b2.o,cc.o];exact bn,am.o.trans bj⟩);clear bn bj j1 jl c2;go_wp2_with fail;go_roundw;exact D.o;simp[intOf];omega
      have K:H8.bc j=H8:=by unfold Hs.bc;rw[Z7 (by rintro ⟨_,_,a⟩;exact sj a)]
      have D:=LH (show EB P E H6 l w7 (Wm eQ ((q+1:Nat):Int)) wr from⟨q+1,rfl,Z0,a1,by rw[b2.o,K];exact ab.o,am.o⟩);have e1:((H8.tx j).aa == 1)=L1:=Z6 sj;clear K sj;go_wp2_with fail;refine ad.o.mono ?_;rintro e w9 ⟨rfl,rfl⟩;go_wp2_with fail;go_roundw;exact D.o;simp[intOf];omega
     obtain rfl:q=l.length:=by omega
     rw[WU]at a0;have a8:=q4q l H6;have a9:=bv.o.bD l aX;have bZ:(woundd H6 l).m=H.m:=a8.m.trans z;obtain⟨v8,aw⟩:=a0.tx i h1 Z0;have aJ:=Ja Y cj.o cg.o;have ak:=aJ.1.cell 0;simp only[NW,Ft]at ak;have O:=qbx aw (a9.tx i h1 Z0) k ak;obtain⟨_,_,_,_,_,_,n8,nl⟩:=aw.cells;obtain⟨cM,cI,aK,_,_⟩:=AM aw.ak;rw[aK]at n8 O;have aC:=LH O;have ab:=LH a0;have am:=LH (bt.o.trans Y);clear O aJ ak aw aK a9 a8 a0 Y;generalize woundd H6 l=H8 at *;go_wp2_with fail;refine aC.o.mono ?_;rintro e w9 ⟨rfl,aA⟩;have ay:Cf P own H8 w w9:=⟨a1,ab.o.below aA,am.o.trans (HZ.below a1 aA)⟩
     have G:=bC.o;cases y:Cp (H8.tx i).ak k with
     |true=>
      rw[y,Z8 rfl]at G;have D:=LH (Hl.no (i:=i) (s:=s) G Z2 ay);clear y aA ay G n8;go_wp2_with fail;go_ret3;exact D.o.dQ a6.o
     |false=>
      rw[y,Z7 Z2]at G;have D:=LH (Hl.yes (i:=i) (s:=s) G ay);clear y aA ay G n8;go_wp2_with fail;go_ret3;exact D.o.dQ a6.o
   have co:Rs H i s:=⟨ee,ax,he⟩
   have cr:=bB.o bz.o co;have aQ:=LH (q4g au.o aM.o hc h1 hi);rw[ax]at a3;have d1:(ee != (H.sh s).ad)=VD:=Z6 he;unfold pw at aQ;have bB:=LH cr;clear ax he co cr;go_wp2_with fail;refine aQ.o.mono ?_;rintro e w3 ⟨rfl,cl,aL,cx⟩;have D:=LH (Hl.no (i:=i) (s:=s) bB.o Z2 ⟨cl,aL,b8.o.trans cx⟩);clear aL cx k1 k3 k8 gl m2 sl a3;go_wp2_with fail;go_ret3;exact D.o.dQ a6.o
 have D:=LH (show LkP P own i k w (H.aJ i k mode) (ZY (ZZ #[ZW B0,ZW B0,.iface 79 (Wm eQ 6)])) w1 from by rw[q40 h1 hi s1];exact⟨rfl,own,aP.o,bL.o⟩);have e1:((H.tx i).aa != 1)=VD:=Z6 s1;clear s1;go_wp2_with fail;refine HF.o.mono ?_;rintro e w2 ⟨rfl,rfl⟩;go_wp2_with fail;go_ret3;exact D.o
def G9(t:Tg):Prop:=t=.txr\/t=.hs
def Wf.a5{H:Hs}(h:Wf H)(t:H.m<60):Wf H.a5:=by
 have e:∀i,i<=H.m->H.a5.tx i=H.tx i:=λi c=>Ay Z0 _
 have e1:H.a5.tx (H.m+1)=Ei:=Aq _ _ _;refine⟨h.n4,h.c3,t,h.nd,h.tab,h.sto,h.aq,h.net,h.down,λi j c=>?_,?_,λi j c=>?_⟩;obtain b|b:=Xd H.m i;rw[show i=H.m+1 by have:i<=H.m+1:=c;omega,e1];exact⟨VG _,λp s=>(nomatch s),λk e f=>(nomatch f),λk e f=>(nomatch f),λa d=>(nomatch d),YF⟩;rw[e i b];exact h.tx i j b;show H.ah=EE H.a5;rw[h.tm];unfold EE;show _=(((Wh 1 (H.m+1)).filter λi=>decide ((H.a5.tx i).ah≠0)).length:Int);rw[Zi,List.filter_append];have u:List.filter (λi=>decide ((H.a5.tx i).ah≠0)) [1+1*H.m]=[]:=by
  rw[List.filter_eq_nil_iff];intro a d;rw[VU]at d;rw[d,show 1+1*H.m=H.m+1 by omega,e1];simp[Ei]
 rw[u,List.append_nil];congr 2;apply List.filter_congr;intro i c;rw[XJ]at c;rw[e i Z0];obtain b|b:=Xd H.m i;rw[show i=H.m+1 by have:i<=H.m+1:=c;omega,e1];have:=h.bU;exact⟨WH _,this.1⟩;rw[e i b];exact h.dY i j b
variable {w4 w5:D0}{own4:Ah}
def HI.grown(h:HI w own P H)(p:VI w.heap.size w w')(d:Ext own own' w.heap.size)(e:∀b,own' b≠B0->b<w'.heap.size):HI w' own' P H:=
 have c:=q6t own p
 ⟨e,h.hs.bw c d (λ_ _ h=>h),λs hs=>(h.sh s hs).bw c d (λ_ _ h=>h),λs j hs f=>(h.nd s j hs f).bw c d (λh=>h),λi u t=>(h.tx i u t).bw c d (λh=>h) (λh=>h)⟩
def HI.dK(h:HI w4 own4 P H){R:LW}(E:CL w4 own4 (H.m+1) b R Ei){v:LY}(f:EP w4 own4 P H.c H.m H.net H.ah v)(I:Am w4 w5 v.Vt.ownBlock V'.ownBlock)
  (S:w5.ownsRow 0 74 1 V' (H.m+1) (((Wh 1 H.m).map λi=>pw (P.gt i))++[pw b])) :
  ∃own',HI (w5.setCell ⟨P.g,4,B0⟩ V') own' {P with gt:=Af P.gt (H.m+1) b} H.a5/\HZ G9 w4 own4 (w5.setCell ⟨P.g,4,B0⟩ V') own':=by
 have y:Ext own4 (Ej own4 w4.heap.size (λq=>V'.ownBlock=Bs q) .txr) w4.heap.size:=SV;have M:Fr (OS own4 G9) w4 w5:=I.1.mono (λq _ e=>⟨_,f.cf q e.symm,.inl rfl⟩);have z:=Fr.aL P.g w5 4 V';have x:Fr (OS own4 G9) w4 (w5.setCell ⟨P.g,4,B0⟩ V'):=M.setCell (p:=⟨P.g,4,B0⟩) (.inl ⟨_,f.gt,.inr rfl⟩) _;have K:¬Bs P.g=v.Vt.ownBlock:=λe=>by have:=f.cf P.g e.symm;rw[f.gt]at this;cases this
 have A:Ae w5 P.g 92 (P0 v H.ah):=I.1.al f.nt.al K;have G:∀q,FN v q->¬OS own4 G9 q:=λq d hs=>by obtain e|e:=hs.c6 (f.bI q d)<;> cases e
 have Y:AO (w5.setCell ⟨P.g,4,B0⟩ V') 0 P.g 0 92 (P0 {v with Vt:=V'} H.ah) v.Vn v.D 100 v.L H.net.aq v.df:=
  f.nt.da x G (A.aZ 4 V') rfl rfl rfl
 have u:(w5.setCell ⟨P.g,4,B0⟩ V').ownsRow 0 74 1 V' (H.m+1) ((Wh 1 (H.m+1)).map λi=>pw (Af P.gt (H.m+1) b i)):=by
  have O:((Wh 1 (H.m+1)).map λi=>pw (Af P.gt (H.m+1) b i))=(((Wh 1 H.m).map λi=>pw (P.gt i))++[pw b]):=by
   rw[Zi,WQ];congr 1;apply XH;intro i J;rw[XJ]at J;rw[Ay Z0];rw[show 1+1*H.m=H.m+1 by omega,WJ,XT,Aq]
  rw[O];exact z.own S (λq d e=>Bh S A Z2 (by rw[d,e]))
 have D:∀q,V'.ownBlock=Bs q->Ej own4 w4.heap.size (λq=>V'.ownBlock=Bs q) .txr q=Bs .txr:=λq d=>SS (by
  obtain e|⟨Z,e,hl⟩:=I.2;exact eR (f.cf q (by rw[<- e];exact d));rw[e]at d;injection d with d;exact eS Z0) d
 refine⟨_,⟨SR x.size (λq d=>(u.lt q d).2),⟨{v with Vt:=V'},Y,f.cb,λq d=>(y q (f.nt.a9 d)).trans (f.bI q d),f.cd,x.own f.shr (λq d hs=>by obtain e|e:=hs.c6 (f.ck q d)<;> cases e),λq d=>(y q (f.shr.lt q d).2).trans (f.ck q d),u,D,(y _ f.nt.al.lt).trans f.gt⟩,λs hs=>?_,λs j hs X=>?_,λi O J=>?_⟩,⟨y,x,(by first|exact RC Z3|exact λ_ _ h=>h)⟩⟩;exact(h.sh s hs).bw x y (λt W c=>by obtain h|h|h|h|h:=W<;> subst h<;>obtain h|h:=c<;> cases h);exact(h.nd s j hs X).bw x y (λc=>by obtain h|h:=c<;> cases h);obtain U|U:=Xd H.m i;obtain rfl:i=H.m+1:=by have:i<=H.m+1:=J;omega
 show U3 _ _ (H.m+1) (Af P.gt (H.m+1) b (H.m+1)) (Af H.tx (H.m+1) Ei (H.m+1));rw[Aq,Aq];exact⟨R,E.bw x y (λc=>by obtain h|h:=c<;> cases h) (λc=>by obtain h|h:=c<;> cases h)⟩;show U3 _ _ i (Af P.gt (H.m+1) b i) (Af H.tx (H.m+1) Ei i);rw[Ay Z0,Ay Z0];exact(h.tx i O U).bw x y (λc=>by obtain h|h:=c<;> cases h) (λc=>by obtain h|h:=c<;> cases h)
def S4:(Tryz.prog.info? 74).map (λi=>(i.zero,i.size,i.bytes))=Bs (Bs (ZW B0),1,8):=by kernel_rfl
def Ro(P:Av)(own:Ah)(H:Hs)(w:D0)(e:WE)(w':D0):Prop:=e=ZY (ZZ #[Wm eQ ((H.m+1:Nat):Int),ZS])/\∃b own',HI w' own' {P with gt:=Af P.gt (H.m+1) b} H.a5/\HZ G9 w own w' own'
def RI(w:D0)(m:Nat):D0:=(((w.alloc (.map #[] 0)).alloc (.map #[] 0)).alloc (.map #[] 0)).alloc (eT #[Wm eQ ((m:Int)+1),Wm eQ 1,WK B0 0 0,.map (Bs w.heap.size),.map (Bs (w.heap.size+1)),Wm eQ 0,Wm eQ (-1),.map (Bs (w.heap.size+2)),WK B0 0 0] 78)
def bgV(w:D0):LW:=⟨WK B0 0 0,w.heap.size,w.heap.size+1,.map (Bs (w.heap.size+2)),Wm eQ (-1),WK B0 0 0⟩
def bg_tx(w:D0)(own:Ah)(m:Nat)(j:m<60):CL (RI w m) (Du own w.heap.size (w.heap.size+4) (.tx (m+1))) (m+1) (w.heap.size+3) (bgV w) Ei/\VI w.heap.size w (RI w m)/\(RI w m).heap.size=w.heap.size+4:=by
 have e:(RI w m).heap.size=w.heap.size+4:=by unfold RI;simp
 have c:VI w.heap.size w (RI w m):=((((VC _ _).alloc (Hi _) _).alloc Z3 _).alloc Zz _).alloc Zz _;have d:∀b,w.heap.size<=b->b<w.heap.size+4->Du own w.heap.size (w.heap.size+4) (.tx (m+1)) b=Bs (.tx (m+1)):=λb h f=>Qi h f
 refine⟨⟨?_,VW _ _ _ _,?_,?_,VW _ _ _ _,by show w.heap.size≠w.heap.size+1;omega,d _ Z0 Z0,λb c=>(nomatch c),eR (d w.heap.size (Hi _) Z0),d (w.heap.size+1) Z0 Z0,λb c=>(nomatch c)⟩,c,e⟩;have:=Ae.b4 (((w.alloc (.map #[] 0)).alloc (.map #[] 0)).alloc (.map #[] 0)) 78 #[Wm eQ ((m:Int)+1),Wm eQ 1,WK B0 0 0,.map (Bs w.heap.size),.map (Bs (w.heap.size+1)),Wm eQ 0,Wm eQ (-1),.map (Bs (w.heap.size+2)),WK B0 0 0];rw[show(((w.alloc (.map #[] 0)).alloc (.map #[] 0)).alloc (.map #[] 0)).heap.size=w.heap.size+3 by simp]at this;exact this
 ·exact((((Ab.cT BP w).alloc (.map #[] 0)).alloc (.map #[] 0)).alloc _).mono (VG 100)
 have:=((Ab.cT BP (w.alloc (.map #[] 0))).alloc (.map #[] 0)).alloc (eT #[Wm eQ ((m:Int)+1),Wm eQ 1,WK B0 0 0,.map (Bs w.heap.size),.map (Bs (w.heap.size+1)),Wm eQ 0,Wm eQ (-1),.map (Bs (w.heap.size+2)),WK B0 0 0] 78);rw[show(w.alloc (.map #[] 0)).heap.size=w.heap.size+1 by simp]at this;exact this.mono (VG 100)
def q8a(h:HI w own P H)(hm:H.m<60):VX Tryz.prog 17 #[pw P.g] w (Ro P own H w):=by
 have a4:=@run_makeMap Tryz.prog;obtain⟨J,x,M⟩:=bg_tx w own H.m hm;have y:=h.grown x (GF own w.heap.size (w.heap.size+4) (.tx (H.m+1))) (λb hb=>by rw[M];exact S7 Z0 hb);have a9:=LH y;have s:=LH J;have a8:=LH (show HZ G9 w own (RI w H.m) (Du own w.heap.size (w.heap.size+4) (.tx (H.m+1)))from⟨GF _ _ _ _,(q6t own x).mono (λ_ _ ⟨t,a,b⟩=>⟨t,a,b.elim⟩),λb i e=>by unfold Du at e;split at e;exact e;split at e<;>simp at e⟩);obtain⟨v0,z⟩:=h.hs;obtain⟨_,_,c4,_,gl⟩:=z.cells;obtain⟨A0,q0,U,_,_⟩:=AM z.txr;rw[U]at c4;have a3:((H.m:Int) == 60)=L1:=by simpa using (by omega:¬(H.m:Int)=60)
 have aa:P.g<(RI w H.m).heap.size:=by omega
 have a6:(RI w H.m).cell? ⟨P.g,4,B0⟩=Bs (WK A0 H.m q0):=(x.cell (p:=⟨P.g,4,B0⟩) gl).trans c4;have a2:=s.o.cells.1;have a1:=s.o.cells.2.2.2.2.2.2.2;have ab:(RI w H.m).frozen? ⟨P.g,4,B0⟩=L1:=by
  obtain⟨u,c⟩:=y.hs;exact c.nt.al.frozen 4
 have a0:=LH (show ∃u,EP (RI w H.m) (Du own w.heap.size (w.heap.size+4) (.tx (H.m+1))) P H.c H.m H.net H.ah u/\u.Vt=WK A0 H.m q0 from by
  obtain⟨u,c⟩:=y.hs;refine⟨u,c,?_⟩;have e:=c.cells.2.2.1;rw[a6]at e;injection e with e;exact e.symm)
 unfold RI at *;clear h z U J y x;unfold pw at *;go_enter Tryz.func17,Tryz.ntmps17;go_upto_region 4 with (fail)
 clear c4 a4 a3 M a2 a1;generalize Zn (Zn (Zn (Zn w _) _) _) _=W4 at *;obtain⟨u,c,D⟩:=a0.o;have Z:=LH c;have f:=c.txr;rw[D]at f;have E:=LH f;have Y:=LH D;have a5:¬Bs P.g=u.Vt.ownBlock:=λe=>by have:=c.cf P.g e.symm;rw[c.gt]at this;cases this
 have R:¬Bs (w.heap.size+3)=u.Vt.ownBlock:=λe=>by have:=c.cf _ e.symm;rw[s.o.gt]at this;cases this
 clear c D f a0;go_wp2_with (at_builtin;refine stop ?_)
 refine CD ?_;refine Oq W4 _ rfl (.tmp 27) (.tmp 29) 90 rfl 0 74 (ZW B0) 1 8 Tryz.underlying90 S4 rfl Z2 _ _ _ #[ZW (Bs ⟨w.heap.size+3,0,B0⟩)] rfl E.o 1 rfl _ rfl rfl (by simp[Wx]) Zx Z0 (VG _) ?_;intro X G d O;have j:Am W4 G u.Vt.ownBlock X.ownBlock:=by rw[Y.o];exact O
 obtain⟨I,W,S⟩:=a9.o.dK s.o Z.o j d;have v:=j.1.al Z.o.nt.al a5;have y1:=v.frozen 4;have y0:=v.cell 4;unfold P0 at y0;simp only[NW,Ft,O0]at y0;rw[Y.o]at y0;have yl:=v.lt;have K:=(j.1.al s.o.al R)
 have A:=(Fr.aL P.g G 4 X).al K Z0;have t0:=A.cell 0;have tl:=A.lt;unfold P8 at t0;simp only[NW,Ft]at t0;have T0:=LH (show(G.setCell ⟨P.g,4,B0⟩ X).cell? ⟨w.heap.size+1+1+1,0,B0⟩=Bs (Wm eQ ((H.m:Int)+1))from t0);have TL:=LH (show w.heap.size+1+1+1<(G.setCell ⟨P.g,4,B0⟩ X).heap.size from tl);clear t0 tl A;have HF:=LH (show Ro P own H w (ZY (ZZ #[Wm eQ ((H.m:Int)+1),ZS])) (G.setCell ⟨P.g,4,B0⟩ X)from⟨rfl,w.heap.size+3,I,W,a8.o.trans S⟩);obtain⟨A7,c7,a7,_,_⟩:=AM d;subst a7;clear O j v K W S d;go_upto_region 5 with (fail)
 generalize (G.setCell _ _)=w7 at *;generalize w.heap.size+1+1+1=tb at *;have t1:=T0.o;have t2:=TL.o;go_wp2_with fail;go_ret2;exact HF.o
def Qh:(Tryz.prog.info? 66).map (λi=>(i.zero,i.size,i.bytes))=Bs (Bs (WK B0 0 0),1,24):=by kernel_rfl
structure EC(w:D0)(x:S2×List BI)(l:List Cm):Prop where
 row:w.ownsRow 0 69 4 x.1 x.2.length (x.2.flatMap El)
 a4:AQ x.2=l
 own:∀y∈x.2,Fh w 0 y
 cd:x.2.length<=500
def LgSo(H:Hs)(s:Nat)(l:List Nat)(w wr:D0)(V:S2)(b:List (S2×List BI)):Prop:=
 wr.ownsRow w.heap.size 66 1 V b.length (b.map (·.1))/\(∀(i:Nat)(x:S2×List BI),b[i]? = Bs x->∃j:Nat,l[i]? = Bs j/\EC wr x ((H.sh s).nd j).a4)/\VI w.heap.size w wr
def Ph(H:Hs)(s:Nat)(l:List Nat)(w:D0)(e:WE)(w':D0):Prop:=
 ∃V b,e=ZY (ZZ #[V,ZS])/\b.length=l.length/\LgSo H s l w w' V b
def UA(H:Hs)(s:Nat)(w:D0)(e:WE)(w':D0):Prop:=Ph H s ((H.sh s).ai H.n) w e w'
def LgRel(H:Hs)(s:Nat)(l:List Nat)(w:D0)(c b:S2)(wr:D0):Prop:=
 ∃(q:Nat) (Ls:List (S2×List BI)),b=Wm eQ q/\q<=l.length/\Ls.length=q/\LgSo H s l w wr c Ls
def EC.below{B:Nat}{x:S2×List BI}{l:List Cm}(h:EC w x l){xs:List S2}(j:w.ownsRow B 66 1 V n xs)(f:Fr (λb=>Bs b=V.ownBlock) w w'):EC w' x l:=
 ⟨f.own h.row (λb d e=>EX h.row j Z2 d e.symm),h.a4,λy c=>⟨f.own (h.own y c).1 (λb d e=>EX (h.own y c).1 j Z2 d e.symm),(h.own y c).2⟩,h.cd⟩
def EC.aW{x:S2×List BI}{l:List Cm}(h:EC w x l)(c:VI w.heap.size w w'):EC w' x l:=by have e:=Ef c;exact⟨e.own h.row (λb c hs=>Z4 ((h.row.lt b c).2)),h.a4,λy d=>⟨e.own (h.own y d).1 (λb c hs=>Z4 (((h.own y d).1.lt b c).2)),(h.own y d).2⟩,h.cd⟩
def Ts(h:HI w own P H)(wf:Wf H)(hc:H.c=3)(ag:s<3):VX Tryz.prog 22 #[pw P.g,Wm eQ s] w (UA H s w):=by
 have HH:=LH h;have al:=LH wf;have ai:=wf.n4;obtain⟨vh,S⟩:=h.hs;obtain⟨_,c3,_,_,gl⟩:=S.cells;obtain⟨r3,k3,a2,a9,ac⟩:=S.dh (s:=s) Z0;rw[a2,hc]at c3;have af:(s:Int)<3:=by omega
 have HL:=LH (q51 h wf (s:=s) Z0);have ak:=q2n (H.sh s) H.n;have HM:=LH (λj (hj:j∈(H.sh s).ai H.n)=>q4k hj);unfold DN at HL;rw[show UA H s w=Ph H s ((H.sh s).ai H.n) w from rfl];clear h wf S a2;generalize (H.sh s).ai H.n=l at *;unfold pw at *;go_enter Tryz.func22,Tryz.ntmps22;go_wp2_with fail;refine HL.o.mono ?_;rintro e w1 ⟨V,rfl,D,W⟩;obtain⟨A,c,rfl,_,_⟩:=AM D;have a3:=LH D;have Y:=LH W;have ae:=LH (HH.o.below W);clear D W HL HH c3 ac gl a9;go_wp2_with fail;go_loopw [6,30] (LgRel H s l w1) (λ_ v _=>l.length-(intOf v).toNat)
 case atStart=>exact⟨0,[],rfl,VG _,rfl,VW _ _ _ _,λi x Z=>by simp at Z,VC _ _⟩
 obtain⟨q,Ls,rfl,hq,I,E,J,p⟩:=hrel;by_cases aj:(q:Int)<l.length
 ·have U:q<l.length:=by omega
  have ah:q<=4:=by omega
  obtain⟨r,o,u,hA,hr,hu,ab⟩:=((Rd.a7 a3.o).below p).dg (k:=q) U;have Z:l[q]? = Bs l[q]:=K0 U;rw[VQ,Z]at hu;simp only[WA,VN]at hu;subst hu hA;have a8:r<wr.heap.size:=VF hr p.size;have aa:=HM.o l[q] (Wy U);have HX:=LH Z;clear Z;generalize l[q]=j at *;obtain⟨C,V,L,hN,_⟩:=(ae.o.below p).nd s j Z0 aa;have a6:=LH (qaz hN);have HN:=LH hN;obtain⟨A6,c6,rfl,_,_⟩:=AM E;have a4:=LH E;have ad:=LH J;have X:=LH p;clear hN E J p;go_wp2_with fail;refine a6.o.mono ?_;rintro e w5 ⟨A5,k5,rfl,z,G,a0⟩;have O:=(Ef G).own a4.o (λb hb hs=>Z4 ((a4.o.lt b hb).2));have R:EC w5 (WK A5 L.length k5,L) ((H.sh s).nd j).a4:=⟨z,HN.o.a4,λy hy=>⟨(Ef G).own (HN.o.own y hy).1 (λb hb hs=>Z4 (((HN.o.own y hy).1.lt b hb).2)),(HN.o.own y hy).2⟩,HN.o.len⟩
  have M:w1.heap.size<=w5.heap.size:=VK X.o.size G.size;have d:=LH O;have a5:=LH R;have a7:=LH G;clear O R z G a0 a6 ab a8;rw[I]at d;go_wp2_with (at_builtin;refine stop ?_)
  refine CD ?_;refine Oq w5 _ rfl (.tmp 34) (.tmp 37) 62 rfl w1.heap.size 66 (WK B0 0 0) 1 24 Tryz.underlying62 Qh rfl Z2 _ _ _ #[WK A5 L.length k5] rfl d.o 1 rfl _ rfl rfl (by simp[Wx]) Zx Z0 M ?_;intro V2 w8 t K;have a1:VI w1.heap.size w5 w8:=K.below (λb hb=>(d.o.lt b hb).1) M;have hR:LgRel H s l w1 V2 (Wm eQ ((q+1:Nat):Int)) w8:=by
   refine⟨q+1,Ls++[(WK A5 L.length k5,L)],rfl,Z0,by simp[I],?_,λi x f=>?_,X.o.trans ((a7.o.mono X.o.size).trans a1)⟩;rw[VJ,WQ,I];exact t;obtain h1|h1:=Xd i q;rw[VZ Z0]at f;obtain⟨j',e1,e2⟩:=ad.o i x f;exact⟨j',e1,(e2.aW a7.o).below d.o K.1⟩;rw[Wg Z0]at f;obtain rfl:i=q:=by
    have:=(ZC.1 f).1;simp at this;omega
   rw[I,Nat.sub_self]at f;simp only[Ft,VN]at f;subst f;exact⟨j,HX.o,a5.o.below d.o K.1⟩
  have HR:=LH hR;clear hR a1 K t;go_wp2_with fail;go_roundw;exact HR.o;simp[intOf];omega
 obtain rfl:q=l.length:=by omega
 have HF:=LH (show Ph H s l w (ZY (ZZ #[u6,ZS])) wr from⟨u6,Ls,rfl,I,MJ E Y.o.size,J,Y.o.trans (p.mono Y.o.size)⟩);clear E J p;go_wp2_with fail;go_ret2;exact HF.o
def Ew(w:D0)(g o:Nat)(x:Pr):D0:=((w.setCell ⟨g,o,B0⟩ (ZV x.key)).setCell ⟨g,o+1,B0⟩ (ZV x.val)).setCell ⟨g,o+2,B0⟩ (ZX x.aR)
def SG(w:D0)(g o:Nat)(x:Pr):Fr (λi=>i=g) w (Ew w g o x):=
 (((Fr.refl (λi=>i=g) w).setCell (p:=⟨g,o,B0⟩) (.inl rfl) _).setCell (p:=⟨g,o+1,B0⟩) (.inl rfl) _).setCell (p:=⟨g,o+2,B0⟩) (.inl rfl) _
def rset:∀(M:List Pr)(i:Nat)(x:Pr),i<M.length->((((M.flatMap Dj).set (i*3) (ZV x.key)).set (i*3+1) (ZV x.val)).set (i*3+2) (ZX x.aR))=(M.set i x).flatMap Dj
 |[],i,x,h=>by simp at h
 |y::M,0,x,_=>by simp[Dj]
 |y::M,i+1,x,h=>by
  have b:=rset M i x (Z6 h);have c:(i+1)*3=i*3+3:=by omega
  rw[c,XY,VH,VH,<- b];simp[Dj,Nat.add_right_comm]
def PU{base cap:Nat}{M:List Pr}(h:w.ownsRow base 45 3 (WK (Bs ⟨g,0,B0⟩) n cap) n (M.flatMap Dj))(x:Pr)(b:i<M.length) :
  (Ew w g (i*3) x).ownsRow base 45 3 (WK (Bs ⟨g,0,B0⟩) n cap) n ((M.set i x).flatMap Dj):=by
 rw[<- rset M i x b];exact(((h.stored _ _).1.stored _ _).1.stored _ _).1
def Wf.ae{H:Hs}(h:Wf H)(e:1<=i)(d:i<=H.m){l:List Pr}(hl:l.length<=20)(c:∀p∈l,Uk p):Wf (H.ay i {H.tx i with ae:=l}):=by have b:=h.tx i e d;exact h.ay ⟨hl,c,b.sh,b.pl,b.wn,b.wnd⟩ rfl
def HI.eu(h:HI w own P H)(W:1<=i)(U:i<=H.m)(c:CL w own i (P.gt i) v (H.tx i)){cap q:Nat}(y:v.Vw=WK (Bs ⟨g,0,B0⟩) n cap)(I:q<(H.tx i).ae.length)(x:Pr) :
  HI (Ew w g (q*3) x) own P (H.ay i {H.tx i with ae:=(H.tx i).ae.set q x})/\AC w own (Ew w g (q*3) x) own:=by
 have K:own g=Bs (.tx i):=c.wt g (by rw[y];rfl);have p:=SG w g (q*3) x;have u:Fr (OS own (λt=>t=.tx i)) w (Ew w g (q*3) x):=p.mono (λb _ e=>⟨_,by rw[e];exact K,rfl⟩);obtain⟨G,n2,S,R,E,D,O,M⟩:=c.bC;have j:v.Vw.ownBlock=Bs g:=by rw[y];rfl
 have f:=c.ae;rw[y]at f;have J:n=(H.tx i).ae.length:=by
  obtain⟨e,_⟩|⟨_,_,_,e,_⟩:=f.2;cases e;injection e
 subst J;have d:=PU f x I;rw[show(H.tx i).ae.length=((H.tx i).ae.set q x).length by rw[XU]]at d;have s:((H.tx i).ae.set q x).length=(H.tx i).ae.length:=by rw[XU]
 have z:CL (Ew w g (q*3) x) own i (P.gt i) v {H.tx i with ae:=(H.tx i).ae.set q x}:=
  ⟨p.al c.al (λe=>G (by rw[j,e])),by rw[y];rw[s]at d ⊢;exact d,c.af.fr p (λe=>E (by rw[j,e])),c.aw.fr p (λe=>D (by rw[j,e])),p.own c.ak (λb A e=>EX c.ak c.ae Z2 A (by rw[j,e])),c.ne,c.gt,c.wt,c.st,c.pt,c.xt⟩
 exact⟨h.setTx' u (Ext.refl own _) (λb A=>VF (h.lt b A) p.size) ⟨v,z⟩,⟨Ext.refl own _,Ii u (λ_=>DH),λ_ _ h=>h⟩⟩
def HI.ea(h:HI w own P H)(f:CL w own i (P.gt i) v (H.tx i)){x:Pr}(u:Am w w' v.Vw.ownBlock V'.ownBlock)
  (A:w'.ownsRow 0 45 3 V' ((H.tx i).ae.length+1) ((H.tx i).ae.flatMap Dj++Dj x)):∃own',HI (w'.setCell ⟨P.gt i,2,B0⟩ V') own' P (H.ay i {H.tx i with ae:=(H.tx i).ae++[x]})/\AC w own (w'.setCell ⟨P.gt i,2,B0⟩ V') own':=by
 have y:Fr (λb=>v.Vw.ownBlock=Bs b\/w.heap.size<=b) w w':=u.1.mono (λb _ e=>eR e.symm);have z:Ext own (Ej own w.heap.size (λb=>V'.ownBlock=Bs b) (.tx i)) w.heap.size:=SV;have s:w'.ownsRow 0 45 3 V' ((H.tx i).ae++[x]).length (((H.tx i).ae++[x]).flatMap Dj):=by
  rw[VJ,Wq];simpa using A
 have D:∀b,V'.ownBlock=Bs b->Ej own w.heap.size (λb=>V'.ownBlock=Bs b) (.tx i) b=Bs (.tx i):=λb d=>SS (by
  obtain e|⟨E,e,hl⟩:=u.2;exact eR (f.wt b (by rw[<- e];exact d));rw[e]at d;injection d with d;exact eS Z0) d
 have j:=f.dZ z y s D;have c:Fr (OS own (λt=>t=.tx i)) w (w'.setCell ⟨P.gt i,2,B0⟩ V'):=
  (u.1.mono (T:=OS own (λt=>t=.tx i)) (λb _ e=>⟨_,f.wt b e.symm,rfl⟩)).setCell (p:=⟨P.gt i,2,B0⟩) (.inl ⟨_,f.gt,rfl⟩) _
 exact⟨_,h.setTx' (t':={H.tx i with ae:=(H.tx i).ae++[x]}) c z (SR c.size (λb d=>VF (A.lt b d).2 (Fr.aL (P.gt i) w' 2 V').size)) ⟨{v with Vw:=V'},j⟩,⟨z,Ii c (λ_=>DH),(by first|exact RC Z3|exact λ_ _ h=>h)⟩⟩
section
variable {H H':Hs}{i:Nat}
def By.wf(s:By H H')(e:Wf H)(v:H.c=3):Wf H':=by
 cases s with
 |a3 d c hs=>exact e.a3 v d c
 |tell d c f hs=>exact e.aC d c Z0 _
 |prep b d c f h t hs z u A=>exact e.add (Z4 (Cb f)) (q61 h) (e.db d c _) b
 |place a d c f G hs=>exact e.aS d c (Cb f) a
 |av d c hs t=>exact e.av d c
 |decide b d c h t hs z=>exact e.add Z0 (q61 h) (e.eB d c) b
 |commit d c hs t=>exact e.aF d c 3
 |aA d c f hs h u=>exact e.aA d c f
 |@got i x mode d c hs j D h u y E=>exact e.b7 d c (Z4 (FJ x)) j
 |@wait i x mode d c hs j D h u p y E=>exact(e.b7 d c (s:=Aa x) (Z4 (FJ x)) j).bq d c j p
 |aD hs hl=>exact e.bf v hs hl.1
 |@aE k m f=>exact(e.bb k).aE v (e.net m (N2 f))
structure Cg(H H':Hs):Prop where
 lv:∀k j,Lv H' k j↔Lv H k j
 lg:∀k j,lg H k j <+: lg H' k j
 ep:∀k,(H'.sh k).ad=(H.sh k).ad
 aq:∀k,(H'.sh k).aq=(H.sh k).aq
def Cg.refl(H:Hs):Cg H H:=⟨λ_ _=>Yw,λ_ _=>VO _,λ_=>rfl,λ_=>rfl⟩
def Cg.trans{A B C:Hs}(h:Cg A B)(k:Cg B C):Cg A C:=⟨λa b=>(k.lv a b).trans (h.lv a b),λa b=>(h.lg a b).trans (k.lg a b),λa=>(k.ep a).trans (h.ep a),λa=>(k.aq a).trans (h.aq a)⟩
def AP.up(h:AP H H'):Cg H H':=⟨λ_ _=>h.lv,λk j=>by rw[h.lg];exact VO _,h.ad,h.aq⟩
def qdg{d:Nd}(b:d.id=((H.sh s).nd j).id)(hl:lg H s j <+: d.a4):Cg H (H.au s j d):=
 ⟨λk a=>q6m b,λk a=>by
  rw[q5i];split;rename_i e;obtain⟨rfl,rfl⟩:=e;exact hl;exact VO _,
  λk=>by
  by_cases e:k=s;subst e;rw[EH];rw[Jb H j d e],
  λk=>by
  by_cases e:k=s;subst e;rw[EH];rw[Jb H j d e]⟩
def Ih(ms:List Ms):Cg H (H.aO ms):=⟨λ_ _=>Yw,λ_ _=>VO _,λ_=>rfl,λ_=>rfl⟩
def nadd_up(d:Nd)(c:Cm)(b:Bool):d.a4 <+: (d.add c b).1.1.a4:=by by_cases e:(d.add c b).2.2=0;rw[(P5 e).1,q3o];exact Xy _ _;rw[qea e];exact VO _
def E9(H:Hs)(s j:Nat)(c:Cm)(b:Bool):Cg H (H.add s j c b).2:=by unfold Hs.add;split;exact Cg.refl H;exact((qdg (q4y _ c b).2 (nadd_up _ c b)).trans (Ih _)).trans (AP.take _ _).up
def JO(H:Hs)(i:Nat)(kind:Int)(k:Nat):Cg H (H.aC i kind k):=by
 cases b:H.head k with
 |none=>rw[J6 b];exact Cg.refl H
 |some j=>
  rw[Jd b];split;exact E9 _ _ _ _ _;exact Cg.refl H
def q9a(i:Nat)(kind:Int):∀(ks:List Nat)(H:Hs),Cg H (telld H i kind ks)
 |[],H=>Cg.refl H
 |k::ks,H=>(JO H i kind k).trans (q9a i kind ks _)
def qeb(H:Hs)(i:Nat):Cg H (H.a3 i):=by rw[I9];exact((AP.ay H i _).trans (LV i _ _)).up.trans (q9a i 4 _ _)
def q5g(d:Nd)(m:Ms):d.a4 <+: (d.step m).1.a4/\(d.step m).1.id=d.id:=by
 have b:d.a4 <+: (d.aP m.aY).1.a4/\(d.aP m.aY).1.id=d.id:=by
  refine⟨by rw[q3o];exact Xy _ _,?_⟩;unfold Nd.aP;split;exact(ES _).1;rfl
 unfold Nd.step;split;exact⟨VO _,rfl⟩;simp only;split;exact⟨VO _,rfl⟩;split;exact⟨VO _,rfl⟩;split;exact b;split<;>exact⟨VO _,rfl⟩
def By.up(s:By H H'):Cg H H':=by
 cases s with
 |a3=>exact qeb _ _
 |tell=>exact JO _ _ _ _
 |prep=>exact E9 _ _ _ _ _
 |place=>exact(AP.ay _ _ _).up
 |@av i p h hs d=>
  have e:=FI H i;exact(AP.up ⟨e.1,e.2.1,e.2.2.2.2,λs=>by rw[e.2.2.2.1],λs=>by rw[e.2.2.2.1],λs=>by rw[e.2.2.2.1]⟩)
 |decide=>exact E9 _ _ _ _ _
 |commit=>exact(AP.ay _ _ _).up
 |aA=>exact(AP.ay _ _ _).up
 |@got i x mode=>exact(AP.ax (H:=H) (x:={H.sh (Aa x)with tab:=Ap (H.sh (Aa x)).tab i x mode}) rfl rfl rfl).up
 |@wait i x mode=>exact((AP.ax (x:={H.sh (Aa x)with tab:=Ap (H.sh (Aa x)).tab i x mode}) rfl rfl rfl).trans (AP.ay _ i _)).up
 |@aD s j hs hl=>exact(qdg (ES _).1 (by rw[(ES _).2.1];exact VO _)).trans (Ih _)
 |@aE k m f=>
  have c:Cg H {H with net:=takeS H.net k}:=⟨λ_ _=>Yw,λ_ _=>VO _,λ_=>rfl,λ_=>rfl⟩
  cases b:Hs.node {H with net:=takeS H.net k} m.a8 with
  |none=>rw[Je b];exact c
  |some q=>
   obtain⟨s,j⟩:=q;rw[Jf b];exact(c.trans ((qdg (q5g _ m).2 (q5g _ m).1).trans (Ih _))).trans (AP.take _ _).up
def B6.br(i:Nat)(kind:Int):∀(ks:List Nat) {H:Hs},B6 H->(∀k∈ks,k<H.c)->B6 (Go.Proofs.YtccahlhdifadfaaGreatDoor.telld H i kind ks)
 |[],_,h,_=>h
 |k::ks,H,h,hk=>by
  have e:=Ee H i kind k;have d:B6 (H.aC i kind k):=by
   cases b:H.head k with
   |none=>rw[J6 b];exact h
   |some j=>
    rw[Jd b];split;exact h.add (hk k VB) b _ _;exact h
  exact B6.br i kind ks d (λx c=>by rw[e.2.1];exact hk x (VE _ c))
def B6.a3(h:B6 H)(d:H.c=3)(i:Nat):B6 (H.a3 i):=by rw[I9];have c:=Gv i (H.tx i).ag (H.an i);exact B6.br i 4 _ (h.same ((AP.ay H i _).trans (LV i _ _))) (λk b=>by rw[c.1];have:=Cb b;show k<H.c;omega)
def By.chi(s:By H H')(h:B6 H)(t:H.c=3):B6 H':=by
 cases s with
 |a3=>exact h.a3 t _
 |@tell i k kind j d c hs=>exact B6.br i kind [k] h (λx u=>by rw[VU]at u;omega)
 |prep b j d c f p hs v z y=>exact h.add (Z4 (Cb c)) f _ _
 |place=>exact h.same (AP.ay _ _ _)
 |@av i j d hs p=>
  have e:=FI H i;exact h.same ⟨e.1,e.2.1,e.2.2.2.2,λs=>by rw[e.2.2.2.1],λs=>by rw[e.2.2.2.1],λs=>by rw[e.2.2.2.1]⟩
 |decide b j d f p hs v=>exact h.add Z0 f _ _
 |commit=>exact h.same (AP.ay _ _ _)
 |aA=>exact h.same (AP.ay _ _ _)
 |got=>exact h.same (AP.ax rfl rfl rfl)
 |@wait i x mode=>exact h.same ((AP.ax (x:={H.sh (Aa x)with tab:=Ap (H.sh (Aa x)).tab i x mode}) rfl rfl rfl).trans (AP.ay _ i _))
 |aD hs hl=>exact h.bf Z0 hl
 |aE c=>exact h.aE t c
def L0(D:Nat->Prop)(H:Hs):Prop:=∀i,1<=i->i<=H.m->(H.tx i).aa=3->D i\/∃j,Lv H 2 j/\An (lg H 2 j) 3 i
def L0.mono{D:Nat->Prop}(h:L0 D H)(u:Cg H H')(n:AU H H'):L0 D H':=λi f s e=>by
 obtain⟨a,b⟩:=n i f s e;exact(h i f a b).imp id (λ⟨j,p,d⟩=>⟨j,(u.lv 2 j).2 p,d.mono (λc d=>(u.lg 2 j).subset d)⟩)
def By.nocm(s:By H H'):AU H H'\/∃i,1<=i/\i<=H.m/\AK H 2 3 i/\H'=H.aF i 3:=by
 have d:∀s j c b,AU H (H.add s j c b).2:=λs j c b=>AU.of (Dt H s j c b).2.2.1 (λi=>((Dt H s j c b).2.2.2.2 i).1)
 cases s with
 |@a3 i h f hs=>
  obtain⟨z,_,y⟩:=Ik H i;refine eR (λa E u e=>⟨by rw[z.m]at u;exact u,?_⟩);rw[(y a).1]at e;split at e;cases e;exact e
 |@tell i k kind h f t hs=>exact eR (AU.of (Ee H i kind k).2.2.1 (λa=>((Ee H i kind k).2.2.2.2 a).1))
 |prep=>exact eR (d _ _ _ _)
 |@place i k a=>exact eR (AU.of rfl (q29 H i k a))
 |@av i=>exact eR (AU.of (q6z (H:=H) (i:=i)).2 (λa=>((q6z (H:=H) (i:=i)).1 a).1))
 |decide=>exact eR (d _ _ _ _)
 |commit h f hs v=>exact eS ⟨_,h,f,v,rfl⟩
 |@aA i k h f t hs A D=>
  exact eR (AU.of rfl (λx=>by
   show(Af H.tx i _ x).aa=_;by_cases e:x=i;subst e;rw[Aq];rw[Ay e]))
 |got=>exact eR (AU.of rfl (λ_=>rfl))
 |@wait i x mode=>
  exact eR (AU.of rfl (λa=>by
   show(Af H.tx i _ a).aa=_;by_cases e:a=i;subst e;rw[Aq];rfl;rw[Ay e]))
 |aD=>exact eR (AU.of rfl (λ_=>rfl))
 |@aE k m t=>
  refine eR ?_;cases p:Hs.node {H with net:=takeS H.net k} m.a8 with
  |none=>rw[Je p];exact AU.of rfl (λ_=>rfl)
  |some r=>
   obtain⟨s,j⟩:=r;rw[Jf p];have e:=BK.take ((({H with net:=takeS H.net k} : Hs).au s j (((H.sh s).nd j).step m).1).aO (((H.sh s).nd j).step m).2) s;exact AU.of e.m (λa=>(e.tx a).1)
def L0.step{D:Nat->Prop}(h:L0 D H)(s:By H H'):L0 D H':=by
 obtain n|⟨i,y,x,⟨j,p,c,q1,t,f,d,_⟩,rfl⟩:=s.nocm
 ·exact h.mono s.up n
 intro a v u e;by_cases b:a=i;subst b;exact eS ⟨j,(CS q1).1,c,N2 t,f,d⟩;have e:(Af H.tx i _ a).aa=3:=e;rw[Ay b]at e;exact h a v u e
structure Ac(H:Hs)(B:Int):Prop where
 wf:Wf H
 c:H.c=3
 ch:B6 H
 bT:Di H
 ep:∀s,s<3->0<=(H.sh s).ad/\(H.sh s).ad<=B
def Ac.step{B:Int}(h:Ac H B)(s:By H H'):Ac H' B/\BC H H':=
 ⟨⟨s.wf h.wf h.c,s.sm.c.trans h.c,s.chi h.ch h.c,(h.bT.step s h.ch h.wf h.c).1,λk b=>by rw[s.up.ep];exact h.ep k b⟩,(h.bT.step s h.ch h.wf h.c).2⟩
def Ac.aK{B:Int}(s:Ag H H'):Ac H B->Ac H' B/\BC H H'/\Cg H H':=by
 induction s with
 |refl=>exact λh=>⟨h,BC.refl _,Cg.refl _⟩
 |step s _ b=>
  intro h;obtain⟨j,f⟩:=h.step s;obtain⟨e,d,c⟩:=b j;exact⟨e,f.trans d,s.up.trans c⟩
def L0.aK{D:Nat->Prop}(s:Ag H H'):L0 D H->L0 D H':=by
 induction s with
 |refl=>exact id
 |step s _ b=>exact λh=>b (h.step s)
inductive Fw:Hs->Hs->Prop where
 |aK {H H':Hs} (h:Ag H H'):Fw H H'
 |a5 {H:Hs} (h:H.m<60):Fw H H.a5
 |write {H H1:Hs} {i:Nat} {l:List Pr} (s:Ag H H1) (h1:1<=i) (hi:i<=H1.m) (hl:l.length<=20) (hp:∀p∈l,Uk p):Fw H (H1.ay i {H1.tx i with ae:=l})
 |ends {H H':Hs} {i:Nat} (h1:1<=i) (hi:i<=H.m) (hs:(H.tx i).aa=1) (hw:(H.tx i).ak=[]) (s:Ag (H.aB i) H'):Fw H H'
 |net {H:Hs} {l:List Ms} (hl:∀m∈l,m∈H.net.l):Fw H {H with net:=⟨l,H.net.aq⟩}
 |fail {H:Hs} (id:Int):Fw H (H.fail id)
 |fix {H H':Hs} (s:FO H H'):Fw H H'
def Ac.fix{B:Int}(h:Ac H B)(p:B<=1000000){s:Nat}(hs:s<3):Ac (H.fix s) (B+1)/\BC H (H.fix s)/\AU H (H.fix s)/\FixF H (H.fix s) s:=by have b:=U5.fix (h.ch.toF (s:=s) (by rw[h.c];exact hs) (Z4 (h.ep s hs)));have t:BC H (H.fix s):=BC.of b.m (λi=>⟨(b.tx i).1,(b.tx i).2.2.2.2⟩);have n:AU H (H.fix s):=AU.of b.m (λi=>(b.tx i).1);refine⟨⟨h.wf.fix (by rw[h.c];exact hs),b.c.trans h.c,b.chi,h.bT.sub t n (λk j c f=>⟨j,(b.lv k j (by rw[h.c];exact c)).1 f,by rw[b.lg];exact VO _⟩),λk c=>?_⟩,t,n,b⟩;have d:=h.ep k c;by_cases e:k=s;subst e;obtain⟨e,_⟩|e:=b.ad<;> rw[e]<;>omega;rw[b.sh k e];omega
def Ac.mono{B B':Int}(h:Ac H B)(b:B<=B'):Ac H B':=⟨h.wf,h.c,h.ch,h.bT,λs hs=>Z4 (h.ep s hs)⟩
structure FxU(H H':Hs):Prop where
 lv:∀k j,k<3->(Lv H' k j↔Lv H k j)
 lg:∀k j,lg H' k j=lg H k j
 tm:BC H H'
 nc:AU H H'
 tx:∀i,(H'.tx i).aa=(H.tx i).aa/\(H'.tx i).ae=(H.tx i).ae/\(H'.tx i).af=(H.tx i).af/\(H'.tx i).aw=(H.tx i).aw/\(H'.tx i).ah=(H.tx i).ah
 m:H'.m=H.m
def FxU.refl(H:Hs):FxU H H:=⟨λ_ _ _=>Yw,λ_ _=>rfl,BC.refl H,AU.of rfl (λ_=>rfl),λ_=>⟨rfl,rfl,rfl,rfl,rfl⟩,rfl⟩
def AU.trans{A B C:Hs}(h:AU A B)(k:AU B C):AU A C:=λi c d e=>by
 obtain⟨a,b⟩:=k i c d e;exact h i c a b
def FxU.trans{A B C:Hs}(h:FxU A B)(k:FxU B C):FxU A C:=
 ⟨λa b c=>(k.lv a b c).trans (h.lv a b c),λa b=>(k.lg a b).trans (h.lg a b),h.tm.trans k.tm,h.nc.trans k.nc,
  λi=>⟨(k.tx i).1.trans (h.tx i).1,(k.tx i).2.1.trans (h.tx i).2.1,(k.tx i).2.2.1.trans (h.tx i).2.2.1,(k.tx i).2.2.2.1.trans (h.tx i).2.2.2.1,(k.tx i).2.2.2.2.trans (h.tx i).2.2.2.2⟩,k.m.trans h.m⟩
def Ac.aT{B:Int}(h:Ac H B)(d:B<=1000000){s:Nat}(hs:s<3):Ac (H.aT s) (B+1)/\FxU H (H.aT s):=by
 unfold Hs.aT;split
 ·exact⟨h.mono Z0,FxU.refl H⟩
 obtain⟨p,f,e,b⟩:=h.fix d hs;exact⟨p,λk j c=>b.lv k j (by rw[h.c];exact c),b.lg,f,e,b.tx,b.m⟩
def qa6(c:1<=i)(b:i<=H.m):Ag H (H.aQ i):=by unfold Hs.aQ;split;rename_i h;exact Ag.cS (By.a3 c b (eR h.1));exact Ag.refl H
def q5a:∀(l:List Nat) {H:Hs},(∀i∈l,1<=i/\i<=H.m)->Ag H (l.foldl Hs.aQ H)
 |[],H,_=>Ag.refl H
 |i::l,H,hl=>by
  have b:=qa6 (H:=H) (hl i VB).1 (hl i VB).2;exact b.trans (q5a l (λa c=>by rw[b.sm.m];exact hl a (VE _ c)))
def Ac.cu{B:Int}(h:Ac H B)(e:B<=999000):Ac ([0,1,2].foldl Hs.aT H) (B+3)/\FxU H ([0,1,2].foldl Hs.aT H):=by obtain⟨d,u1⟩:=h.aT Z0 (s:=0) Z0;obtain⟨c,u2⟩:=d.aT Z0 (s:=1) Z0;obtain⟨b,u3⟩:=c.aT Z0 (s:=2) Z0;exact⟨b.mono Z0,(u1.trans u2).trans u3⟩
def qbb(h:FO H H'){B:Int}(e:Ac H B)(d:B<=999000):Ag ([0,1,2].foldl Hs.aT H) H':=by
 obtain⟨f,u1⟩:=e.cu d;have hs:Ag ([0,1,2].foldl Hs.aT H) ([0,1,2].foldl Hs.aT H).bE:=q5a _ (λi c=>by
  rw[XJ]at c;omega)
 have b:=(Ac.aK hs f).1;exact hs.trans (q2g h b.wf b.c)
def Ac.dp{B:Int}(h:Ac H B)(R:B<=999000)(a:Fw H H'){D:Nat->Prop}(J:∀i,1<=i->i<=H.m->(H.tx i).aa=3->D i):Ac H' (B+3)/\BC H H'/\L0 D H':=by
 have A:L0 D H:=λi x f e=>eR (J i x f e)
 cases a with
 |aK s=>exact⟨(Ac.aK s h).1.mono Z0,(Ac.aK s h).2.1,L0.aK s A⟩
 |a5 h6=>
  have t:BC H H.a5:=by
   refine⟨by show H.m<=H.m+1;omega,λa _ O e=>?_,λa _ O e=>?_,λa _ O _=>?_⟩;show(Af H.tx (H.m+1) _ a).aa=_;rw[Ay Z0];exact e;show(Af H.tx (H.m+1) _ a).aa=_;rw[Ay Z0];exact e;show(Af H.tx (H.m+1) _ a).ah=_;rw[Ay Z0]
  have n:AU H H.a5:=λa p v e=>by
   have e:(Af H.tx (H.m+1) Ei a).aa=3:=e;have v:a<=H.m+1:=v;by_cases d:a=H.m+1;rw[d,Aq]at e;cases e;rw[Ay d]at e;exact⟨Z0,e⟩
  have u:AP H H.a5:=⟨rfl,rfl,rfl,λ_=>rfl,λ_=>rfl,λ_=>rfl⟩
  exact⟨⟨h.wf.a5 h6,h.c,h.ch.same u,h.bT.sub t n (BU.same u),λs hs=>by have:=h.ep s hs;show 0<=(H.sh s).ad/\(H.sh s).ad<=B+3;omega⟩,t,A.mono u.up n⟩
 |@write c i l s x f hl Y=>
  obtain⟨p,v,S⟩:=Ac.aK s h;have y:∀a,((c.ay i {c.tx i with ae:=l}).tx a).aa=(c.tx a).aa/\((c.ay i {c.tx i with ae:=l}).tx a).ah=(c.tx a).ah:=λa=>by
   show(Af c.tx i _ a).aa=_/\(Af c.tx i _ a).ah=_;by_cases e:a=i;subst e;rw[Aq];exact⟨rfl,rfl⟩;rw[Ay e];exact⟨rfl,rfl⟩
  have t:BC c (c.ay i {c.tx i with ae:=l}):=BC.of rfl y;have n:AU c (c.ay i {c.tx i with ae:=l}):=AU.of rfl (λa=>(y a).1);have u:=AP.ay c i {c.tx i with ae:=l};exact⟨⟨p.wf.ae x f hl Y,p.c,p.ch.same u,p.bT.sub t n (BU.same u),λs hs=>by have:=p.ep s hs;show 0<=(c.sh s).ad/\(c.sh s).ad<=B+3;omega⟩,v.trans t,(L0.aK s A).mono u.up n⟩
 |@ends _ i x f hs hw s=>
  have y:∀a,a≠i->(H.aB i).tx a=H.tx a:=λa e=>Ay e _
  have z:((H.aB i).tx i).aa=2/\((H.aB i).tx i).ah=(H.tx i).ah:=by
   show(Af H.tx i _ i).aa=_/\(Af H.tx i _ i).ah=_;rw[Aq];exact⟨rfl,rfl⟩
  have t:BC H (H.aB i):=by
   refine⟨Hi _,λa _ _ e=>?_,λa _ _ e=>?_,λa _ _ _=>?_⟩;by_cases d:a=i;subst d;rw[e]at hs;cases hs;rw[y a d];exact e;by_cases d:a=i;subst d;rw[e]at hs;cases hs;rw[y a d];exact e;by_cases d:a=i;subst d;exact z.2;rw[y a d]
  have n:AU H (H.aB i):=λa p v e=>by
   refine⟨v,?_⟩;by_cases d:a=i;subst d;rw[z.1]at e;cases e;rw[y a d]at e;exact e
  have u:=AP.ay H i {H.tx i with aa:=2,aw:=λk=>if ((H.tx i).af k).isSome then Bs (-1)else(H.tx i).aw k};have hA:Ac (H.aB i) B:=⟨h.wf.aB x f,h.c,h.ch.same u,h.bT.sub t n (BU.same u),h.ep⟩
  obtain⟨p,v,S⟩:=Ac.aK s hA;exact⟨p.mono Z0,t.trans v,L0.aK s (A.mono u.up n)⟩
 |@net l hl=>
  have u:Cg H {H with net:=⟨l,H.net.aq⟩}:=⟨λ_ _=>Yw,λ_ _=>VO _,λ_=>rfl,λ_=>rfl⟩
  have t:BC H {H with net:=⟨l,H.net.aq⟩}:=BC.of rfl (λ_=>⟨rfl,rfl⟩);have n:AU H {H with net:=⟨l,H.net.aq⟩}:=AU.of rfl (λ_=>rfl);refine⟨⟨?_,h.c,h.ch.ez hl,h.bT.sub t n (λk j _ G=>⟨j,G,VO _⟩),λs hs=>by have:=h.ep s hs;show 0<=(H.sh s).ad/\(H.sh s).ad<=B+3;omega⟩,t,A.mono u n⟩;exact⟨h.wf.n4,h.wf.c3,h.wf.cr,h.wf.nd,h.wf.tab,h.wf.sto,h.wf.aq,λm Z=>h.wf.net m (hl m Z),h.wf.down,h.wf.tx,h.wf.tm,h.wf.dY⟩
 |fail id=>
  have hs:(H.fail id).m=H.m/\(H.fail id).tx=H.tx/\(∀s,((H.fail id).sh s).ad=(H.sh s).ad)/\(H.fail id).c=H.c/\∀s j,lg (H.fail id) s j=lg H s j/\(Lv (H.fail id) s j->Lv H s j):=by
   cases M:H.node id with
   |none=>rw[q53 M];exact⟨rfl,rfl,λ_=>rfl,rfl,λ_ _=>⟨rfl,λh=>h⟩⟩
   |some q=>
    obtain⟨s,j⟩:=q;rw[q52 M];have e:∀k,(((H.bm s id).cB id).sh k).ad=(H.sh k).ad/\(((H.bm s id).cB id).sh k).nd=(H.sh k).nd/\∀i,(((H.bm s id).cB id).sh k).aq i=L1->(H.sh k).aq i=L1:=λk=>by
     show((H.bm s id).sh k).ad=_/\((H.bm s id).sh k).nd=_/\∀i,((H.bm s id).sh k).aq i=L1->_;by_cases U:k=s;subst U;have:(H.bm k id).sh k = {H.sh k with aq:=λi=>decide (i=id) || (H.sh k).aq i}:=Aq _ _ _;rw[this];exact⟨rfl,rfl,λi f=>(Bool.or_eq_false_iff.1 f).2⟩;have:(H.bm s id).sh k=H.sh k:=Ay U _;rw[this];exact⟨rfl,rfl,λi f=>f⟩
    refine⟨rfl,rfl,λk=>(e k).1,rfl,λk a=>⟨by unfold lg;rw[(e k).2.1],λhl=>?_⟩⟩;obtain⟨X,K⟩:=hl;rw[(e k).2.1]at K;exact⟨X,(e k).2.2 _ K⟩
  have t:BC H (H.fail id):=BC.of hs.1 (λi=>by rw[hs.2.1];exact⟨rfl,rfl⟩);have n:AU H (H.fail id):=AU.of hs.1 (λi=>by rw[hs.2.1]);exact⟨⟨h.wf.fail h.c id,hs.2.2.2.1.trans h.c,h.ch.fail h.c id,h.bT.sub t n (λk j _ G=>⟨j,(hs.2.2.2.2 k j).2 G,by rw[(hs.2.2.2.2 k j).1];exact VO _⟩),λs E=>by rw[hs.2.2.1];have:=h.ep s E;omega⟩,t,
   λi x f e=>eR (J i x (by rw[<- hs.1];exact f) (by rw[hs.2.1]at e;exact e))⟩
 |fix s=>
  obtain⟨x,u1⟩:=h.cu R;have s2:=qbb s h R;obtain⟨p,v,S⟩:=Ac.aK s2 x;have I:L0 D ([0,1,2].foldl Hs.aT H):=λi q1 W e=>by
   obtain⟨a,b⟩:=u1.nc i q1 W e;exact eR (J i q1 a b)
  exact⟨p,u1.tm.trans v,L0.aK s2 I⟩
end
def AJ(n:Nat):Nat->Hs
 |0=>hsE n
 |q+1=>(AJ n q).more
def E5(n:Nat):BJ n=AJ n 3:=rfl
def Hs.cc(H:Hs):Hs:={H with c:=H.c+1}
def qav(H:Hs):H.more=H.cc.fix H.c:=rfl
structure Hk(n q:Nat)(H:Hs):Prop where
 wf:Wf H
 c:H.c=q
 n:H.n=n
 m:H.m=0
 b4:∀s,q<=s->H.sh s=D4 s
 ch:B6 H
 lg:∀s j,lg H s j=[]
 ep:∀s,s<q->0<=(H.sh s).ad/\(H.sh s).ad<=1
def Wf.cc{H:Hs}(h:Wf H)(t:H.c<3)(d:H.sh H.c=D4 H.c):Wf H.cc:=by
 have b:∀s,s<H.c+1->s≠H.c->s<H.c:=λs v u=>Z0
 refine⟨h.n4,by show H.c+1<=3;omega,h.cr,λs j hs p=>?_,λs hs=>?_,λs hs=>?_,λs hs i c=>?_,h.net,h.down,h.tx,h.tm,h.dY⟩;have hs:s<H.c+1:=hs;by_cases e:s=H.c;subst e;show Ct H.c j ((H.sh H.c).nd j);rw[d];exact⟨rfl,λx f=>(by cases f),λx f=>(by cases f)⟩;exact h.nd s j (b s hs e) p;have hs:s<H.c+1:=hs;by_cases e:s=H.c;subst e;show Dy (H.sh H.c).tab;rw[d];exact Dy.bo;exact h.tab s (b s hs e);have hs:s<H.c+1:=hs;by_cases e:s=H.c;subst e;show Dz (H.sh H.c).sto;rw[d];exact Dz.bo;exact h.sto s (b s hs e);have hs:s<H.c+1:=hs;have c:(H.sh s).aq i=VD:=c;by_cases e:s=H.c;subst e;rw[d]at c;cases c;exact h.aq s (b s hs e) i c
def B6.cc{H:Hs}(h:B6 H)(t:H.sh H.c=D4 H.c)(E:∀s j,H.c<=s->j<H.n->H.net.aq (BW s j)=L1):U5 H.cc H.c:=by
 have b:∀s,s<H.c+1->s≠H.c->s<H.c:=λs z y=>Z0
 have d:∀j,(H.sh H.c).nd j=nd0 (10*H.c+j):=λj=>by rw[t];rfl
 have f:∀j,lg H H.c j=[]:=λj=>by unfold lg;rw[d];rfl
 refine⟨Y1 _,h.n4,λs j hs c=>?_,λa x p=>?_,λs hs i j u v c=>?_,λs hs i j v c=>?_,λs j hs c=>?_,λm A=>?_,λj c=>eS ⟨f j,by show((H.sh H.c).nd j).ao=0;rw[d];rfl⟩,by show 0<=(H.sh H.c).ad/\(H.sh H.c).ad<=1000000;rw[t];exact⟨WH _,by show(0:Int)<=1000000;omega⟩⟩;have hs:s<H.c+1:=hs;by_cases e:s=H.c;subst e;show((H.sh H.c).nd j).id=_;rw[d];rfl;exact h.bL s j (b s hs e) c;have x:a<H.c+1:=x;obtain⟨L,g⟩:=h.bX a (b a x p);exact⟨L,g.aH,g.lt,g.mem,g.nd⟩;have hs:s<H.c+1:=hs;by_cases e:s=H.c;subst e;show lg H H.c j <+: lg H H.c i;rw[f,f];exact VO _;exact h.pre s (b s hs e) i j u v c;have hs:s<H.c+1:=hs;by_cases e:s=H.c;subst e;show((H.sh H.c).nd i).ao<=_;rw[d];show(0:Int)<=_;omega;exact h.st s (b s hs e) i j v c;have hs:s<H.c+1:=hs;by_cases e:s=H.c;subst e;show H.net.aq _=(H.sh H.c).aq _;rw[t,E H.c j (Hi _) c];rfl;exact h.dn s j (b s hs e) c;obtain⟨z,y,s,j,hs,c,D,hI⟩:=h.ms m A;exact⟨z,y,s,j,Nat.lt_succ_of_lt hs,c,D,hI.ep,hI.fwd,hI.st⟩
def TQ(H:Hs)(s:Nat):(H.fix s).net.aq=H.net.aq:=by
 unfold Hs.fix;split;rfl;have c:∀(ids:List Int)(l:List Nat)(H:Hs),(l.foldl (Hs.aM s ids) H).net.aq=H.net.aq:=by
  intro ids l;induction l with
  |nil=>intro H;rfl
  |cons j l b=>intro H;exact(b _).trans (q38 _ _)
 unfold Hs.bN;simp only;rw[(BK.take _ s).net];exact c _ _ _
def Hk.more{n q:Nat}{H:Hs}(h:Hk n q H)(f:q<3)(p:∀i,H.net.aq i=L1):Hk n (q+1) H.more:=by
 have c:=h.b4 q (Hi _);have t:=h.c;subst t;have b:=(h.ch.cc c (λs j _ _=>p _)).fix;have d:=(h.wf.cc f c).fix (s:=H.c) (Y1 _);refine⟨d,b.c,b.n.trans h.n,b.m.trans h.m,λs hs=>?_,b.chi,λs j=>?_,λs hs=>?_⟩;rw[qav,b.sh s Z0];exact h.b4 s Z0;rw[qav,b.lg s j];exact h.lg s j;by_cases e:s=H.c;subst e;rw[qav];have u:(H.cc.sh H.c).ad=0:=by show(H.sh H.c).ad=0;rw[c];rfl
 obtain⟨e,_⟩|e:=b.ad<;> rw[e,u]<;>omega;rw[qav,b.sh s e];exact h.ep s Z0
def M1(d:n<=4):Hk n 0 (hsE n):=by
 refine⟨⟨d,VG _,VG _,λs j hs=>ZB hs (by show ¬s<0;omega),λs hs=>ZB hs (by show ¬s<0;omega),λs hs=>ZB hs (by show ¬s<0;omega),λs hs=>ZB hs (by show ¬s<0;omega),λm c=>(by cases c),λi b=>(by cases b),λi e b=>ZB b (by show ¬i<=0;omega),rfl,λi e b=>ZB b (by show ¬i<=0;omega)⟩,
  rfl,rfl,rfl,λ_ _=>rfl,⟨d,λs j hs=>ZB hs (by show ¬s<0;omega),λs hs=>ZB hs (by show ¬s<0;omega),λs hs=>ZB hs (by show ¬s<0;omega),λs hs=>ZB hs (by show ¬s<0;omega),λs j hs=>ZB hs (by show ¬s<0;omega),λm c=>(by cases c)⟩,λ_ _=>rfl,λs hs=>ZB hs Z0⟩
def q3p{n:Nat}(b:n<=4):∀q,q<=3->Hk n q (AJ n q)/\∀i,(AJ n q).net.aq i=L1
 |0,_=>⟨M1 b,λ_=>rfl⟩
 |q+1,e=>by
  obtain⟨d,c⟩:=q3p b q Z0;refine⟨d.more Z0 c,λi=>?_⟩;show((AJ n q).cc.fix _).net.aq i=L1;rw[TQ];exact c i
def q8w(d:n<=4):Ac (BJ n) 1/\(BJ n).m=0/\(BJ n).n=n:=by obtain⟨h,_⟩:=q3p d 3 (Hi _);rw[E5];refine⟨⟨h.wf,h.c,h.ch,⟨λk _ j _=>?_,λj _=>?_,λi s f=>?_⟩,h.ep⟩,h.m,h.n⟩;rw[h.lg];intro p c b;simp at b;rw[h.lg];intro c e;cases e;have:=h.m;omega
def kA:Sx:=[97]
def prA:Pr:=⟨⟨#[97]⟩,⟨#[120]⟩,L1⟩
def tabA:Tb:=Ar (λ_=>B0) kA (Bs ⟨Az (λ_=>B0) 1 2,[]⟩)
structure Cs where
 a0:Nd
 b0:Nd
 a1:Nd
 b1:Nd
 a2:Nd
 b2:Nd
 net:List Ms
 aa:Int
 ah:Int
 pl:Option Int
 lk:Bool
 st:Bool
 d0:Nat
 d1:Nat
 d2:Nat
def prepC:Cm:=⟨2,1,0,[prA]⟩
def ids2(s:Nat):List Int:=[10*(s:Int)+((0:Nat):Int),10*(s:Int)+((1:Nat):Int)]
def n0(s j:Nat):Nd×List Ms:=((nd0 (10*s+j)).bS 1 (ids2 s)).aD
def x0:Cs:=⟨(n0 0 0).1,(n0 0 1).1,(n0 1 0).1,(n0 1 1).1,(n0 2 0).1,(n0 2 1).1,
 (EW ⟨[],λ_=>L1⟩ ((n0 0 0).2++(n0 0 1).2++(n0 1 0).2++(n0 1 1).2++(n0 2 0).2++(n0 2 1).2)).l,2,0,Bs (-1),VD,L1,0,0,0⟩
def t1:Bu:={Ei with af:=AS (λ_=>B0) 1 1}
def hP:Hs:={ (BJ 2).a5 with sh:=Af (BJ 2).sh 1 { (BJ 2).sh 1 with tab:=tabA},tx:=Af (BJ 2).a5.tx 1 ⟨1,[prA],AS (λ_=>B0) 1 1,λ_=>B0,0,[]⟩}
def prV(x:Pr):S2:=.agg #[ZV x.key,ZV x.val,ZX x.aR]
def rflat:∀(l:List (Pr)) (j:Nat) (x:Pr),l[j]? = Bs x->∀i,i<3->(l.flatMap Dj)[j*3+i]? = (Dj x)[i]?
 |[],j,p,h,i,b=>by simp at h
 |q::l,0,p,h,i,b=>by
  simp at h;subst h;rw[VH,VZ (by show _<3;omega)];simp
 |q::l,j+1,p,h,i,b=>by
  have d:l[j]? = Bs p:=Z6 h;have e:(j+1)*3+i=(j*3+i)+3:=by omega
  have c:(Dj q).length=3:=rfl;rw[e,VH,Wg (by rw[c];omega),c,Nat.add_sub_cancel];exact rflat l j p d i b
def SK(w:D0)(g o:Nat)(x:Pr):Prop:=w.cell? ⟨g,o,B0⟩=Bs (ZV x.key)/\w.cell? ⟨g,o+1,B0⟩=Bs (ZV x.val)/\w.cell? ⟨g,o+2,B0⟩=Bs (ZX x.aR)
def rat{B:Nat}{A:Option Addr}{l:List (Pr)}(h:Rd w B 3 A n (l.flatMap Dj))(hl:l.length=n)(s:j<n):∃g b x,A=Bs ⟨g,b,B0⟩/\g<B/\l[j]? = Bs x/\SK w g (b+j*3) x:=by obtain⟨g,b,e,p,d⟩:=h.2 Z0;have f:l[j]? = Bs l[j]:=K0 Z0;have c:=rflat l j _ f;exact⟨g,b,l[j],e,p,f,d (j*3) _ (c 0 Z0),d (j*3+1) _ (c 1 Z0),d (j*3+2) _ (c 2 Z0)⟩
def rPred(F:Nat)(lb:Array S2)(p:Pr->Bool)(g:Option Nat)(w:D0):Prop:=
 ∀(W:D0)(x:Pr),Fr (λk=>g=Bs k) w W->VX Tryz.prog F (#[prV x]++lb) W λe w'=>e=ZY (ZX (p x))/\VI W.heap.size W w'
def DO(p:Pr->Bool)(L:List (Pr)):Int:=match L.findIdx? p with|some i=>(i:Int)|none=>-1
def rIdx_lo(p:Pr->Bool)(L:List (Pr)):-1<=DO p L/\DO p L<=L.length:=by unfold DO;rcases h:L.findIdx? p with _|i;simp only;omega;rw[VP]at h;obtain⟨hl,b,_⟩:=h;simp only;omega
def rIRel(p:Pr->Bool)(L:List (Pr))(n:Nat)(w:D0)(v:S2)(wr:D0):Prop:=∃j:Nat,v=Wm eQ j/\j<=n/\(∀x∈L.take j,p x=L1)/\VI w.heap.size w wr
def rbfr{g:Option Nat}(b:VI w.heap.size w W):Fr (λk=>g=Bs k) w W:=⟨b.os,b.tape,b.output,b.size,λk c _=>b.block k c⟩
def MB(F:Nat)(lb:Array S2)(p:Pr->Bool)(W:Option Nat)(A:Option Addr)(n k:Nat)(L:List (Pr))(w:D0)(eg:∀args w,(callFunc F args).run Tryz.prog w=.ok (.enter F args) w)
  (d:rPred F lb p W w) (R:Rd w w.heap.size 3 A n (L.flatMap Dj)) (hl:L.length=n) (hn:n<=100000) :
  VX Tryz.prog 36 #[WK A n k,.func (.func F) #[] lb] w λe w'=>e=ZY (Wm eQ (DO p L))/\VI w.heap.size w w':=by
 have Y:=LH R;clear R;have Z:=LH d;clear d;go_enter Tryz.func36,Tryz.ntmps36;go_wp2_with fail;go_loopw [8] (rIRel p L n w) (λv _=>n-(intOf v).toNat)
 case atStart=>exact⟨0,rfl,VG _,(λx z=>by simp at z),VC _ _⟩
 obtain⟨j,rfl,hj,f,c⟩:=hrel;by_cases S:(j:Int)<n
 ·obtain⟨X,o',x,rfl,O,z,h0,h1,h2⟩:=rat (Y.o.below c) hl (j:=j) Z0;have U:X<wr.heap.size:=VF O c.size;have b:=Z.o wr x (rbfr c);have J:j<L.length:=by omega
  have u:p x=VD->DO p L=j:=λd=>by
   have:L.findIdx? p=Bs j:=by
    rw[VP];refine⟨J,?_,λi hi=>?_⟩;rw[<- Option.some.inj ((K0 J).symm.trans z)]at d;exact d;simp only[Bool.not_eq_true];exact f _ (by rw[List.mem_take_iff_getElem];exact⟨i,Z0,rfl⟩)
   unfold DO;rw[this]
  have h:p x=L1->∀y∈L.take (j+1),p y=L1:=λd y D=>by
   rw[VV,z]at D;obtain D|D:=ZD.1 D;exact f y D;simp at D;rw[D];exact d
  have K:=LH u;clear u;have E:=LH h;clear h;have a0:=LH f;clear f;have HX:=LH z;clear z;unfold prV at b;rcases d:p x with _|_
  ·rw[d]at b;have G:=LH d;clear d;have M:=LH b;clear b;go_wp2_with fail;refine M.o.mono ?_;rintro e w2 ⟨rfl,t⟩;clear M;have I:=LH (c.trans (t.mono c.size));clear t;go_wp2_with fail;go_roundw
   case rel=>exact⟨j+1,rfl,Z0,E.o G.o,I.o⟩
   case measure=>simp[intOf];omega
  rw[d]at b;have G:=LH d;clear d;have M:=LH b;clear b;go_wp2_with fail;refine M.o.mono ?_;rintro e w2 ⟨rfl,t⟩;clear M;have I:=LH (c.trans (t.mono c.size));clear t;go_wp2_with fail;go_ret;exact⟨by rw[K.o G.o];rfl,I.o⟩
 obtain rfl:j=n:=by omega
 have s:DO p L = -1:=by
  have:L.findIdx? p=B0:=by
   rw[List.findIdx?_eq_none_iff];intro x z;exact f x (by rw[List.take_of_length_le Z0];exact z)
  unfold DO;rw[this]
 have HN:=LH s;clear s f;go_wp2_with fail;go_ret;rw[HN.o];exact⟨rfl,c⟩
variable {id mode:Int}
section
variable {k:Sx}
def IC(h:Wf H)(s:H.c=3)(f:1<=i)(e:i<=H.m)(d:k∈names)(p:Cp (H.tx i).ak k=L1):Wf (H.bA i k mode).2/\Sz H (H.bA i k mode).2:=by
 have hs:Aa k<H.c:=Z4 (FJ k);have w1:Wf (H.b7 i (Aa k) k mode):=h.b7 f e hs d;have s1:Sz H (H.b7 i (Aa k) k mode):=⟨rfl,rfl,rfl⟩
 cases e1:CF (Ad (H.sh (Aa k)).tab k).ws i with
 |true=>rw[q2z e1];exact⟨w1,s1⟩
 |false=>
  cases c:Ai (Ad (H.sh (Aa k)).tab k).h i mode (Ad (H.sh (Aa k)).tab k).ws with
  |true=>rw[q3d e1 c];exact⟨w1,s1⟩
  |false=>
   by_cases j:(Ad (H.sh (Aa k)).tab k).ws.length=50;rw[q3e e1 c j];exact⟨w1,s1⟩;rw[q2k e1 c j];have w2:Wf ((H.b7 i (Aa k) k mode).bq i k mode):=w1.bq f e d p;exact⟨w2.bD _ s,Sz.trans (b:=(H.b7 i (Aa k) k mode).bq i k mode) ⟨rfl,rfl,rfl⟩ (q4q _ _)⟩
def q6n(h:Wf H)(t:H.c=3)(s:k∈names):Wf (H.aJ id k mode).2/\Sz H (H.aJ id k mode).2:=by
 by_cases u:id<1\/H.m<id;rw[q1l u];exact⟨h,Sz.refl _⟩;obtain⟨i,rfl⟩:∃i:Nat,id=i:=⟨id.toNat,Z0⟩
 have e:1<=i:=by omega
 have d:i<=H.m:=by omega
 have c:=Ex s;by_cases s1:(H.tx i).aa=1;by_cases f:H.head (Aa k)=B0;rw[q4z e d s1 c f];exact⟨h,Sz.refl _⟩;by_cases p:Rs H i (Aa k);rw[q41 e d s1 c f p];exact⟨h.a3 t e d,(Ik H i).1.sz⟩;have w1:Wf (H.aA i (Aa k)):=h.aA e d (FJ k);have s2:Sz H (H.aA i (Aa k)):=⟨rfl,rfl,rfl⟩
 cases j:Cp (H.tx i).ak k with
 |true=>rw[q3z e d s1 c f p j];exact⟨w1,s2⟩
 |false=>
  rw[q78 e d s1 c f p j];obtain⟨a,b⟩:=IC (mode:=mode) w1 t e (show i<=(H.aA i (Aa k)).m from d) s (by unfold Hs.aA;rw[UT];exact j);exact⟨a,s2.trans b⟩
 rw[q40 e d s1];exact⟨h,Sz.refl _⟩
def GN(h:(H.aJ id k mode).1=0):1<=id/\id<=H.m:=by by_cases b:id<1\/H.m<id;rw[q1l b]at h;cases h;omega
def E3(k:ByteArray)(p:Pr):Bool:=p.key == k
def S1(l:List Pr)(p:Pr):BX l p=if DO (E3 p.key) l<0 then(if l.length=20 then B0 else Bs (l++[p]))else Bs (l.set (DO (E3 p.key) l).toNat p):=by
 unfold BX DO E3;cases l.findIdx? λo=>o.key == p.key with
 |none=>rfl
 |some q=>simp only;rw[Z7 Z0];rfl
end
def IT(a b:ByteArray):(a == b)=VD↔a=b:=by
 cases a with
 |mk x=>
  cases b with
  |mk y=>
   show(x == y)=VD↔_;rw[beq_iff_eq];exact⟨λh=>by rw[h],λh=>by injection h⟩
def qc1(a b:ByteArray):(a.toList == b.toList)=(a == b):=by rw[Bool.eq_iff_iff,beq_iff_eq,IT,q5t,q5t];exact⟨λh=>by rw[<- Ks a,<- Ks b,h],λh=>by rw[h]⟩
def S3(c:Nat)(k:ByteArray)(w:D0)(j:w.cell? ⟨c,0,B0⟩=Bs (ZV k)) :
  rPred 37 #[ZW (Bs ⟨c,0,B0⟩)] (E3 k) B0 w:=by
 intro W x h;have b:=World.block_lt_of_cell? w _ j;have u:=(h.cell (p:=⟨c,0,B0⟩) b (λe=>nomatch e)).trans j;have t:c<W.heap.size:=VF b h.size;have f:=LH (λo=>(VC W.heap.size W).alloc (Hi _) o);clear j b h;unfold prV;show VX _ _ #[_,_] _ λe w'=>e=ZY (ZX (E3 k x))/\VI W.heap.size W w'
 cases d:(x.key == k)with
 |true=>
  rw[show E3 k x=VD from d];have s:(x.key.toList == k.toList)=VD:=(qc1 _ _).trans d;go_enter Tryz.func37,Tryz.ntmps37;go_wp2_with fail;go_ret;exact⟨rfl,f.o _⟩
 |false=>
  rw[show E3 k x=L1 from d];have s:(x.key.toList == k.toList)=L1:=(qc1 _ _).trans d;go_enter Tryz.func37,Tryz.ntmps37;go_wp2_with fail;go_ret;exact⟨rfl,f.o _⟩
def Uu(P:Av)(own own2:Ah)(H:Hs)(d:Nat)(k:Sx)(c:ByteArray)(gone:Bool)(w:D0)(b:D0):Prop:=
 HI b own2 P H/\AC w own b own2/\Ae b d 45 #[ZV ⟨k.toArray⟩,ZV (if gone then⟨#[]⟩else c),ZX gone]
def put_no{H H2:Hs}{id:Int}{b:Int}(d:p.val.size<=40)(h:H.aJ id (sx p.key) 2=(b,H2))(c:b≠0):H.put id p=(b,H2):=by unfold Hs.put;rw[Z7 Z0];simp only[h];rw[Z8 c]
def put_yes{H H2:Hs}{id:Int}(b:p.val.size<=40)(h:H.aJ id (sx p.key) 2=(0,H2)):H.put id p=match BX (H2.tx id.toNat).ae ⟨p.key,if p.aR then⟨#[]⟩else p.val,p.aR⟩with
   |some l=>(0,H2.ay id.toNat {H2.tx id.toNat with ae:=l})
   |none=>(4,H2):=by
 unfold Hs.put;rw[Z7 Z0];simp only[h];rw[Z7 Z3];rfl
def rIdx_lt(p:Pr->Bool)(L:List Pr):DO p L<0\/DO p L<L.length:=by unfold DO;rcases b:L.findIdx? p with _|i;exact eR Z3;rw[VP]at b;obtain⟨hl,_⟩:=b;exact eS (by simp only;omega)
def HI.fr0(h:HI w own P H)(d:Fr S w w')(x:∀b,own b≠B0->¬S b):HI w' own P H:=by
 have hs:∀b t,own b=Bs t->¬S b:=λb t e=>x b (by rw[e];simp)
 refine⟨λb c=>VF (h.lt b c) d.size,?_,λs f=>?_,λs j f y=>?_,λi p z=>?_⟩;obtain⟨v,h⟩:=h.hs;exact⟨v,h.nt.frF d (hs _ _ h.gt) (λb c=>hs b _ (h.bI b c)),h.cb,h.bI,h.cd,d.own h.shr (λb c=>hs b _ (h.ck b c)),h.ck,d.own h.txr (λb c=>hs b _ (h.cf b c)),h.cf,h.gt⟩;obtain⟨v,h⟩:=h.sh s f;exact⟨v,d.own h.row (λb c=>hs b _ (h.cy b c)),h.cy,h.dd.fr d (hs _ _ h.dP),h.dP,h.tab.fr d (hs _ _ h.gt) (λb c=>hs b _ (h.cw b c)),h.cw,h.sto.fr d (λb c=>c.elim (λe=>e▸hs _ _ h.gt) (λc=>hs b _ (h.cE b c))),h.cE,h.gt⟩;obtain⟨C,V,L,p,u⟩:=h.nd s j f y;exact⟨C,V,L,p.fr d (λb c=>hs b _ (u b c)),u⟩;obtain⟨v,h⟩:=h.tx i p z;exact⟨v,d.al h.al (hs _ _ h.gt),d.own h.ae (λb c=>hs b _ (h.wt b c)),h.af.fr d (h.st.elim (hs _ _) (hs _ _)),h.aw.fr d (hs _ _ h.pt),d.own h.ak (λb c=>hs b _ (h.xt b c)),h.ne,h.gt,h.wt,h.st,h.pt,h.xt⟩
def KO(h:HI w own P H)(wf:Wf H)(b3:EN own)(hc:H.c=3)(id:Int)(k:Sx)(hk:k∈names)(j:ByteArray)(hv:j.size<=40)(gone:Bool):VX Tryz.prog 12 #[pw P.g,Wm eQ id,.agg #[ZV ⟨k.toArray⟩,ZV j,ZX gone]] w (FP P own w (H.put id ⟨⟨k.toArray⟩,j,gone⟩)):=by
 have ap:VI w.heap.size w (w.alloc (eT #[ZV ⟨k.toArray⟩,ZV j,ZX gone] 45)):=(VC w.heap.size w).alloc (Hi _) _;have S:Ae (w.alloc (eT #[ZV ⟨k.toArray⟩,ZV j,ZX gone] 45)) w.heap.size 45 #[ZV ⟨k.toArray⟩,ZV j,ZX gone]:=Ae.b4 w _ _;have aM:=LH (HZ.below (Z:=BZ) own ap);have aX:=LH S;have b8:=LH (show own w.heap.size=B0 from h.free (Hi _));have aS:=LH (Kv (h.below ap) wf b3 hc id k hk 2 (.inr rfl));have aO:=LH (λer H2 (e:H.aJ id k 2=(er,H2)) he=>put_no (H:=H) (H2:=H2) (id:=id) (p:=⟨⟨k.toArray⟩,j,gone⟩) hv (by rw[DG];exact e) he);have ab:=LH (λH2 (e:H.aJ id k 2=(0,H2))=>put_yes (H:=H) (H2:=H2) (id:=id) (p:=⟨⟨k.toArray⟩,j,gone⟩) hv (by rw[DG];exact e));have aR:=LH (q6n (id:=id) (mode:=2) wf hc hk);have aQ:=LH (λe=>GN (H:=H) (id:=id) (k:=k) (mode:=2) e);have q0:=S.cell 0;have q1:=S.cell 1;have q2:=S.cell 2;have ql:=S.lt;simp only[NW,Ft,O0]at q0 q1 q2;have bk:¬(40:Int)<(j.size:Int):=by omega
 have bj:(j.size:Int)<=40:=by omega
 clear h ap S wf;unfold pw at *;go_enter Tryz.func12,Tryz.ntmps12;go_upto_region 1 with (fail)
 generalize (w.alloc _)=w1 at *;generalize aB:w.heap.size=v at *;have ba:=LH aB;clear aB;go_wp2_with fail;refine aS.o.mono ?_;rintro e w2 ⟨rfl,own2,aa,aq⟩;have ao:=Ja aq aX.o b8.o;have J:=LH ao.1;have aP:=LH ao.2;have a0:=LH (aM.o.trans aq);have a6:=aR.o;have af:=aQ.o;rcases hr:H.aJ id k 2 with ⟨er,H2⟩
 rw[hr]at aa a6 af;have an:=aO.o er H2 hr;clear ao aq q0 q1 q2 ql aM aX aS aR aQ aO;by_cases he:er=0
 ·subst he;obtain⟨aE,aD⟩:=af rfl;have a1:=ab.o H2 hr;obtain⟨i,rfl⟩:∃i:Nat,id=i:=⟨id.toNat,Z0⟩
  have h1:1<=i:=by omega
  have hi:i<=H2.m:=by have:=a6.2.m;show i<=H2.m;have e:H2.m=H.m:=this;omega
  rw[show lkV P i k 0=ZZ #[pw (P.gt i),pw (P.gs (Aa k)),ZS]from rfl];rw[show((i:Int)).toNat=i from rfl]at a1;have aN:=LH a1;have ay:=LH aa;have b7:=LH a6.1;generalize H.put _ _=am at *;unfold pw;clear hr a6 af aE aD a1 aa an ab;have b0:=J.o.cell 0;have b1:=J.o.cell 1;have b2:=J.o.cell 2;have bl:=J.o.lt;have bf:=J.o.frozen 1;simp only[NW,Ft,O0]at b0 b1 b2;go_upto_if 29 with (fail)
  go_cut [] (λwx=>Uu P own own2 H2 v k j gone w wx)
  case first=>
   cases gone with
   |true=>
    have a4:=Fr.aL v w2 1 (ZV ⟨#[]⟩);have HP:=LH (show Uu P own own2 H2 v k j VD w (w2.setCell ⟨v,1,B0⟩ (ZV ⟨#[]⟩))from⟨ay.o.fr0 a4 (λb hb e=>hb (by rw[e];exact aP.o)),⟨a0.o.ext,a0.o.fr.trans' a4 (λb hb (e:b=v)=>Z4 ba.o),a0.o.sm⟩,J.o.aZ 1 _⟩);clear a4;go_wp2_with fail;go_meet;exact HP.o
   |false=>
    have HP:=LH (show Uu P own own2 H2 v k j L1 w w2 from⟨ay.o,a0.o,J.o⟩);go_wp2_with fail;go_meet;exact HP.o
  obtain⟨au,aJ,X⟩:=hcut;clear b0 b1 b2 bl bf;have b0:=X.cell 0;have b1:=X.cell 1;have b2:=X.cell 2;have bl:=X.lt;simp only[NW,Ft,O0]at b0 b1 b2;obtain⟨vt,a2⟩:=au.tx i h1 hi;obtain⟨_,_,m2,_,_,_,_,ml⟩:=a2.cells;obtain⟨A5,c5,ar,_,_⟩:=AM a2.ae;have a5:=a2.ae;rw[ar]at m2 a5;have bg:=(b7.o.tx i h1 hi).cd;have aC:=MB 37 #[ZW (Bs ⟨v,0,B0⟩)] (E3 ⟨k.toArray⟩) B0 A5 _ c5 (H2.tx i).ae wc (Rz Tryz.func37 Z1 rfl) (S3 v _ wc b0) (Rd.a7 a5) rfl Z0;have t:=aN.o;rw[S1]at t;have bp:=rIdx_lo (E3 ⟨k.toArray⟩) (H2.tx i).ae;have b9:=LH (rIdx_lt (E3 ⟨k.toArray⟩) (H2.tx i).ae);have bb:=LH aC;have bc:=LH au;have b6:=LH aJ;have ak:=LH X;have bt:=LH a2;have br:=LH ar;clear aC au aJ X a2 ar a5 aN ay a0 J;have aw:=LH t;clear t b1 b2;go_wp2_with fail;refine bb.o.mono ?_;rintro e w4 ⟨rfl,U⟩;have aj:=LH (bc.o.below U);have av:=LH (b6.o.trans (HZ.below own2 U));have m4:=(U.cell (p:=⟨P.gt i,2,B0⟩) ml).trans m2;have aY:=VF ml U.size;have aW:=LH U;clear m2 ml b0 bl U;generalize DO (E3 ⟨k.toArray⟩) (H2.tx i).ae=z at *;by_cases hz:z<0
  ·by_cases ai:(H2.tx i).ae.length=20
   ·have t:=aw.o;rw[Z8 hz,Z8 ai]at t;have HR:=LH (show FP P own w am (ZY (.iface 79 (Wm eQ 4))) w4 from by rw[t];exact⟨rfl,own2,aj.o,av.o⟩);rw[ai]at m4;clear t ai;go_wp2_with fail;go_ret;exact HR.o
   have bm:(((H2.tx i).ae.length:Int) == 20)=L1:=by simpa using (by omega:¬((H2.tx i).ae.length:Int)=20)
   have t:=aw.o;rw[Z8 hz,Z7 ai]at t;have ax:=LH t;generalize a3:(if gone=VD then(⟨#[]⟩:ByteArray)else j)=s at *;clear a3 t;have I:=(Ef aW.o).al ak.o (λhs=>Z4 ak.o.lt);have c:=LH I;clear I;go_upto_region 14 with (fail)
   refine nW ?_;refine CR (λW=>W.cell? ⟨P.gt i,2,B0⟩=Bs (WK A5 (H2.tx i).ae.length c5)/\W.cell? ⟨v,0,B0⟩=Bs (ZV ⟨k.toArray⟩)/\W.cell? ⟨v,1,B0⟩=Bs (ZV s)/\W.cell? ⟨v,2,B0⟩=Bs (ZX gone)/\v<W.heap.size) 8 (λ_ _ _ _ _ h=>h) (λu=>?_);have d:w4.drew.cell? ⟨P.gt i,2,B0⟩=Bs (WK A5 (H2.tx i).ae.length c5)/\w4.drew.cell? ⟨v,0,B0⟩=Bs (ZV ⟨k.toArray⟩)/\w4.drew.cell? ⟨v,1,B0⟩=Bs (ZV s)/\w4.drew.cell? ⟨v,2,B0⟩=Bs (ZX gone)/\v<w4.drew.heap.size:=
    ⟨m4,(show Ae w4.drew _ _ _ from c.o).cell 0,(show Ae w4.drew _ _ _ from c.o).cell 1,(show Ae w4.drew _ _ _ from c.o).cell 2,c.o.lt⟩
   refine nD 0 [8,9,10] u d ?_;refine nD 1 [2,3,4,7,8,9,10] u d ?_;refine nD 2 [3,4,7,8,9,10] u d ?_;refine nD 3 [4,7,8,9,10] u d ?_;refine nA 4 [7,8,9,10] rfl rfl u d (λw' K=>by obtain⟨p0,p1,p2,p3,pl⟩:=K;go_simp;rfl) ?_;refine nA 5 [6,7,8,9,10] rfl rfl u d (λw' K=>by obtain⟨p0,p1,p2,p3,pl⟩:=K;go_simp;rfl) ?_;have D:∀o q p,q<w4.heap.size->(w4.alloc o).cell? ⟨q,p,B0⟩=w4.cell? ⟨q,p,B0⟩:=λo q p hq=>WT w4 o ⟨q,p,B0⟩ hq
   refine nG 6 (λY E=>?_);go_simp;refine E _ _ (λ_=>⟨(D _ _ _ aY).trans d.1,(D _ _ _ c.o.lt).trans d.2.1,(D _ _ _ c.o.lt).trans d.2.2.1,(D _ _ _ c.o.lt).trans d.2.2.2.1,by have:=c.o.lt;simp;omega⟩) ?_;clear E Y d D;refine nG 7 (λY E=>?_);obtain⟨v4,A⟩:=aj.o.tx i h1 hi;have y:=A.cells.2.2.1;rw[m4]at y;injection y with y;have f:=A.ae;rw[<- y]at f;refine SX w4.drew w4.heap.size rfl _ (.tmp 57) (.tmp 59) 67 rfl 0 45 _ 3 40 Tryz.underlying67 Ka rfl Z2 _ _ _ #[ZV ⟨k.toArray⟩,ZV s,ZX gone] rfl f 1 rfl _ rfl rfl (by simp[Wx]) Zx Z0 (VG _) ?_;intro V2 w6 M O;have R:Am w4 w6 v4.Vw.ownBlock V2.ownBlock:=by rw[<- y];exact⟨⟨O.1.os,O.1.tape,O.1.output,O.1.size,O.1.block⟩,O.2⟩
   obtain⟨az,a9,a8⟩:=aj.o.ea (i:=i) (x:=⟨⟨k.toArray⟩,s,gone⟩) A R M;have aF:¬Bs (P.gt i)=v4.Vw.ownBlock:=λe=>A.bC.1 e.symm
   have aA:¬Bs v=v4.Vw.ownBlock:=λe=>by have:=A.wt v e.symm;rw[aP.o]at this;cases this
   have ag:=R.1.al A.al aF;have a7:=R.1.al c.o aA;have y1:=ag.frozen 2;have yl:=ag.lt;have y0:=ag.cell 2;unfold P8 at y0;simp only[NW,Ft,O0]at y0;rw[<- y]at y0;have aU:=LH (show w6.cell? ⟨P.gt i,2,B0⟩=Bs (WK A5 (H2.tx i).ae.length c5)/\w6.cell? ⟨v,0,B0⟩=Bs (ZV ⟨k.toArray⟩)/\w6.cell? ⟨v,1,B0⟩=Bs (ZV s)/\w6.cell? ⟨v,2,B0⟩=Bs (ZX gone)/\v<w6.heap.size from⟨y0,a7.cell 0,a7.cell 1,a7.cell 2,a7.lt⟩);have HR:=LH (show FP P own w am (ZY ZS) (w6.setCell ⟨P.gt i,2,B0⟩ V2)from by rw[ax.o];exact⟨rfl,az,a9,av.o.trans a8⟩);obtain⟨A7,c7,b5,_,_⟩:=AM M;subst b5;clear O R aF aA ag a7 a9 a8 M f A y;go_simp;refine E _ _ (λ_=>aU.o) ?_;clear E Y;refine nG 8 (λY E=>?_);go_simp;refine E _ _ nZ ?_;clear E Y;refine nG 9 (λY E=>?_);go_simp;refine E _ _ nZ ?_;clear E Y;refine nG 10 (λY E=>?_);go_simp;refine E _ _ nZ ?_;clear E Y;refine nX ?_;clear u y0 y1 yl aU;go_wp2_with fail;go_ret;exact HR.o
  have t:=aw.o;rw[Z7 hz]at t;obtain⟨q,rfl⟩:∃q:Nat,z=q:=⟨z.toNat,Z0⟩
  have al:q<(H2.tx i).ae.length:=Z4 b9.o;have ax:=LH t;generalize a3:(if gone=VD then(⟨#[]⟩:ByteArray)else j)=s at *;clear a3 t;have I:=(Ef aW.o).al ak.o (λhs=>Z4 ak.o.lt);have c:=LH I;clear I;go_upto_region 10 with (fail)
  refine nW ?_;refine CR (λW=>W.cell? ⟨P.gt i,2,B0⟩=Bs (WK A5 (H2.tx i).ae.length c5)/\W.cell? ⟨v,0,B0⟩=Bs (ZV ⟨k.toArray⟩)/\W.cell? ⟨v,1,B0⟩=Bs (ZV s)/\W.cell? ⟨v,2,B0⟩=Bs (ZX gone)/\v<W.heap.size) 6 (λ_ _ _ _ _ h=>h) (λu=>?_);have d:w4.drew.cell? ⟨P.gt i,2,B0⟩=Bs (WK A5 (H2.tx i).ae.length c5)/\w4.drew.cell? ⟨v,0,B0⟩=Bs (ZV ⟨k.toArray⟩)/\w4.drew.cell? ⟨v,1,B0⟩=Bs (ZV s)/\w4.drew.cell? ⟨v,2,B0⟩=Bs (ZX gone)/\v<w4.drew.heap.size:=
   ⟨m4,(show Ae w4.drew _ _ _ from c.o).cell 0,(show Ae w4.drew _ _ _ from c.o).cell 1,(show Ae w4.drew _ _ _ from c.o).cell 2,c.o.lt⟩
  refine nD 0 [1,2,3,6,7] u d ?_;refine nD 1 [2,3,6,7] u d ?_;refine nD 2 [3,6,7] u d ?_;refine nA 3 [6,7] rfl rfl u d (λw' K=>by obtain⟨p0,p1,p2,p3,pl⟩:=K;go_simp;rfl) ?_;refine nD 4 [6,7] u d ?_;refine nA 5 [6,7] rfl rfl u d (λw' K=>by obtain⟨p0,p1,p2,p3,pl⟩:=K;go_simp;rfl) ?_;have aV:=LH (show VI w4.heap.size w4 w4.drew from⟨rfl,rfl,rfl,Hi _,λ_ _=>rfl⟩);have aT:=LH (aj.o.below aV.o);obtain⟨v4,A⟩:=aT.o.tx i h1 hi;have y:=A.cells.2.2.1;rw[show w4.drew.cell? ⟨P.gt i,2,B0⟩=_ from m4]at y;injection y with y;have f:=A.ae;rw[<- y]at f;obtain⟨g5,be,x5,aK,bq,bi,ae,ad,ac⟩:=rat (Rd.a7 f) rfl al;obtain⟨bo,bn⟩|⟨g6,bh,aL,aZ,_,b4,_⟩:=f.2;omega;have G:=aZ;rw[aK]at G;injection G with G _ hs8;injection G with G;injection G with G hs9 _;subst G hs9 hs8 aK;have ah:∀o,w4.frozen? ⟨g5,o,B0⟩=L1:=λo=>Ae.frozen (show Ae w4 g5 _ aL from b4) o
  have aI:=ah (q*3);have aH:=ah (q*3+1);have aG:=ah (q*3+2);rw[Wk]at ae ad ac;replace ae:w4.cell? ⟨g5,q*3,B0⟩=Bs (ZV x5.key):=ae;replace ad:w4.cell? ⟨g5,q*3+1,B0⟩=Bs (ZV x5.val):=ad;replace ac:w4.cell? ⟨g5,q*3+2,B0⟩=Bs (ZX x5.aR):=ac;obtain⟨a9,a8⟩:=aT.o.eu h1 hi A y.symm al ⟨⟨k.toArray⟩,s,gone⟩;have HR:=LH (show FP P own w am (ZY ZS) (Ew w4.drew g5 (q*3) ⟨⟨k.toArray⟩,s,gone⟩)from by rw[ax.o];exact⟨rfl,own2,a9,(av.o.trans (HZ.below own2 aV.o)).trans a8⟩);clear a9 a8 f A y ah;unfold Ew at HR;refine nG 6 (λY E=>?_);go_simp;refine E _ _ (λ_=>d) ?_;clear E Y;refine nG 7 (λY E=>?_);go_simp;refine E _ _ nZ ?_;clear E Y;refine nX ?_;clear u ae ad ac aI aH aG d;go_wp2_with fail;go_ret;exact HR.o
 have HR:=LH (show FP P own w (H.put id ⟨⟨k.toArray⟩,j,gone⟩) (ZY (.iface 79 (Wm eQ er))) w2 from by rw[an he];exact⟨by unfold C0;rw[Z7 he],own2,aa,a0.o⟩);rw[show lkV P id k er=ZZ #[ZW B0,ZW B0,.iface 79 (Wm eQ er)]from by unfold lkV;rw[Z7 he]];clear hr a6 af an aa he ab;go_wp2_with fail;go_ret;exact HR.o
section
open Go.RowKit Go.Shelf
attribute [local go_sem] Oper.semAt_some
def pr0:Pr:=⟨⟨#[]⟩,⟨#[]⟩,L1⟩
def RH(L:List Pr)(j:Nat):Int×Pr:=((L.length:Int)-1-j,L[L.length-1-j]?.getD pr0)
def RG(L:List Pr)(k:Nat):List (Int×Pr):=(Ww k).map (RH L)
def Lt(L:List Pr)(k:Nat):RG L (k+1)=RG L k++[RH L k]:=by simp[RG,Ys]
def bwL_len(L:List Pr)(k:Nat):(RG L k).length=k:=by simp[RG]
def bwE(x:Int×Pr):Array S2:=#[Wm eQ x.1,.agg #[ZV x.2.key,ZV x.2.val,ZX x.2.aR]]
def Fg(L:List Pr)(W:D0)(b c:Nat):Prop:=∀j x,L[j]? = Bs x->SK W b (c+j*3) x
def bw1_in(F:Fence)(n:Nat)(hF:F.fn 71)(G:F.round=B0)(hn:1<=n)(l D z b d cap:Nat)(L:List Pr)(hL:L.length<=1000)(K:b<z)(J Jx:List (Int×Pr)->D0->Prop)
  (hY:∀c x W,J c W->c.length<L.length->YieldAt F (n-1) Tryz.prog l (bwE x) W λe h=>
   (e=ZY (ZX VD)/\J (c++[x]) h/\VI z W h)\/(e=ZY (ZX L1)/\Jx (c++[x]) h))
  (W:D0) (R:D<z) (O:W.cell? ⟨D,0,B0⟩=Bs (WK (Bs ⟨b,d,B0⟩) L.length cap)) (hc:Fg L W b d) (h0:J [] W) :
  CallsIn F n Tryz.prog 71 #[.func (.yield l) #[] #[],ZW (Bs ⟨D,0,B0⟩)] W λe h=>(∃v,e=ZY v)/\
   ((∃S,S=RG L L.length/\J S h)\/(∃c,(∃k,k<L.length/\c=RG L (k+1))/\Jx c h)):=by
 refine callsIn_of_wp Tryz.func71 rfl hF ?_ G;simp only[Tryz.ntmps71,Xu,Wi,XB,Nat.reduceAdd,Nat.reduceSub,Y0,YZ,Zr,Zb,WN,X0];have a1:IntKind.i64.wrap ((L.length:Int)-1)=(L.length:Int)-1:=V4 _ ⟨Z0,Z0⟩;gi_wp2
 gi_loopw [3] (λi wr=>∃k:Nat,k<=L.length/\i=Wm eQ ((L.length:Int)-1-k)/\J (RG L k) wr/\VI z W wr)
  (λi _=>(intOf i+1).toNat)
 case atStart=>exact⟨0,VG _,Z3,h0,VC _ _⟩
 obtain⟨k,hk,rfl,u,f⟩:=hrel;have a3:=(f.cell (p:=⟨D,0,B0⟩) R).trans O;by_cases s:k<L.length
 ·obtain⟨q,A⟩:∃q:Nat,(L.length:Int)-1-k=q:=⟨L.length-1-k,Z0⟩
  have j:q=L.length-1-k:=by omega
  have a2:q<L.length:=by omega
  have U:L[q]? = Bs (L[L.length-1-k]?.getD pr0):=by rw[j,K0 Z0];rfl
  have y:RH L k=(((q:Nat):Int),L[L.length-1-k]?.getD pr0):=by unfold RH;rw[A]
  obtain⟨fn,tmps,assign,body,E,X⟩:=hY _ (RH L k) wr u (by rw[bwL_len];exact s);rw[<- Lt]at X;rw[y]at E;unfold bwE at E
  dsimp only at E
  generalize L[L.length-1-k]?.getD pr0=x at *;obtain⟨g0,Z,Y⟩:=hc q x U;have c0:=(f.cell (p:=⟨b,d+q*3,B0⟩) K).trans g0;have c1:=(f.cell (p:=⟨b,d+q*3+1,B0⟩) K).trans Z;have c2:=(f.cell (p:=⟨b,d+q*3+2,B0⟩) K).trans Y;have a0:IntKind.i64.wrap ((q:Int)-1)=(q:Int)-1:=V4 _ ⟨Z0,Z0⟩;rw[A];have HQ:=LH A;clear g0 Z Y U j A y;gi_wp2;refine X.mono ?_;rintro e W3 (⟨rfl,M,I⟩|⟨rfl,t⟩)
  ·gi_wp2;go_roundw
   case rel=>exact⟨k+1,Z0,by have:=HQ.o;congr 1;omega,M,f.trans I⟩
   case measure=>have:=HQ.o;simp only[intOf];omega
  gi_wp2;refine bodyPost_ret (results_none rfl _ _ _) rfl ?_;exact⟨⟨_,rfl⟩,eS ⟨_,⟨k,s,rfl⟩,t⟩⟩
 obtain rfl:k=L.length:=by omega
 gi_wp2
 go_end0
 exact⟨⟨_,rfl⟩,eR ⟨_,rfl,u⟩⟩
def bw1_nil(F:Fence)(n:Nat)(f:F.fn 71)(b:F.round=B0)(l d:Nat)(J:List (Int×Pr)->D0->Prop)(W:D0)(h:W.cell? ⟨d,0,B0⟩=Bs (WK B0 0 0))(j:J [] W) :
  CallsIn F n Tryz.prog 71 #[.func (.yield l) #[] #[],ZW (Bs ⟨d,0,B0⟩)] W λe p=>(∃v,e=ZY v)/\J [] p:=by
 refine callsIn_of_wp Tryz.func71 rfl f ?_ b;simp only[Tryz.ntmps71,Xu,Wi,XB,Nat.reduceAdd,Nat.reduceSub,Y0,YZ,Zr,Zb,WN,X0];gi_wp2
 gi_loopw [3] (λi wr=>i=Wm eQ (-1)/\J [] wr) (λ_ _=>0)
 case atStart=>exact⟨by first|rfl|simp,j⟩
 obtain⟨rfl,c⟩:=hrel;gi_wp2
 go_end0
 exact⟨⟨_,rfl⟩,c⟩
def back_in(F:Fence)(n:Nat)(d:F.fn 41)(c:F.round=B0)(a:Option Addr)(b cap:Nat)(w:D0) :
  CallsIn F n Tryz.prog 41 #[WK a b cap] w λe w'=>e=ZY (.func (.func 71) #[] #[ZW (Bs ⟨w.heap.size,0,B0⟩)])/\w'=w.alloc (eT #[WK a b cap] 67):=by
 refine callsIn_of_wp Tryz.func41 rfl d ?_ c;simp only[Tryz.ntmps41,Xu,Wi,XB,Nat.reduceAdd,Nat.reduceSub,Y0,YZ,Zr,Zb,WN,X0];gi_wp2;go_ret;exact⟨rfl,rfl⟩
def RowB(d:Nat)(W:D0)(A:Option Addr)(L:List Pr)(cap:Nat):Prop:=(A=B0/\L=[]/\cap=0)\/∃b c,A=Bs ⟨b,c,B0⟩/\b<d/\Fg L W b c
def Fg.below{e:Nat}{A B:D0}(h:VI e A B){L:List Pr}{c:Nat}(d:b<e)(s:Fg L A b c):Fg L B b c:=λj x f=>by
 obtain⟨v,u,t⟩:=s j x f;exact⟨(h.cell (p:=⟨b,c+j*3,B0⟩) d).trans v,(h.cell (p:=⟨b,c+j*3+1,B0⟩) d).trans u,(h.cell (p:=⟨b,c+j*3+2,B0⟩) d).trans t⟩
def Ub(F:Fence)(n:Nat)(z:F.fn 71)(f:F.round=B0)(G:1<=n)(c d cap:Nat)(A:Option Addr)(L:List Pr)(S:L.length<=1000)(w:D0)(v:c<d)(t:d<=w.heap.size)
  (M:w.cell? ⟨c,0,B0⟩=Bs (WK A L.length cap)) (R:RowB d w A L cap) :
  SeqStopsK F n Tryz.prog 71 #[ZW (Bs ⟨c,0,B0⟩)] bwE (VI d) (λE=>E=RG L L.length) (λj=>∃k,k<L.length/\j=RG L (k+1)) L.length w:=λl J U W y _ _ O D=>by
 have h:=(y.cell (p:=⟨c,0,B0⟩) (by show c<w.heap.size;omega)).trans M;obtain⟨rfl,rfl,rfl⟩|⟨b,s,rfl,x,u⟩:=R
 ·exact(bw1_nil F n z f l c J W h D).mono λe X ⟨K,I⟩=>⟨K,eR ⟨_,rfl,I⟩⟩
 exact bw1_in F n z f G l c d b s cap L S x J U O W v h (u.below (y.mono t) x) D
def bw_none{L:List Pr}{p:Pr->Bool}(h:∀x∈RG L L.length,p x.2=L1):L.reverse.find? p=B0:=by rw[List.find?_eq_none];intro x b;rw[List.mem_reverse]at b;obtain⟨j,c,rfl⟩:=List.mem_iff_getElem.1 b;have:=h (RH L (L.length-1-j)) (ZE.2 ⟨L.length-1-j,Zs.2 Z0,rfl⟩);unfold RH at this;rw[show L.length-1-(L.length-1-j)=j by omega,K0 c]at this;simp at this;simp[this]
def bw_some{L:List Pr}{p:Pr->Bool}{k:Nat}(b:k<L.length)(h:∀x∈RG L k,p x.2=L1)(e:p (RH L k).2=VD):L.reverse.find? p=Bs (RH L k).2:=by
 rw[List.find?_eq_some_iff_getElem];have d:∀j,j<L.length->(RH L j).2=L.reverse[j]?.getD pr0:=λj c=>by
  unfold RH;rw[List.getElem?_reverse c]
 refine⟨e,k,Z6 b,?_,λj c=>?_⟩;rw[d k b,K0 (Z6 b)];rfl;have:=h (RH L j) (ZE.2 ⟨j,Zs.2 c,rfl⟩);rw[d j Z0,K0 Zz]at this;simpa using this
end
variable {md:XP}{ops:Array Oper}{fuel:Nat}{listed:Array Bool}{a:Act}
section
variable {F:Fence}{P:Program}
def nU(i:Nat){o:Oper}(h:∀b:Act->D0->Prop,(∀a w,wpAnyIn F n P md ops Q fuel (listed.setIfInBounds i VD) a w->b a w)->if Wu o (Xx ops a.tmps)=VD then Oper.wpIn F n P o a w b Q else(∀f,o.about P w a.eval=Bs f->F.fn f)/\b (a.put o.dst Yl) w)
  (d:ops[i]? = Bs o:=by rfl) (c:Ws md ops listed=[i]:=by kernel_rfl):wpAnyIn F n P md ops Q (fuel+1) listed a w:=wpAnyIn_ready c Z3 (AllReadyIn.cons d h AllReadyIn.nil)
def nV(i j:Nat){o p:Oper}(h:∀b:Act->D0->Prop,(∀a w,wpAnyIn F n P md ops Q fuel (listed.setIfInBounds i VD) a w->b a w)->if Wu o (Xx ops a.tmps)=VD then Oper.wpIn F n P o a w b Q else(∀f,o.about P w a.eval=Bs f->F.fn f)/\b (a.put o.dst Yl) w)
  (s:∀b:Act->D0->Prop,(∀a w,wpAnyIn F n P md ops Q fuel (listed.setIfInBounds j VD) a w->b a w)->if Wu p (Xx ops a.tmps)=VD then Oper.wpIn F n P p a w b Q else(∀f,p.about P w a.eval=Bs f->F.fn f)/\b (a.put p.dst Yl) w)
  (e:ops[i]? = Bs o:=by rfl) (d:ops[j]? = Bs p:=by rfl) (c:Ws md ops listed=[i,j]:=by kernel_rfl):wpAnyIn F n P md ops Q (fuel+1) listed a w:=wpAnyIn_ready c Z3 (AllReadyIn.cons e h (AllReadyIn.cons d s AllReadyIn.nil))
end
section
open Go.RowKit Go.Shelf
attribute [local go_sem] Oper.semAt_some
def IK{tmps:Array S2}{a c:Nat}{v1 e d:S2}(p:tmps.getD 6 Yl=ZW (Bs ⟨a,0,B0⟩))(j:tmps.getD 7 Yl=ZW (Bs ⟨b,0,B0⟩))(f:tmps.getD 8 Yl=ZW (Bs ⟨c,0,B0⟩))
  (u:w.cell? ⟨a,0,B0⟩=Bs v1) (t:w.cell? ⟨b,0,B0⟩=Bs e) (s:w.cell? ⟨c,0,B0⟩=Bs d):(results Tryz.f18 tmps).run Tryz.prog w=.ok (ZZ #[v1,e,d]) w:=by
 have h:(Tryz.f18).results=#[.cell 6 9,.cell 7 4,.cell 8 41]:=by kernel_rfl
 simp only[Array.getD_eq_getD_getElem?]at p j f;simp only[results,h];simp[p,j,f,loadVar,isAgg,underlying,Tryz.underlying9,Tryz.underlying4,Tryz.underlying41,u,t,s,Result.andThen,asAddr,go_sem]
def noPanic(Q:Exit->Act->D0->Prop)(e:Exit)(a:Act)(w:D0):Prop:=Q e a w/\∀c,e≠.panic c
def L4{P:Program}{c:Code}{a:Act}(h:c.wp P (noPanic Q) a w):c.wp P Q a w:=Code.wp_mono (λ_ _ _ h=>h.1) h
def GIx(k:Sx)(d:Nat)(f:D0)(e:List (Int×Pr))(W:D0):Prop:=
 ∃c x,e=c++[x]/\(∀y∈c,(y.2.key.toList == k)=L1)/\(x.2.key.toList == k)=VD/\Fr (λb=>(d<b/\b<d+4)\/f.heap.size<=b) f W/\
  Ae W (d+1) 9 #[ZV x.2.val]/\Ae W (d+2) 4 #[ZX (!x.2.aR)]/\Ae W (d+3) 41 #[ZS]
def N7(P:Av)(own:Ah)(w:D0)(r:(Int×Sx×Bool)×Hs)(e:WE)(w':D0):Prop:=e=ZY (ZZ #[ZV ⟨r.1.2.1.toArray⟩,ZX r.1.2.2,C0 r.1.1])/\Cf P own r.2 w w'
def get_no{H H2:Hs}{id:Int}{b:Int}(h:H.aJ id x 1=(b,H2))(c:b≠0):H.get id x=((b,[],L1),H2):=by unfold Hs.get;simp only[h];rw[Z8 c]
def get_own{H H2:Hs}{id:Int}(h:H.aJ id x 1=(0,H2))(b:(H2.tx id.toNat).ae.reverse.find? (λp=>sx p.key == x)=Bs p):H.get id x=((0,sx p.val,!p.aR),H2):=by unfold Hs.get;simp only[h];rw[Z7 Z3,b]
def get_sto{H H2:Hs}{id:Int}(h:H.aJ id x 1=(0,H2))(b:(H2.tx id.toNat).ae.reverse.find? (λp=>sx p.key == x)=B0):H.get id x=((0,B8 (CB ((H2.sh (Aa x)).sto x) 1099511627776)),H2):=by unfold Hs.get;simp only[h];rw[Z7 Z3,b]
section
variable {w w':D0}{own own':Ah}{P:Av}{H:Hs}
def TI(h:HI w own P H)(hs:s<H.c)(k:Sx)(c:k.length<=20) :
  VX Tryz.prog 42 #[ZW (Bs ⟨P.gs s,5,B0⟩),ZV ⟨k.toArray⟩,Wm eQ 1099511627776] w (qbn (B8 (CB ((H.sh s).sto k) 1099511627776)) w):=by
 obtain⟨v,b⟩:=h.sh s hs;have:=get_any 0 100 (P.gs s) 5 _ _ v.ms v.e4 (H.sh s).sto 0 ⟨k.toArray⟩ 1099511627776 w b.sto Z0 Z0 (by show k.toArray.size<=VY;simp;unfold VY;omega) Z0;rw[show sx ⟨k.toArray⟩=k from DG k]at this;exact this
def Cf.eE{own2:Ah}{H2:Hs}(hI:HI w' own2 P H2)(c:AC w own w' own2)(h:∀j,j<4->own2 (g+j)=B0)(s:w.heap.size<=g)(f:Fr (λx=>(g<x/\x<g+4)\/w'.heap.size<=x) w' W):Cf P own H2 w W:=
 ⟨own2,hI.fr0 f (λb d e=>by
  obtain⟨e1,p⟩|e:=e;exact d (by have:=h (b-g) Z0;rwa [show g+(b-g)=b by omega]at this);have:=hI.lt b d;omega),c.ext,c.fr.trans' f (λb d e=>by have:=c.fr.size;obtain⟨e1,p⟩|e:=e<;> omega),c.sm⟩
def qdy(h:HI w own P H)(wf:Wf H)(b1:EN own)(hc:H.c=3)(id:Int)(k:Sx)(hk:k∈names):VX Tryz.prog 18 #[pw P.g,Wm eQ id,ZV ⟨k.toArray⟩] w (N7 P own w (H.get id k)):=by
 have aB:VI w.heap.size w ((((w.alloc (eT #[ZV ⟨k.toArray⟩] 9)).alloc (eT #[ZV ⟨#[]⟩] 9)).alloc (eT #[ZX L1] 4)).alloc (eT #[ZS] 41)):=((((VC w.heap.size w).alloc (Hi _) _).alloc Z3 _).alloc Zz _).alloc Zz _;have G:Ae ((((w.alloc (eT #[ZV ⟨k.toArray⟩] 9)).alloc (eT #[ZV ⟨#[]⟩] 9)).alloc (eT #[ZX L1] 4)).alloc (eT #[ZS] 41)) w.heap.size 9 #[ZV ⟨k.toArray⟩]/\
   Ae ((((w.alloc (eT #[ZV ⟨k.toArray⟩] 9)).alloc (eT #[ZV ⟨#[]⟩] 9)).alloc (eT #[ZX L1] 4)).alloc (eT #[ZS] 41)) (w.heap.size+1) 9 #[ZV ⟨#[]⟩]/\
   Ae ((((w.alloc (eT #[ZV ⟨k.toArray⟩] 9)).alloc (eT #[ZV ⟨#[]⟩] 9)).alloc (eT #[ZX L1] 4)).alloc (eT #[ZS] 41)) (w.heap.size+2) 4 #[ZX L1]/\
   Ae ((((w.alloc (eT #[ZV ⟨k.toArray⟩] 9)).alloc (eT #[ZV ⟨#[]⟩] 9)).alloc (eT #[ZX L1] 4)).alloc (eT #[ZS] 41)) (w.heap.size+3) 41 #[ZS]:=by
  have n0:=Ae.b4 w 9 #[ZV ⟨k.toArray⟩];have n1:=Ae.b4 (w.alloc (eT #[ZV ⟨k.toArray⟩] 9)) 9 #[ZV ⟨#[]⟩];have n2:=Ae.b4 ((w.alloc (eT #[ZV ⟨k.toArray⟩] 9)).alloc (eT #[ZV ⟨#[]⟩] 9)) 4 #[ZX L1];have n3:=Ae.b4 (((w.alloc (eT #[ZV ⟨k.toArray⟩] 9)).alloc (eT #[ZV ⟨#[]⟩] 9)).alloc (eT #[ZX L1] 4)) 41 #[ZS];have fa:∀(W:D0)(o:Obj),Fr (λ_=>False) W (W.alloc o):=λW o=>(Fr.refl _ W).alloc o
  rw[show(w.alloc (eT #[ZV ⟨k.toArray⟩] 9)).heap.size=w.heap.size+1 by simp]at n1;rw[show((w.alloc (eT #[ZV ⟨k.toArray⟩] 9)).alloc (eT #[ZV ⟨#[]⟩] 9)).heap.size=w.heap.size+2 by simp]at n2;rw[show(((w.alloc (eT #[ZV ⟨k.toArray⟩] 9)).alloc (eT #[ZV ⟨#[]⟩] 9)).alloc (eT #[ZX L1] 4)).heap.size=w.heap.size+3 by simp]at n3;exact⟨(fa _ _).al ((fa _ _).al ((fa _ _).al n0 (λh=>h)) (λh=>h)) (λh=>h),(fa _ _).al ((fa _ _).al n1 (λh=>h)) (λh=>h),(fa _ _).al n2 (λh=>h),n3⟩
 have ag:=LH G;have aS:=LH (HZ.below (Z:=BZ) own aB);have ae:=LH (show ∀j,own (w.heap.size+j)=B0 from λj=>h.free (Nat.le_add_right _ _));have aV:=LH (Kv (h.below aB) wf b1 hc id k hk 1 (.inl rfl));have aq:=LH (λer H2 (e:H.aJ id k 1=(er,H2)) he=>get_no (H:=H) (H2:=H2) (id:=id) (x:=k) e he);have ad:=LH (λH2 p (e:H.aJ id k 1=(0,H2)) hp=>get_own (H:=H) (H2:=H2) (id:=id) (x:=k) (p:=p) e hp);have ac:=LH (λH2 (e:H.aJ id k 1=(0,H2)) hp=>get_sto (H:=H) (H2:=H2) (id:=id) (x:=k) e hp);have aU:=LH (q6n (id:=id) (mode:=1) wf hc hk);have aT:=LH (λe=>GN (H:=H) (id:=id) (k:=k) (mode:=1) e);have b0:=G.1.cell 0;have bl:=G.1.lt;simp only[NW,Ft]at b0;clear h aB G wf;unfold pw at *;refine(callsIn_wide (n:=9)).1 ?_;refine callsIn_of_wp_marks Tryz.func18 rfl trivial ?_ rfl;simp only[Tryz.ntmps18,Xu,Wi,XB,Nat.reduceAdd,Nat.reduceSub,Y0,YZ,Zr,Zb,WN,X0];refine wpIn_wide.2 ?_;go_upto_region 1 with (fail)
 generalize (Zn _ _)=w1 at *;generalize aK:w.heap.size=f at *;have aF:=LH aK;clear aK;go_wp2_with fail;refine aV.o.mono ?_;rintro e w2 ⟨rfl,own2,aC,a4⟩;have k0:=Ja a4 ag.o.1 (Z6 (ae.o 0));have k1:=Ja a4 ag.o.2.1 (ae.o 1);have k2:=Ja a4 ag.o.2.2.1 (ae.o 2);have k3:=Ja a4 ag.o.2.2.2 (ae.o 3);have aE:=LH (aS.o.trans a4);have a3:=aU.o;have ak:=aT.o;rcases hr:H.aJ id k 1 with ⟨er,H2⟩
 rw[hr]at aC a3 ak;have ax:=aq.o er H2 hr;have ao:=LH k0;have ab:=LH k1;have aa:=LH k2;have a9:=LH k3;have d0:=k0.1.cell 0;have d1:=k1.1.cell 0;have d2:=k2.1.cell 0;have d3:=k3.1.cell 0;have e0:=k0.1.lt;have e1:=k1.1.lt;have e2:=k2.1.lt;have e3:=k3.1.lt;have f1:=k1.1.frozen 0;have f2:=k2.1.frozen 0;have f3:=k3.1.frozen 0;simp only[NW,Ft]at d0 d1 d2 d3;have af:=LH aC;clear aC a4 k0 k1 k2 k3 b0 bl aS ag ae aV aU aT aq;by_cases he:er=0
 ·subst he;obtain⟨aN,aM⟩:=ak rfl;obtain⟨i,rfl⟩:∃i:Nat,id=i:=⟨id.toNat,Z0⟩
  have h1:1<=i:=by omega
  have hi:i<=H2.m:=by have e:H2.m=H.m:=a3.2.m;omega
  have b5:H2.c=3:=a3.2.c.trans hc;have bc:=LH (show ∀p,(H2.tx i).ae.reverse.find? (λp=>sx p.key == k)=Bs p->H.get i k=((0,sx p.val,!p.aR),H2)from λp=>ad.o H2 p hr);have b8:=LH (show(H2.tx i).ae.reverse.find? (λp=>sx p.key == k)=B0->H.get i k=((0,B8 (CB ((H2.sh (Aa k)).sto k) 1099511627776)),H2)from ac.o H2 hr);rw[show lkV P i k 0=ZZ #[pw (P.gt i),pw (P.gs (Aa k)),ZS]from rfl];obtain⟨vt,aj⟩:=af.o.tx i h1 hi;obtain⟨_,_,m2,_,_,_,_,ml⟩:=aj.cells;obtain⟨A5,c5,aP,bp,aI⟩:=AM aj.ae;have a7:=aj.ae;rw[aP]at m2 a7;have bq:=(a3.1.tx i h1 hi).cd;have ap:=LH a7;have bn:=LH (callsIn_wide.1 (back_in Ya 1 trivial rfl A5 (H2.tx i).ae.length c5 w2));generalize (H2.tx i).ae=L at *;unfold pw;clear hr a3 ak ax ad ac aN aM aP aj a7 aI;go_wp2_with fail;refine bn.o.mono ?_;rintro e O ⟨rfl,rfl⟩;have am:VI w2.heap.size w2 (w2.alloc (eT #[WK A5 L.length c5] 67)):=(VC _ _).alloc (Hi _) _;have au:Ae (w2.alloc (eT #[WK A5 L.length c5] 67)) w2.heap.size 67 #[WK A5 L.length c5]:=Ae.b4 w2 _ _;have a6:(w2.alloc (eT #[WK A5 L.length c5] 67)).heap.size=w2.heap.size+1:=by simp
  have an:L.length<=1000:=by omega
  go_wp2_with fail;generalize hA:({tmps:=_,defers:=[]} : Act)=a0;have HA:=LH hA;have aG:=LH am;have aA:=au.cell 0;simp only[NW,Ft]at aA;have aw:RowB (w2.heap.size+1) (w2.alloc (eT #[WK A5 L.length c5] 67)) A5 L c5:=by
   have aH:=(Ef am).own ap.o (λb U hs=>Z4 ((ap.o.lt b U).2));obtain⟨e,en⟩|⟨g,cap,bz,e,_,hg,hn,_,_,br⟩:=aH.2;injection e with e1 _ e3;exact eR ⟨e1,List.eq_nil_of_length_eq_zero en,e3⟩;injection e with e1 _ e3;refine eS ⟨g,0,e1,?_,λj x hx=>?_⟩;have:=(ap.o.lt g (by rw[e1];rfl)).2;omega;obtain⟨hj,_⟩:=ZC.1 hx;obtain⟨g',bt,x',eA,_,ai,b4⟩:=rat (Rd.a7 aH) rfl hj;rw[e1]at eA;injection eA with eA;injection eA with eA eB _;subst eA eB;rw[hx]at ai;injection ai with ai;subst ai;exact b4
  have aD:=LH (show ∀W,VI (w2.heap.size+1) (w2.alloc (eT #[WK A5 L.length c5] 67)) W->(W.cell? ⟨f,0,B0⟩=Bs (ZV ⟨k.toArray⟩)/\f<W.heap.size)/\Ae W (f+1) 9 #[ZV ⟨#[]⟩]/\Ae W (f+2) 4 #[ZX L1]/\Ae W (f+3) 41 #[ZS]from λW hW=>by
   have R:=(Ef (am.trans (hW.mono (WX _))))
   have g0:=R.al ao.o.1 Z0;have c0:=g0.cell 0;simp only[NW,Ft]at c0;exact⟨⟨c0,g0.lt⟩,R.al ab.o.1 Z0,R.al aa.o.1 Z0,R.al a9.o.1 Z0⟩)
  generalize aX:w2.alloc (eT #[WK A5 L.length c5] 67)=O at *;rw[<- a6]at aw aD;have z:=LH a6;clear hA aX au am;refine(wpIn_wide (n:=9)).1 ?_;refine wpIn_rangeFunc_ownH (F:=Ya) rfl Z0 (gf:=71) (lb:=#[ZW (Bs ⟨w2.heap.size,0,B0⟩)]) (by rw[<- HA.o];rfl) trivial (enters_of Tryz.func71 Z1 rfl)
   (Ub Ya 8 trivial rfl Z0 w2.heap.size O.heap.size c5 A5 L an O (by rw[a6];omega) (Hi _) aA aw) belowK_t (belowK_b (Hi _)) (VC _ _) (λ_=>rfl)
   (λJ W=>(∀x∈J,(x.2.key.toList == k)=L1)/\VI O.heap.size O W)
   (λc J W=>c=Code.ret/\GIx k f O J W)
   ?hI ?hIx ⟨λx hx=>(by cases hx),VC _ _⟩
   (λx a' W=>∃Bx,O.heap.size<=Bx/\Ae W Bx 45 #[ZV x.2.key,ZV x.2.val,ZX x.2.aR]/\a' = {tmps:=((a0.tmps.setIfInBounds 30 (Wm eQ x.1)).setIfInBounds 31 (.agg #[ZV x.2.key,ZV x.2.val,ZX x.2.aR])).setIfInBounds 13 (ZW (Bs ⟨Bx,0,B0⟩)),defers:=[]})
   ?hAx ?assign ?body ?done ?stop
  case hI=>exact OwnFrom.and (λs A B av hs hg hr=>hs) (ownFrom_below (Hi _) (Hi _))
  case hIx=>
   rintro c s A B av ⟨rfl,ar,x,h1,h2,h3,h4,h5,h6,h7⟩ hg hr;have R:Fr (λb=>O.heap.size<=b) A B:=Fr.b8 hg (λr e=>(hr r e).1);have ay:f+3<O.heap.size:=Z4 z.o;exact⟨rfl,ar,x,h1,h2,h3,h4.trans' R (λb _ e=>eS e),R.al h5 Z0,R.al h6 Z0,R.al h7 Z0⟩
  case hAx=>
   rintro x a' u A B av ⟨Bx,h1,h2,h3⟩ hg hr;refine⟨Bx,h1,?_,h3⟩;have R:Fr (λb=>av=Bs b) A B:=Fr.b8 hg (λr e=>e);refine R.al h2 (λe=>?_);obtain⟨_,o,ho,hn⟩:=hr Bx e;rw[show A.heap[Bx]? = _ from h2]at ho;injection ho with ho;rw[<- ho]at hn;cases hn
  case assign=>
   rintro l J x W K ⟨hp,U⟩ d;rw[<- HA.o];unfold bwE;have b2:=Ae.b4 W 45 #[ZV x.2.key,ZV x.2.val,ZX x.2.aR];rw[<- HA.o]at d;gi_wp2;exact d _ _ ((KeepsOthers.alloc _ _).from _) ((VC _ W).alloc U.size _) ⟨hp,U.alloc U.size _⟩ ⟨W.heap.size,U.size,b2,rfl⟩
  case body=>
   rintro l J x a' W hl bu ⟨hp,U⟩ ⟨Bx,bx,G,rfl⟩ bo;obtain⟨⟨ah,a5⟩,a2,Y,S⟩:=aD.o W U;have p0:=G.cell 0;have p1:=G.cell 1;have p2:=G.cell 2;have pl:=G.lt;simp only[NW,Ft,O0]at p0 p1 p2;rw[<- HA.o];cases aJ:(x.2.key.toList == k)with
   |false=>
    gi_wp2;refine⟨(KeepsOthers.refl _).from _,VC _ _,λy hy=>?_,U⟩;obtain hy|hy:=ZD.1 hy;exact hp y hy;rw[VU.1 hy];exact aJ
   |true=>
    have u1:=a2.cell 0;have u2:=Y.cell 0;have u3:=S.cell 0;have v1:=a2.frozen 0;have v2:=Y.frozen 0;have v3:=S.frozen 0;simp only[NW,Ft]at u1 u2 u3;have ay:f+3<O.heap.size:=Z4 z.o;have t:=LH (show KeepsFrom O.heap.size W (((W.setCell ⟨f+1,0,B0⟩ (ZV x.2.val)).setCell ⟨f+2,0,B0⟩ (ZX (!x.2.aR))).setCell ⟨f+3,0,B0⟩ ZS).drew/\Code.ret=Code.ret/\GIx k f O (J++[x]) (((W.setCell ⟨f+1,0,B0⟩ (ZV x.2.val)).setCell ⟨f+2,0,B0⟩ (ZX (!x.2.aR))).setCell ⟨f+3,0,B0⟩ ZS).drew from by
     refine⟨((((KeepsOthers.setCell _ _ _).trans (KeepsOthers.setCell _ _ _)).trans (KeepsOthers.setCell _ _ _)).trans (KeepsOthers.drew _)).from _,rfl,J,x,rfl,hp,aJ,?_,?_,?_,?_⟩
     ·exact(((((Ef U).mono (T:=λb=>(f<b/\b<f+4)\/O.heap.size<=b) (λi _ h=>.inr h)).setCell (p:=⟨f+1,0,B0⟩) (.inl (.inl ⟨by show f<f+1;omega,by show f+1<f+4;omega⟩)) _).setCell (p:=⟨f+2,0,B0⟩) (.inl (.inl ⟨by show f<f+2;omega,by show f+2<f+4;omega⟩)) _).setCell (p:=⟨f+3,0,B0⟩) (.inl (.inl ⟨by show f<f+3;omega,by show f+3<f+4;omega⟩)) _).drew
     exact(Fr.aL (f+3) _ 0 _).al ((Fr.aL (f+2) _ 0 _).al (a2.aZ 0 (ZV x.2.val)) Z0) Z0;exact(Fr.aL (f+3) _ 0 _).al (((Fr.aL (f+1) _ 0 _).al Y Z0).aZ 0 (ZX (!x.2.aR))) Z0;exact((Fr.aL (f+2) _ 0 _).al ((Fr.aL (f+1) _ 0 _).al S Z0) Z0).aZ 0 ZS)
    gi_wp2;refine wpIn_region_any Z1 ?_;change wpAnyIn _ _ _ _ _ _ _ _ _ (YC _);refine nV 0 2 (λK d=>?_) (λK d=>?_)
    ·go_simp;refine d _ _ ?_;clear d K;refine nV 1 2 (λK d=>?_) (λK d=>?_)
     ·go_simp;refine d _ _ ?_;clear d K;refine nV 2 5 (λK d=>?_) (λK d=>?_)
      ·go_simp;refine d _ _ ?_;clear d K;refine nV 3 5 (λK d=>?_) (λK d=>?_)
       ·go_simp;refine d _ _ ?_;clear d K;refine nV 4 5 (λK d=>?_) (λK d=>?_)
        ·go_simp;refine d _ _ ?_;clear d K;refine nU 5 (λK d=>?_);go_simp;refine d _ _ ?_;clear d K;refine nU 6 (λK d=>?_);go_simp;refine d _ _ ?_;clear d K;refine nU 7 (λK d=>?_);go_simp;refine d _ _ ?_;clear d K;refine W9 Z1 ?_ _;gi_wp2;exact⟨t.o.1,rfl,t.o.2.2⟩
        go_simp;refine d _ _ ?_;clear d K;refine nU 4 (λK d=>?_);go_simp;refine d _ _ ?_;clear d K;refine nU 6 (λK d=>?_);go_simp;refine d _ _ ?_;clear d K;refine nU 7 (λK d=>?_);go_simp;refine d _ _ ?_;clear d K;refine W9 Z1 ?_ _;gi_wp2;exact⟨t.o.1,rfl,t.o.2.2⟩
       go_simp;refine d _ _ ?_;clear d K;refine nU 3 (λK d=>?_);go_simp;refine d _ _ ?_;clear d K;refine nU 4 (λK d=>?_);go_simp;refine d _ _ ?_;clear d K;refine nU 6 (λK d=>?_);go_simp;refine d _ _ ?_;clear d K;refine nU 7 (λK d=>?_);go_simp;refine d _ _ ?_;clear d K;refine W9 Z1 ?_ _;gi_wp2;exact⟨t.o.1,rfl,t.o.2.2⟩
      go_simp;refine d _ _ ?_;clear d K;refine nU 2 (λK d=>?_);go_simp;refine d _ _ ?_;clear d K;refine nU 3 (λK d=>?_);go_simp;refine d _ _ ?_;clear d K;refine nU 4 (λK d=>?_);go_simp;refine d _ _ ?_;clear d K;refine nU 6 (λK d=>?_);go_simp;refine d _ _ ?_;clear d K;refine nU 7 (λK d=>?_);go_simp;refine d _ _ ?_;clear d K;refine W9 Z1 ?_ _;gi_wp2;exact⟨t.o.1,rfl,t.o.2.2⟩
     go_simp;refine d _ _ ?_;clear d K;refine nV 1 3 (λK d=>?_) (λK d=>?_)
     ·go_simp;refine d _ _ ?_;clear d K;refine nV 3 5 (λK d=>?_) (λK d=>?_)
      ·go_simp;refine d _ _ ?_;clear d K;refine nV 4 5 (λK d=>?_) (λK d=>?_)
       ·go_simp;refine d _ _ ?_;clear d K;refine nU 5 (λK d=>?_);go_simp;refine d _ _ ?_;clear d K;refine nU 6 (λK d=>?_);go_simp;refine d _ _ ?_;clear d K;refine nU 7 (λK d=>?_);go_simp;refine d _ _ ?_;clear d K;refine W9 Z1 ?_ _;gi_wp2;exact⟨t.o.1,rfl,t.o.2.2⟩
       go_simp;refine d _ _ ?_;clear d K;refine nU 4 (λK d=>?_);go_simp;refine d _ _ ?_;clear d K;refine nU 6 (λK d=>?_);go_simp;refine d _ _ ?_;clear d K;refine nU 7 (λK d=>?_);go_simp;refine d _ _ ?_;clear d K;refine W9 Z1 ?_ _;gi_wp2;exact⟨t.o.1,rfl,t.o.2.2⟩
      go_simp;refine d _ _ ?_;clear d K;refine nU 3 (λK d=>?_);go_simp;refine d _ _ ?_;clear d K;refine nU 4 (λK d=>?_);go_simp;refine d _ _ ?_;clear d K;refine nU 6 (λK d=>?_);go_simp;refine d _ _ ?_;clear d K;refine nU 7 (λK d=>?_);go_simp;refine d _ _ ?_;clear d K;refine W9 Z1 ?_ _;gi_wp2;exact⟨t.o.1,rfl,t.o.2.2⟩
     go_simp;refine d _ _ ?_;clear d K;refine nV 1 4 (λK d=>?_) (λK d=>?_)
     ·go_simp;refine d _ _ ?_;clear d K;refine nV 4 5 (λK d=>?_) (λK d=>?_)
      ·go_simp;refine d _ _ ?_;clear d K;refine nU 5 (λK d=>?_);go_simp;refine d _ _ ?_;clear d K;refine nU 6 (λK d=>?_);go_simp;refine d _ _ ?_;clear d K;refine nU 7 (λK d=>?_);go_simp;refine d _ _ ?_;clear d K;refine W9 Z1 ?_ _;gi_wp2;exact⟨t.o.1,rfl,t.o.2.2⟩
      go_simp;refine d _ _ ?_;clear d K;refine nU 4 (λK d=>?_);go_simp;refine d _ _ ?_;clear d K;refine nU 6 (λK d=>?_);go_simp;refine d _ _ ?_;clear d K;refine nU 7 (λK d=>?_);go_simp;refine d _ _ ?_;clear d K;refine W9 Z1 ?_ _;gi_wp2;exact⟨t.o.1,rfl,t.o.2.2⟩
     go_simp;refine d _ _ ?_;clear d K;refine nU 1 (λK d=>?_);go_simp;refine d _ _ ?_;clear d K;refine nU 5 (λK d=>?_);go_simp;refine d _ _ ?_;clear d K;refine nU 6 (λK d=>?_);go_simp;refine d _ _ ?_;clear d K;refine nU 7 (λK d=>?_);go_simp;refine d _ _ ?_;clear d K;refine W9 Z1 ?_ _;gi_wp2;exact⟨t.o.1,rfl,t.o.2.2⟩
    go_simp;refine d _ _ ?_;clear d K;refine nV 0 3 (λK d=>?_) (λK d=>?_)
    ·go_simp;refine d _ _ ?_;clear d K;refine nV 1 3 (λK d=>?_) (λK d=>?_)
     ·go_simp;refine d _ _ ?_;clear d K;refine nV 3 5 (λK d=>?_) (λK d=>?_)
      ·go_simp;refine d _ _ ?_;clear d K;refine nV 4 5 (λK d=>?_) (λK d=>?_)
       ·go_simp;refine d _ _ ?_;clear d K;refine nU 5 (λK d=>?_);go_simp;refine d _ _ ?_;clear d K;refine nU 6 (λK d=>?_);go_simp;refine d _ _ ?_;clear d K;refine nU 7 (λK d=>?_);go_simp;refine d _ _ ?_;clear d K;refine W9 Z1 ?_ _;gi_wp2;exact⟨t.o.1,rfl,t.o.2.2⟩
       go_simp;refine d _ _ ?_;clear d K;refine nU 4 (λK d=>?_);go_simp;refine d _ _ ?_;clear d K;refine nU 6 (λK d=>?_);go_simp;refine d _ _ ?_;clear d K;refine nU 7 (λK d=>?_);go_simp;refine d _ _ ?_;clear d K;refine W9 Z1 ?_ _;gi_wp2;exact⟨t.o.1,rfl,t.o.2.2⟩
      go_simp;refine d _ _ ?_;clear d K;refine nU 3 (λK d=>?_);go_simp;refine d _ _ ?_;clear d K;refine nU 4 (λK d=>?_);go_simp;refine d _ _ ?_;clear d K;refine nU 6 (λK d=>?_);go_simp;refine d _ _ ?_;clear d K;refine nU 7 (λK d=>?_);go_simp;refine d _ _ ?_;clear d K;refine W9 Z1 ?_ _;gi_wp2;exact⟨t.o.1,rfl,t.o.2.2⟩
     go_simp;refine d _ _ ?_;clear d K;refine nV 1 4 (λK d=>?_) (λK d=>?_)
     ·go_simp;refine d _ _ ?_;clear d K;refine nV 4 5 (λK d=>?_) (λK d=>?_)
      ·go_simp;refine d _ _ ?_;clear d K;refine nU 5 (λK d=>?_);go_simp;refine d _ _ ?_;clear d K;refine nU 6 (λK d=>?_);go_simp;refine d _ _ ?_;clear d K;refine nU 7 (λK d=>?_);go_simp;refine d _ _ ?_;clear d K;refine W9 Z1 ?_ _;gi_wp2;exact⟨t.o.1,rfl,t.o.2.2⟩
      go_simp;refine d _ _ ?_;clear d K;refine nU 4 (λK d=>?_);go_simp;refine d _ _ ?_;clear d K;refine nU 6 (λK d=>?_);go_simp;refine d _ _ ?_;clear d K;refine nU 7 (λK d=>?_);go_simp;refine d _ _ ?_;clear d K;refine W9 Z1 ?_ _;gi_wp2;exact⟨t.o.1,rfl,t.o.2.2⟩
     go_simp;refine d _ _ ?_;clear d K;refine nU 1 (λK d=>?_);go_simp;refine d _ _ ?_;clear d K;refine nU 5 (λK d=>?_);go_simp;refine d _ _ ?_;clear d K;refine nU 6 (λK d=>?_);go_simp;refine d _ _ ?_;clear d K;refine nU 7 (λK d=>?_);go_simp;refine d _ _ ?_;clear d K;refine W9 Z1 ?_ _;gi_wp2;exact⟨t.o.1,rfl,t.o.2.2⟩
    go_simp;refine d _ _ ?_;clear d K;refine nV 0 4 (λK d=>?_) (λK d=>?_)
    ·go_simp;refine d _ _ ?_;clear d K;refine nV 1 4 (λK d=>?_) (λK d=>?_)
     ·go_simp;refine d _ _ ?_;clear d K;refine nV 4 5 (λK d=>?_) (λK d=>?_)
      ·go_simp;refine d _ _ ?_;clear d K;refine nU 5 (λK d=>?_);go_simp;refine d _ _ ?_;clear d K;refine nU 6 (λK d=>?_);go_simp;refine d _ _ ?_;clear d K;refine nU 7 (λK d=>?_);go_simp;refine d _ _ ?_;clear d K;refine W9 Z1 ?_ _;gi_wp2;exact⟨t.o.1,rfl,t.o.2.2⟩
      go_simp;refine d _ _ ?_;clear d K;refine nU 4 (λK d=>?_);go_simp;refine d _ _ ?_;clear d K;refine nU 6 (λK d=>?_);go_simp;refine d _ _ ?_;clear d K;refine nU 7 (λK d=>?_);go_simp;refine d _ _ ?_;clear d K;refine W9 Z1 ?_ _;gi_wp2;exact⟨t.o.1,rfl,t.o.2.2⟩
     go_simp;refine d _ _ ?_;clear d K;refine nU 1 (λK d=>?_);go_simp;refine d _ _ ?_;clear d K;refine nU 5 (λK d=>?_);go_simp;refine d _ _ ?_;clear d K;refine nU 6 (λK d=>?_);go_simp;refine d _ _ ?_;clear d K;refine nU 7 (λK d=>?_);go_simp;refine d _ _ ?_;clear d K;refine W9 Z1 ?_ _;gi_wp2;exact⟨t.o.1,rfl,t.o.2.2⟩
    go_simp;refine d _ _ ?_;clear d K;refine nU 0 (λK d=>?_);go_simp;refine d _ _ ?_;clear d K;refine nU 1 (λK d=>?_);go_simp;refine d _ _ ?_;clear d K;refine nU 5 (λK d=>?_);go_simp;refine d _ _ ?_;clear d K;refine nU 6 (λK d=>?_);go_simp;refine d _ _ ?_;clear d K;refine nU 7 (λK d=>?_);go_simp;refine d _ _ ?_;clear d K;refine W9 Z1 ?_ _;gi_wp2;exact⟨t.o.1,rfl,t.o.2.2⟩
  case stop=>
   rintro D c J W hD ⟨j,hj,rfl⟩ ⟨rfl,ar,x,e1,e2,e3,R,q1,q2,q3⟩ d;rw[Lt]at e1;obtain⟨e4,e5⟩:=List.append_inj' e1 rfl;injection e5 with e5;subst e4 e5;have al:=bw_some (p:=λp=>sx p.key == k) hj (λy hy=>by rw[<- q5t];exact e2 y hy) (by rw[<- q5t];exact e3);have HG:=LH (bc.o _ al);have az:W.heap.size > D:=(ZP.1 d).1;have v:Fr (λb=>O.heap.size<=b) W (W.putObj D (.deferred B0)):=Fr.b8 (grownBy_putObj' W D (.deferred B0)) (λr e=>by cases e;exact hD);have b7:Fr (λb=>(f<b/\b<f+4)\/w2.heap.size<=b) w2 (W.putObj D (.deferred B0)):=by
    have a1:Fr (λb=>(f<b/\b<f+4)\/w2.heap.size<=b) w2 O:=(Ef aG.o).mono (λb _ h=>eS h);exact(a1.trans' R (λb _ h=>h.imp (λx=>x) (λh=>Z4 z.o))).trans' v (λb _ h=>eS (Z4 z.o))
   have hG:=Cf.eE (g:=f) af.o aE.o (λj hj=>by
    have:j=0\/j=1\/j=2\/j=3:=by omega
    obtain rfl|rfl|rfl|rfl:=this;exact ao.o.2;exact ab.o.2;exact aa.o.2;exact a9.o.2) (Z4 aF.o) b7
   have ay:f+3<O.heap.size:=Z4 z.o;have g1:=(v.al q1 Z0).cell 0;have g2:=(v.al q2 Z0).cell 0;have g3:=(v.al q3 Z0).cell 0;rw[<- HA.o];gi_wp2;refine⟨Z3,eR ⟨_,_,rfl,run_takeDeferred d,?_⟩⟩;refine⟨_,IK rfl rfl rfl g1 g2 g3,?_⟩;unfold N7;rw[HG.o];exact⟨by show Ending.returned (Value.tuple #[ZV _,ZX _,ZS])=Ending.returned (Value.tuple #[ZV ⟨(sx _).toArray⟩,ZX _,C0 0]);rw[Ks];rfl,hG⟩
  rintro D ys W hD rfl ⟨hp,U⟩ d;have al:=bw_none (p:=λp=>sx p.key == k) (λy hy=>by rw[<- q5t];exact hp y hy);have HG:=LH (b8.o al);have az:W.heap.size > D:=(ZP.1 d).1;obtain⟨⟨ah,a5⟩,a2,Y,S⟩:=aD.o W U;rw[<- HA.o];have aQ:HI W own2 P H2:=af.o.below (aG.o.trans (U.mono (Z4 z.o)));have bj:=LH (TI (aQ.below (VC W.heap.size W).drew) (s:=Aa k) (by rw[b5];have:=FJ k;omega) k (Ex hk));have aR:Fr (λb=>(f<b/\b<f+4)\/w2.heap.size<=b) w2 W:=((Ef aG.o).mono (T:=λb=>(f<b/\b<f+4)\/w2.heap.size<=b) (λb _ h=>.inr h)).trans' (Ef U) (λb _ h=>.inr (Z4 z.o));have aW:=LH aR;have bi:=LH a2;have bh:=LH Y;have bg:=LH S;have ay:f+3<W.heap.size:=S.lt;have b3:f+3<w2.heap.size:=e3;have bf:=LH d;generalize aZ:B8 (CB ((H2.sh (Aa k)).sto k) 1099511627776)=X at *;clear aQ aR aZ al a2 Y S d0 d1 d2 d3 e0 e1 e2 e3 f1 f2 f3 m2 ml hp U aA aw ap d;go_upto_region 8 with (fail)
  refine L4 ?_;refine nW ?_;refine CR (λW'=>W'.cell? ⟨f,0,B0⟩=Bs (ZV ⟨k.toArray⟩)/\f<W'.heap.size) 8 (λc _ _ _ _ h=>ZB rfl (h.2 c)) (λM=>?_);have I:W.drew.cell? ⟨f,0,B0⟩=Bs (ZV ⟨k.toArray⟩)/\f<W.drew.heap.size:=⟨ah,a5⟩
  refine nD 0 [1,2,4,5,6,7,8,9,10] M I ?_;refine nD 1 [2,4,5,6,7,8,9,10] M I ?_;refine nD 2 [4,5,6,7,8,9,10] M I ?_;refine nA 3 [4,5,6,7,8,9,10] rfl rfl M I (λw' aY=>by obtain⟨p1,pl⟩:=aY;go_simp;rfl) ?_;refine nG 4 (λKK d=>?_);go_simp;refine bj.o.mono ?_;rintro e w5 ⟨rfl,aO⟩;have E:VI W.heap.size W w5:=(VC W (B:=W.heap.size)).drew.trans aO;have a8:=Ef E;have C5:=LH (show w5.cell? ⟨f,0,B0⟩=Bs (ZV ⟨k.toArray⟩)/\f<w5.heap.size from⟨(E.cell (p:=⟨f,0,B0⟩) a5).trans ah,VF a5 E.size⟩);have g1:=a8.al bi.o Z0;have g2:=a8.al bh.o Z0;have g3:=a8.al bg.o Z0;have u1:=g1.cell 0;have u2:=g2.cell 0;have u3:=g3.cell 0;have v1:=g1.frozen 0;have v2:=g2.frozen 0;have v3:=g3.frozen 0;simp only[NW,Ft]at u1 u2 u3;have l1:=g1.lt;have l2:=g2.lt;have l3:=g3.lt;have hS:Fr (λb=>(f<b/\b<f+4)\/w2.heap.size<=b) w2 (((w5.setCell ⟨f+1,0,B0⟩ (ZV ⟨X.1.toArray⟩)).setCell ⟨f+2,0,B0⟩ (ZX X.2)).setCell ⟨f+3,0,B0⟩ ZS):=
   (((aW.o.trans' a8 (λb bv h=>ZB h (Z4 aW.o.size))).setCell (p:=⟨f+1,0,B0⟩) (.inl (.inl ⟨by show f<f+1;omega,by show f+1<f+4;omega⟩)) _).setCell (p:=⟨f+2,0,B0⟩) (.inl (.inl ⟨by show f<f+2;omega,by show f+2<f+4;omega⟩)) _).setCell (p:=⟨f+3,0,B0⟩) (.inl (.inl ⟨by show f<f+3;omega,by show f+3<f+4;omega⟩)) _
  have r1:=(Fr.aL (f+3) _ 0 ZS).al ((Fr.aL (f+2) _ 0 (ZX X.2)).al (g1.aZ 0 (ZV ⟨X.1.toArray⟩)) Z0) Z0;have r2:=(Fr.aL (f+3) _ 0 ZS).al (((Fr.aL (f+1) _ 0 (ZV ⟨X.1.toArray⟩)).al g2 Z0).aZ 0 (ZX X.2)) Z0;have r3:=((Fr.aL (f+2) _ 0 (ZX X.2)).al ((Fr.aL (f+1) _ 0 (ZV ⟨X.1.toArray⟩)).al g3 Z0) Z0).aZ 0 ZS;have aL:(((w5.setCell ⟨f+1,0,B0⟩ (ZV ⟨X.1.toArray⟩)).setCell ⟨f+2,0,B0⟩ (ZX X.2)).setCell ⟨f+3,0,B0⟩ ZS).heap[D]? = Bs (.deferred (Bs [])):=by
   have b6:Fr (λb=>f<b/\b<f+4) w5 (((w5.setCell ⟨f+1,0,B0⟩ (ZV ⟨X.1.toArray⟩)).setCell ⟨f+2,0,B0⟩ (ZX X.2)).setCell ⟨f+3,0,B0⟩ ZS):=
    (((Fr.refl _ w5).setCell (p:=⟨f+1,0,B0⟩) (.inl ⟨by show f<f+1;omega,by show f+1<f+4;omega⟩) _).setCell (p:=⟨f+2,0,B0⟩) (.inl ⟨by show f<f+2;omega,by show f+2<f+4;omega⟩) _).setCell (p:=⟨f+3,0,B0⟩) (.inl ⟨by show f<f+3;omega,by show f+3<f+4;omega⟩) _
   rw[b6.block D (VF az E.size) (Z4 z.o),E.block D az];exact bf.o
  have HS:=LH hS;have bb:=LH r1;have ba:=LH r2;have b9:=LH r3;have be:=LH aL;clear hS r1 r2 r3 aL g1 g2 g3 a8 aO E;have I:w5.cell? ⟨f,0,B0⟩=Bs (ZV ⟨k.toArray⟩)/\f<w5.heap.size:=C5.o;go_simp;refine d _ _ (λ_=>C5.o) ?_;clear d KK;refine nD 5 [8,9,10] M I ?_;refine nD 6 [8,9,10] M I ?_;refine nD 7 [8,9,10] M I ?_;refine nG 8 (λKK d=>?_);go_simp;refine d _ _ nZ ?_;clear d KK;refine nG 9 (λKK d=>?_);go_simp;refine d _ _ nZ ?_;clear d KK;refine nG 10 (λKK d=>?_);go_simp;refine d _ _ nZ ?_;clear d KK;refine nX ?_;refine⟨?_,λc h=>by cases h⟩;clear M u1 u2 u3 v1 v2 v3 l1 l2 l3 I ah a5;go_wp2_with fail;have v:Fr (λb=>b=D) _ (World.putObj _ D (.deferred B0)):=Fr.b8 (grownBy_putObj' (((w5.setCell ⟨f+1,0,B0⟩ (ZV ⟨X.1.toArray⟩)).setCell ⟨f+2,0,B0⟩ (ZX X.2)).setCell ⟨f+3,0,B0⟩ ZS) D (.deferred B0)) (λr e=>by cases e;rfl);have bw:f+3<D:=Z4 z.o;have hG:=Cf.eE (g:=f) af.o aE.o (λj hj=>by
   have:j=0\/j=1\/j=2\/j=3:=by omega
   obtain rfl|rfl|rfl|rfl:=this;exact ao.o.2;exact ab.o.2;exact aa.o.2;exact a9.o.2) (Z4 aF.o) (HS.o.trans' v (λb _ (h:b=D)=>eS (Z4 z.o)))
  have g1:=(v.al bb.o Z0).cell 0;have g2:=(v.al ba.o Z0).cell 0;have g3:=(v.al b9.o Z0).cell 0;refine⟨Z3,eR ⟨_,_,rfl,run_takeDeferred be.o,?_⟩⟩;refine⟨_,IK rfl rfl rfl g1 g2 g3,?_⟩;unfold N7;rw[HG.o];exact⟨rfl,hG⟩
 rw[show lkV P id k er=ZZ #[ZW B0,ZW B0,.iface 79 (Wm eQ er)]from by unfold lkV;rw[Z7 he]];have R:Fr (λx=>(f<x/\x<f+4)\/w2.heap.size<=x) w2 (((w2.setCell ⟨f+1,0,B0⟩ (ZV ⟨#[]⟩)).setCell ⟨f+2,0,B0⟩ (ZX L1)).setCell ⟨f+3,0,B0⟩ (.iface 79 (Wm eQ er))):=
  (((Fr.refl _ w2).setCell (p:=⟨f+1,0,B0⟩) (.inl (.inl ⟨by show f<f+1;omega,by show f+1<f+4;omega⟩)) _).setCell (p:=⟨f+2,0,B0⟩) (.inl (.inl ⟨by show f<f+2;omega,by show f+2<f+4;omega⟩)) _).setCell (p:=⟨f+3,0,B0⟩) (.inl (.inl ⟨by show f<f+3;omega,by show f+3<f+4;omega⟩)) _
 have hG:=Cf.eE (g:=f) af.o aE.o (λj hj=>by
  have:j=0\/j=1\/j=2\/j=3:=by omega
  obtain rfl|rfl|rfl|rfl:=this;exact ao.o.2;exact ab.o.2;exact aa.o.2;exact a9.o.2) (Z4 aF.o) R
 have bk:=LH hG;have q1:=((Fr.aL (f+3) _ 0 (.iface 79 (Wm eQ er))).al ((Fr.aL (f+2) _ 0 (ZX L1)).al (ab.o.1.aZ 0 (ZV ⟨#[]⟩)) Z0) Z0).cell 0;have q2:=((Fr.aL (f+3) _ 0 (.iface 79 (Wm eQ er))).al (((Fr.aL (f+1) _ 0 (ZV ⟨#[]⟩)).al aa.o.1 Z0).aZ 0 (ZX L1)) Z0).cell 0;have q3:=(((Fr.aL (f+2) _ 0 (ZX L1)).al ((Fr.aL (f+1) _ 0 (ZV ⟨#[]⟩)).al a9.o.1 Z0) Z0).aZ 0 (.iface 79 (Wm eQ er))).cell 0;have Q1:=LH q1;have Q2:=LH q2;have Q3:=LH q3;have aq:=LH (ax he);have bm:=LH (show C0 er=.iface 79 (Wm eQ er)from by unfold C0;rw[Z7 he]);clear R hG q1 q2 q3 hr a3 ak ax ad ac he;go_wp2_with fail;refine⟨_,IK rfl rfl rfl Q1.o Q2.o Q3.o,?_⟩;unfold N7;rw[aq.o];exact⟨by rw[bm.o];rfl,bk.o⟩
end
end
def AF.bo{base c:Nat}{d:TypeId}(p:Ae w g d f)(s:f[c]? = Bs (.map B0))(j:d≠168/\d≠166)(t:base<=w.heap.size)(e:Sx->Ax) :
  AF w base n g c d f B0 e (λ_=>B0):=
 ⟨p,s,λ_=>rfl,λx k h=>(by cases h),λx y _ h=>ZB rfl h,λx h=>ZB rfl h,j,λb h=>(by cases h),λx h=>ZB rfl h,t⟩
def Cl.bo{base c:Nat}{d:Array S2}(s:Ae w g e d)(u:d[c]? = Bs (.map B0))(t:d[c+1]? = Bs (Wm eQ 0))(j:e≠145)(p:base<=g)(f:Sx->S2) :
  Cl w base n g c e d B0 f (λ_=>[]) 0:=
 ⟨s,u,t,j,λ_=>rfl,λx h=>ZB rfl h,λx y _ h=>ZB rfl h,λx h=>ZB rfl h,λx v h=>(by cases h),λx=>Yv,λx=>VG _,WH _,Z2,λb h=>(by cases h),p⟩
def Er.ev{gn:Nat->Nat}{v:Pa}{x:Bv}(h:Er w own n s g gn v x)(f:Ae w' g 105 (Gt {v with mt:=B0,ms:=B0} {x with tab:=λ_=>B0,sto:=λ_=>[],done:=0}))(p:Fr (λk=>k=g) w w') :
  Er w' own n s g gn {v with mt:=B0,ms:=B0} {x with tab:=λ_=>B0,sto:=λ_=>[],done:=0}:=by
 have c:=h.gt;have u:¬v.bd=g:=λe=>by have:=h.dP;rw[e,c]at this;cases this
 have t:∀b,v.Vn.ownBlock=Bs b->¬b=g:=λb f e=>by have:=h.cy b f;rw[e,c]at this;cases this
 refine⟨p.own h.row t,h.cy,h.dd.fr p u,h.dP,AF.bo f rfl ⟨Z2,Z2⟩ (VG _) _,λb d=>?_,Cl.bo f rfl rfl Z2 (VG _) _,λb d=>?_,c⟩;obtain h|⟨x,j,_⟩:=d;cases h;exact ZB rfl j;obtain h|⟨x,j,_⟩:=d;cases h;exact ZB rfl j
def HI.et(h:HI w own P H)(d:x'.nd=(H.sh s).nd){v:Pa}(p:Er w own H.n s (P.gs s) (P.gn s) v (H.sh s))(f:Fr (λk=>k=P.gs s) w w')(j:Er w' own H.n s (P.gs s) (P.gn s) v' x') :
  HI w' own P (H.ax s x')/\AC w own w' own:=by
 have c:Fr (OS own (Dr s)) w w':=f.mono (λb _ e=>⟨_,by rw[e];exact p.gt,eR rfl⟩);exact⟨h.setSh' d c (Ext.refl own _) (λb t=>VF (h.lt b t) f.size) ⟨v',j⟩,⟨Ext.refl own _,Ii c (λ_=>Ge),λ_ _ h=>h⟩⟩
def HI.setEp(h:HI w own P H)(hs:s<H.c)(e:Int):HI (w.setCell ⟨P.gs s,2,B0⟩ (Wm eQ e)) own P (H.ax s {H.sh s with ad:=e})/\AC w own (w.setCell ⟨P.gs s,2,B0⟩ (Wm eQ e)) own:=by obtain⟨v,b⟩:=h.sh s hs;exact h.et rfl b (Fr.aL _ w 2 _) (v':=v) (b.dq (by simpa [Gt]using b.tab.al.aZ 2 (Wm eQ e)) (Fr.aL _ w 2 _) rfl rfl rfl)
def HI.setSz(h:HI w own P H)(hs:s<H.c)(e:Int):HI (w.setCell ⟨P.gs s,3,B0⟩ (Wm eQ e)) own P (H.ax s {H.sh s with size:=e})/\AC w own (w.setCell ⟨P.gs s,3,B0⟩ (Wm eQ e)) own:=by obtain⟨v,b⟩:=h.sh s hs;exact h.et rfl b (Fr.aL _ w 3 _) (v':=v) (b.dq (by simpa [Gt]using b.tab.al.aZ 3 (Wm eQ e)) (Fr.aL _ w 3 _) rfl rfl rfl)
def qcg(w:D0)(g:Nat):D0:=(((w.setCell ⟨g,4,B0⟩ (.map B0)).setCell ⟨g,5,B0⟩ (.map B0)).setCell ⟨g,6,B0⟩ (Wm eQ 0)).setCell ⟨g,7,B0⟩ (Wm eQ 0)
def HI.ev(h:HI w own P H){s:Nat}(hs:s<H.c):HI (qcg w (P.gs s)) own P (H.ax s {H.sh s with tab:=λ_=>B0,sto:=λ_=>[],done:=0})/\AC w own (qcg w (P.gs s)) own:=by obtain⟨v,b⟩:=h.sh s hs;have c:Fr (λk=>k=P.gs s) w (qcg w (P.gs s)):=(((Fr.aL (P.gs s) w 4 _).trans (Fr.aL (P.gs s) _ 5 _)).trans (Fr.aL (P.gs s) _ 6 _)).trans (Fr.aL (P.gs s) _ 7 _);exact h.et rfl b c (v':={v with mt:=B0,ms:=B0}) (b.ev (by simpa [Gt,qcg]using (((b.tab.al.aZ 4 (.map B0)).aZ 5 (.map B0)).aZ 6 (Wm eQ 0)).aZ 7 (Wm eQ 0)) c)
def HI.cG(h:HI w own P H)(hs:s<H.c):∃v:Pa,w.cell? ⟨P.gs s,2,B0⟩=Bs (Wm eQ (H.sh s).ad)/\w.cell? ⟨P.gs s,3,B0⟩=Bs (Wm eQ (H.sh s).size)/\w.cell? ⟨P.gs s,4,B0⟩=Bs (.map v.mt)/\w.cell? ⟨P.gs s,5,B0⟩=Bs (.map v.ms)/\w.cell? ⟨P.gs s,6,B0⟩=Bs (Wm eQ 0)/\w.cell? ⟨P.gs s,7,B0⟩=Bs (Wm eQ (H.sh s).done)/\
  (∀o,w.frozen? ⟨P.gs s,o,B0⟩=L1)/\P.gs s<w.heap.size:=by
 obtain⟨v,t⟩:=h.sh s hs;have b:=t.tab.al;have p:=b.cell 2;have j:=b.cell 3;have f:=b.cell 4;have e:=b.cell 5;have d:=b.cell 6;have c:=b.cell 7;unfold Gt at p j f e d c;simp only[NW,Ft,O0]at p j f e d c;exact⟨v,p,j,f,e,d,c,b.frozen,b.lt⟩
def UJ(H:Hs)(s b:Nat)(l:List Nat)(e:Int)(w:D0)(v:S2)(wr:D0):Prop:=
 ∃(q:Nat)(V:S2),v=Wm eQ q/\q<=l.length/\Ae wr b 148 #[Wm eQ e,V]/\wr.ownsRow (b+1) 3 1 V q ((l.take q).map λj=>Wm eQ ((H.sh s).nd j).id)/\VI b w wr
def FiB(P:Av)(own:Ah)(H:Hs)(s:Nat)(ids:List Int)(l:List Nat)(w:D0)(v:S2)(wr:D0):Prop:=
 ∃q:Nat,v=Wm eQ q/\q<=l.length/\Cf P own ((l.take q).foldl (Hs.aM s ids) H) w wr
def Nn{ids:List Int}{H:Hs}{l:List Nat}{q:Nat}(h:l[q]? = Bs j):(l.take (q+1)).foldl (Hs.aM s ids) H=Hs.aM s ids ((l.take q).foldl (Hs.aM s ids) H) j:=by rw[VV,h,WV];rfl
def KH{s:Nat}{ids:List Int} : ∀(l:List Nat) (H:Hs) {j:Nat},j ∉ l->((l.foldl (Hs.aM s ids) H).sh s).nd j=(H.sh s).nd j/\((l.foldl (Hs.aM s ids) H).sh s).ad=(H.sh s).ad
 |[],_,_,_=>⟨rfl,rfl⟩
 |a::l,H,j,hj=>by
  obtain⟨c,b⟩:=KH l (Hs.aM s ids H a) (λh=>hj (VE _ h));have e:(Hs.aM s ids H a).sh s = {H.sh s with nd:=Af (H.sh s).nd a (((H.sh s).nd a).bS (H.sh s).ad ids).aD.1}:=Aq _ _ _;refine⟨c.trans ?_,b.trans (by rw[e])⟩;rw[e];exact Ay (λe=>hj (by rw[e];exact VB)) _
def QN{H:Hs}(d:Wf H)(hs:s<H.c):((H.sh s).bL H.n).Nodup:=by unfold Bv.bL List.Nodup;rw[List.pairwise_map];have j:((H.sh s).ai H.n).Nodup:=Yg _ List.nodup_range;refine List.Pairwise.imp_of_mem (λ{a b} h f c e=>c ?_) j;rw[(d.nd s a hs (q4k h)).id,(d.nd s b hs (q4k f)).id]at e;omega
def Fm(H:Hs)(s:Nat)(e:Int)(n:Nat):Hs:=H.ax s {H.sh s with ad:=e,size:=n}
def TR(H:Hs)(s:Nat):H.bN s=(((((H.sh s).ai H.n).foldl (Hs.aM s ((H.sh s).bL H.n)) (Fm H s (Xt ((H.sh s).ad+1)) ((H.sh s).ai H.n).length)).ax s { (((H.sh s).ai H.n).foldl (Hs.aM s ((H.sh s).bL H.n)) (Fm H s (Xt ((H.sh s).ad+1)) ((H.sh s).ai H.n).length)).sh s with tab:=λ_=>B0,sto:=λ_=>[],done:=0})).take s:=rfl
def KR(h:HI w own P H)(wf:Wf H)(hs:s<H.c)(he:∀j∈(H.sh s).ai H.n,((H.sh s).nd j).ad<Xt ((H.sh s).ad+1)) :
  VX Tryz.prog 45 #[pw P.g,pw (P.gs s)] w λe w'=>e=ZY (ZZ #[])/\Cf P own (H.fix s) w w':=by
 have HH:=LH h;have aK:=LH wf;have bN:=wf.n4;have bQ:=wf.c3;have HL:=LH (q51 h wf hs);have bP:=q2n (H.sh s) H.n;have HM:=LH (λj (hj:j∈(H.sh s).ai H.n)=>q4k hj);have bI:=LH (TR H s);have bj:=LH (show(H.sh s).ai H.n=[]->H.fix s=H from λe=>by unfold Hs.fix;rw[Z8 e]);have bi:=LH (show(H.sh s).ai H.n≠[]->H.fix s=H.bN s from λe=>by unfold Hs.fix;rw[Z7 e]);have ab:=LH (wf.bL hs);have bB:=LH (QN wf hs);have aM:=LH (show(H.sh s).bL H.n=((H.sh s).ai H.n).map (λj=>((H.sh s).nd j).id)from rfl);have bA:=LH (show((H.sh s).ai H.n).Nodup from Yg _ List.nodup_range);have HE:=LH he;unfold DN at HL;clear h wf he;generalize H.bN s=HR at *;generalize H.fix s=aN at *;generalize (H.sh s).bL H.n=ids at *;generalize (H.sh s).ai H.n=l at *;generalize bn:Xt ((H.sh s).ad+1)=d at *;unfold pw at *;go_enter Tryz.func45,Tryz.ntmps45;go_wp2_with fail;refine HL.o.mono ?_;rintro e w1 ⟨V,rfl,Y,aI⟩;obtain⟨A,c,rfl,_,_⟩:=AM Y;have aA:=LH Y;have aP:=LH aI;have ak:=LH (HH.o.below aI);have z:=LH (λb (hb:(WK A l.length c).ownBlock=Bs b)=>HH.o.free (Y.lt b hb).1);clear Y aI HL;by_cases hl:l=[]
 ·have aD:l.length=0:=by rw[hl];rfl
  have ay:aN=H:=bj.o hl;have R:=LH (show Cf P own aN w w1 from by rw[ay];exact⟨own,ak.o,HZ.below own aP.o⟩);clear ay hl;rw[aD];go_wp2_with fail;refine bodyPost_ret (results_none rfl _ _ _) rfl ?_;exact⟨rfl,R.o⟩
 have aD:¬(l.length:Int)=0:=by cases l with|nil=>exact ZB rfl hl|cons a l=>simp;omega
 have bO:0<l.length:=by omega
 have bo:((l.length:Int) == 0)=L1:=Z6 aD;have bG:=LH (bi.o hl);clear bj bi;obtain⟨vs,c2,c3,c4,c5,c6,c7,p,ac⟩:=ak.o.cG hs;have f2:=p 2;have ae:=ak.o.setEp hs d;have a5:=LH ae.1;have ba:=LH ((HZ.below own aP.o).trans ae.2);have S:=LH (RB aA.o z.o ae.2);clear ae c3 c4 c5 c6 c7 p hl;go_upto_region 3 with (fail)
 have aU:=a5.o.cG hs;generalize (w1.setCell ⟨P.gs s,2,B0⟩ (.int eQ d))=w2 at *;obtain⟨_,g2,_,_,_,_,_,_,bp⟩:=aU;rw[show((H.ax s {H.sh s with ad:=d}).sh s).ad=d from by rw[CJ]]at g2;have ar:Ae (w2.alloc (eT #[.int eQ d,WK B0 0 0] 148)) w2.heap.size 148 #[.int eQ d,WK B0 0 0]:=Ae.b4 w2 _ _;have bg:=LH (show own w2.heap.size=B0 from a5.o.free (Hi _));have bu:=LH (show UJ H s w2.heap.size l d w2 (.int eQ 0) (w2.alloc (eT #[.int eQ d,WK B0 0 0] 148))from
  ⟨0,_,rfl,VG _,ar,VW _ _ _ _,(VC _ _).alloc (Hi _) _⟩)
 clear ar f2 ac c2 HH ak aP aA;go_wp2_with fail;clear g2 bp bn bo;generalize aq:w2.heap.size=G at *;have aj:=LH aq;clear aq;go_loopw [31] (UJ H s G l d w2) (λv _=>l.length-(intOf v).toNat)
 case atStart=>exact bu.o
 obtain⟨q,Vc,rfl,hq,a3,D,K⟩:=hrel;by_cases bm:(q:Int)<l.length
 ·have J:q<l.length:=by omega
  have bl:q<=4:=by omega
  obtain⟨r,o,u,hA,hr,hu,aG⟩:=((Rd.a7 S.o).below (K.mono (Z4 aj.o))).dg (k:=q) J;have hx:l[q]? = Bs l[q]:=K0 J;rw[VQ,hx]at hu;simp only[WA,VN]at hu;subst hu hA;have bM:r<wr.heap.size:=VF hr K.size;have aE:=HM.o l[q] (Wy J);have ah:=LH (show(l.take (q+1)).map (λj=>Wm eQ ((H.sh s).nd j).id)=(l.take q).map (λj=>Wm eQ ((H.sh s).nd j).id)++[Wm eQ ((H.sh s).nd l[q]).id]from by rw[VV,hx,WQ];rfl);generalize l[q]=j at *;clear hx;obtain⟨C,V6,L,hN,_⟩:=(a5.o.below (K.mono (Z4 aj.o)).drew).nd s j hs aE;have ax:((((H.ax s {H.sh s with ad:=d})).sh s).nd j).id=((H.sh s).nd j).id:=by rw[CJ]
  have aa:=Np hN;rw[ax]at aa;have bD:=LH aa;clear hN aa ax;obtain⟨A6,c6,rfl,_,_⟩:=AM D;have be:=LH D;have bJ:=LH K;have bf:=LH a3;have k1:=a3.cell 1;have kl:=a3.lt;simp only[NW,Ft,O0]at k1;clear D K a3;go_upto_region 7 with (fail)
  clear aG;refine nW ?_;refine CR (λW=>W.cell? ⟨G,1,B0⟩=Bs (WK A6 q c6)/\G<W.heap.size) 5 (λ_ _ _ _ _ h=>h) (λai=>?_);have X:wr.drew.cell? ⟨G,1,B0⟩=Bs (WK A6 q c6)/\G<wr.drew.heap.size:=⟨k1,kl⟩
  refine nD 0 [1,5,6,7] ai X ?_;refine nA 1 [5,6,7] rfl rfl ai X (λw' bk=>by obtain⟨p1,pl⟩:=bk;go_simp;rfl) ?_;refine nD 2 [3,4,5,6,7] ai X ?_;refine nG 3 (λKK hK=>?_);go_simp;refine bD.o.mono ?_;rintro e w3 ⟨rfl,rfl⟩;go_simp;refine hK _ _ (λ_=>X) ?_;clear hK KK;refine nG 4 (λKK hK=>?_);go_simp;refine hK _ _ (λ_=>⟨(WT wr _ ⟨G,1,B0⟩ kl).trans X.1,by have:=X.2;simp at this;simp;omega⟩) ?_;clear hK KK;refine nG 5 (λKK hK=>?_);have an:G+1<=wr.drew.heap.size:=kl;have aV:q+1<=VY/\(q+1)*8<=140737488355328:=⟨by unfold VY;omega,Z0⟩
  refine SX wr.drew wr.heap.size rfl _ (.tmp 36) (.tmp 39) 26 rfl (G+1) 3 (.int eQ 0) 1 8 Tryz.underlying26 GX rfl Z2 _ _ _ #[.int eQ ((H.sh s).nd j).id] rfl be.o 1 rfl _ rfl rfl (by simp[Wx]) aV.1 aV.2 an ?_;intro V2 w8 y aX;have aH:VI (G+1) wr w8:=(VC wr (B:=G+1)).drew.trans (aX.below (λb hb=>(be.o.lt b hb).1) an);have E:Ae w8 G 148 #[.int eQ d,WK A6 q c6]:=(Ef aH).al bf.o Z0;have y1:=E.cell 1;simp only[NW,Ft,O0]at y1;have yf:=E.frozen 1;have yl:=E.lt;have R:=LH (show UJ H s G l d w2 (.int eQ ((q+1:Nat):Int)) (w8.setCell ⟨G,1,B0⟩ V2)from by
   have ao:=Fr.aL G w8 1 V2;refine⟨q+1,V2,rfl,Z0,Z6 (E.aZ 1 V2),?_,(bJ.o.trans (aH.mono (WX G))).trans (ao.below (λi (hi:i=G)=>Z0) Z0)⟩;rw[ah.o];exact ao.own y (λb hb e=>Z4 ((y.lt b hb).1)))
  obtain⟨A9,c9,rfl,_,_⟩:=AM y;clear aH E y aX;go_simp;refine hK _ _ nZ ?_;clear hK KK;refine nG 6 (λKK hK=>?_);go_simp;refine hK _ _ nZ ?_;clear hK KK;refine nG 7 (λKK hK=>?_);go_simp;refine hK _ _ nZ ?_;clear hK KK;refine nX ?_;clear ai y1 yf yl k1 kl X;go_wp2_with fail;go_roundw;exact R.o;simp[intOf];omega
 obtain rfl:q=l.length:=by omega
 have af:VI w2.heap.size w2 wr:=K.mono (Z4 aj.o);have aJ:=a5.o.below af;have b2:HZ BZ w own wr own:=ba.o.trans (HZ.below own af);have a7:=RB S.o z.o (HZ.below (Z:=BZ) own af);rw[WU]at D;have av:l.map (λj=>Wm eQ ((H.sh s).nd j).id)=ids.map (Wm eQ):=by rw[aM.o,List.map_map];rfl
 have aw:ids.length=l.length:=by rw[aM.o,V0]
 rw[av]at D;have a8:=MJ (base':=0) D (VG _);have aF:∀b,Vc.ownBlock=Bs b->own b=B0:=λb hb=>a5.o.free (Z5 ((D.lt b hb).1) aj.o)
 obtain⟨_,_,c3,_,_,_,_,p,ac⟩:=aJ.cG hs;rw[CJ]at c3;have f3:=p 3;have I:=aJ.setSz hs (l.length:Nat);have b9:(H.ax s {H.sh s with ad:=d}).ax s { (H.ax s {H.sh s with ad:=d}).sh s with size:=((l.length:Nat):Int)} = Fm H s d l.length:=by rw[CJ,q71];rfl
 rw[b9]at I;have bE:=LH I.1;have br:=LH (b2.trans I.2);have bx:=LH (RB a7 z.o I.2);have bw:=LH (RB a8 aF I.2);have b1:=Ja I.2 a3 bg.o;have bK:=LH b1.1;have bF:=LH aF;have bh:=LH aw;obtain⟨A6,c6,rfl,_,_⟩:=AM a8;have al:Wf (Fm H s d l.length):=aK.o.dw rfl rfl (aK.o.tab s hs) (aK.o.sto s hs);have bb:=LH al;have bz:=LH (show ∀j,((Fm H s d l.length).sh s).nd j=(H.sh s).nd j from λj=>by unfold Fm;rw[CJ]);have bH:=LH (show((Fm H s d l.length).sh s).ad=d from by unfold Fm;rw[CJ]);have b0:(Fm H s d l.length).c=H.c/\(Fm H s d l.length).n=H.n:=⟨rfl,rfl⟩
 have U:=LH b0;clear af aJ b2 a7 D av aw a8 aF p I b9 b1 al b0 a3 K a5 ba S;generalize Fm H s d l.length=HX at *;go_wp2_with fail;clear c3 f3 ac;generalize (wr.setCell ⟨P.gs s,3,B0⟩ (.int eQ (l.length:Nat)))=w3 at *;go_loopw [50] (FiB P own HX s ids l w3) (λv _=>l.length-(intOf v).toNat)
 case atStart=>exact⟨0,rfl,VG _,own,bE.o,HZ.refl _ _ _⟩
 obtain⟨q,rfl,hq,bL,a4,O⟩:=hrel;by_cases bm:(q:Int)<l.length
 ·have J:q<l.length:=by omega
  have bl:q<=4:=by omega
  obtain⟨r,c',hV,hr,u,hu,aG⟩:=US (RB bx.o z.o O) (k:=q) J;injection hV with hA _ hcp;subst hA hcp;have hx:l[q]? = Bs l[q]:=K0 J;rw[VQ,hx]at hu;simp only[WA,VN]at hu;subst hu;have a0:l[q]∈l:=Wy J;have aE:=HM.o l[q] a0;have bv:=LH (Nn (s:=s) (ids:=ids) (H:=HX) hx);have aW:l[q] ∉ l.take q:=λh=>by
   obtain⟨i,hi,e⟩:=List.mem_iff_getElem.1 h;rw[List.length_take]at hi;rw[List.getElem_take]at e;have:=(List.getElem_inj bA.o).1 e;omega
  have a9:=KH (s:=s) (ids:=ids) (l.take q) HX aW;have t:=q7z s ids (l.take q) HX;have f:Wf ((l.take q).foldl (Hs.aM s ids) HX):=Wf.cV ab.o (l.take q) bb.o (by rw[U.o.1];exact hs) (λj hj=>by rw[U.o.2];exact HM.o j (List.mem_of_mem_take hj));have au:((H.sh s).nd l[q]).id∈ids:=by rw[aM.o];exact ZE.2 ⟨_,a0,rfl⟩
  have aZ:=HE.o l[q] a0;generalize l[q]=j at *;generalize (l.take q).foldl (Hs.aM s ids) HX=H3 at *;have a2:s<H3.c:=by rw[t.2.1,U.o.1];exact hs
  have aY:j<H3.n:=by rw[t.1,U.o.2];exact aE
  have aC:(H3.sh s).nd j=(H.sh s).nd j:=a9.1.trans (bz.o j);have az:(H3.sh s).ad=d:=a9.2.trans bH.o;have a6:=RB bw.o bF.o O;have a1:=(Ja O bK.o bg.o).1;have k0:=a1.cell 0;have k1:=a1.cell 1;have kl:=a1.lt;simp only[NW,Ft,O0]at k0 k1;rw[<- bh.o]at a6 k1;have aO:=LH (KS a4 a2 aY d ids A6 c6 a6 (by rw[aC];exact aZ) (Z4 bh.o) bB.o (λx hx=>Gu (Z4 (ab.o x hx)) (Z4 (ab.o x hx))) (by rw[aC];exact au));have aS:=q9v (Oc (f.nd s j a2 aY) d ab.o) (show s<3 by have:=f.c3;omega) (show j<4 by have:=f.n4;omega);have bc:=LH aS;have bt:=LH f;have ag:=LH O;have bC:=LH (show Hs.aM s ids H3 j=(H3.au s j (((H3.sh s).nd j).bS d ids).aD.1).aO (((H3.sh s).nd j).bS d ids).aD.2 from by unfold Hs.aM;rw[az]);unfold pw at aO;clear hx a0 aW a9 t au aZ aC az a6 a1 aS f a4 O;go_wp2_with fail;refine aO.o.mono ?_;rintro e w5 ⟨V,rfl,ho,own4,b8,b5,ap⟩;have aT:=q81 b8 ho (λq hq=>by obtain e|e:=ap q hq<;> (rw[e];simp)) bc.o.2 (bt.o.au bc.o.1) (JK _);have aL:=LH aT;have bq:=LH (ag.o.trans (b5.mono (λ_=>Ol)));obtain⟨A7,kk,M,rfl,_⟩:=ho;unfold pw at aL;clear aT ap b8 b5 aO aG hr k0 k1 kl;go_wp2_with fail;refine aL.o.mono ?_;rintro e w6 ⟨d6,aR,rfl,b7,b4⟩;have R:=LH (show FiB P own HX s ids l w3 (.int eQ ((q+1:Nat):Int)) w6 from⟨q+1,rfl,Z0,aR,by rw[bv.o,bC.o];exact b7,bq.o.trans (b4.mono (λ_=>q91))⟩);clear b7 b4 aL;go_wp2_with fail;go_roundw;exact R.o;simp[intOf];omega
 obtain rfl:q=l.length:=by omega
 rw[WU]at a4;have t:=q7z s ids l HX;have f:Wf (l.foldl (Hs.aM s ids) HX):=Wf.cV ab.o l bb.o (by rw[U.o.1];exact hs) (λj hj=>by rw[U.o.2];exact HM.o j hj);generalize l.foldl (Hs.aM s ids) HX=H3 at *;have a2:s<H3.c:=by rw[t.2.1,U.o.1];exact hs
 obtain⟨v4,_,_,c4,c5,c6,c7,p,ac⟩:=a4.cG a2;have f4:=p 4;have f5:=p 5;have f6:=p 6;have f7:=p 7;have aB:=a4.ev a2;have am:Wf (H3.ax s {H3.sh s with tab:=λ_=>B0,sto:=λ_=>[],done:=0}):=f.dw rfl rfl Dy.bo Dz.bo;have ah:=LH (qb4 aB.1 am a2);have ag:=LH ((br.o.trans O).trans aB.2);unfold pw qcg at ah;unfold qcg at ag;clear t f p aB am a4 O;go_wp2_with fail;refine ah.o.mono ?_;rintro e w9 ⟨rfl,aQ,b6,b3⟩;have R:=LH (show Cf P own aN w w9 from⟨aQ,by rw[bG.o,bI.o];exact b6,ag.o.trans (b3.mono (λ_=>Sw))⟩);clear b6 b3;go_wp2_with fail
 go_end0
 exact⟨rfl,R.o⟩
def HI.retag(h:HI w own P H)(own2:Ah)(f:∀b,own2 b≠B0->b<w.heap.size)(d:∀b t,own b=Bs t->(∀i,t≠.tx i/\t≠.sm i)->own2 b=Bs t)
  (e:∀i,1<=i->i<=H.m->U3 w own2 i (P.gt i) (H.tx i)):HI w own2 P H:=by
 refine⟨f,?_,λs hs=>?_,λs j hs p=>?_,e⟩;obtain⟨v,h⟩:=h.hs;exact⟨v,h.nt,h.cb,λb c=>d b _ (h.bI b c) (λi=>⟨Z3,Z3⟩),h.cd,h.shr,λb c=>d b _ (h.ck b c) (λi=>⟨Z3,Z3⟩),h.txr,λb c=>d b _ (h.cf b c) (λi=>⟨Z3,Z3⟩),d _ _ h.gt (λi=>⟨Z3,Z3⟩)⟩;obtain⟨v,h⟩:=h.sh s hs;exact⟨v,h.row,λb c=>d b _ (h.cy b c) (λi=>⟨Z3,Z3⟩),h.dd,d _ _ h.dP (λi=>⟨Z3,Z3⟩),h.tab,λb c=>d b _ (h.cw b c) (λi=>⟨Z3,Z3⟩),h.sto,λb c=>d b _ (h.cE b c) (λi=>⟨Z3,Z3⟩),d _ _ h.gt (λi=>⟨Z3,Z3⟩)⟩;obtain⟨C,V,L,x,u⟩:=h.nd s j hs p;exact⟨C,V,L,x,λb c=>d b _ (u b c) (λi=>⟨Z3,Z3⟩)⟩
def smOn(own:Ah)(c i:Nat):Ah:=λb=>if b=c then Bs (.sm i)else own b
def smOff(own:Ah)(i:Nat):Ah:=λb=>if own b=Bs (.sm i)then Bs (.tx i)else own b
def HI.cF(h:HI w own P H)(S:1<=i)(R:i<=H.m)(d:CL w own i (P.gt i) v (H.tx i)):HI w (Go.Proofs.YtccahlhdifadfaaGreatDoor.smOn own v.bs i) P H:=by
 have x:∀b t,own b=Bs t->t≠.tx i->t≠.sm i->Go.Proofs.YtccahlhdifadfaaGreatDoor.smOn own v.bs i b=Bs t:=λb t e A n2=>by
  unfold Go.Proofs.YtccahlhdifadfaaGreatDoor.smOn;rw[Z7];exact e;rintro rfl;obtain y|y:=d.st<;> (rw[e]at y;injection y with y);exact A y;exact n2 y
 obtain⟨A,n2,G,O,E,M,D,K⟩:=d.bC;have c:∀b,b≠v.bs->Go.Proofs.YtccahlhdifadfaaGreatDoor.smOn own v.bs i b=own b:=λb f=>by unfold Go.Proofs.YtccahlhdifadfaaGreatDoor.smOn;rw[Z7 f]
 refine h.retag _ (λb f=>?_) (λb t e s=>x b t e (s i).1 (s i).2) (λj J I=>?_);by_cases e:b=v.bs;rw[e];exact d.af.lt;rw[c b e]at f;exact h.lt b f;by_cases e:j=i;subst e;exact⟨v,d.al,d.ae,d.af,d.aw,d.ak,d.ne,by rw[c _ (λe=>G e.symm)];exact d.gt,λb f=>by rw[c _ (λe=>E (by rw[f,e]))];exact d.wt b f,
  eS (by unfold Go.Proofs.YtccahlhdifadfaaGreatDoor.smOn;rw[Z8 rfl]),by rw[c _ (λe=>d.ne e.symm)];exact d.pt,λb f=>by rw[c _ (λe=>D (by rw[f,e]))];exact d.xt b f⟩
 obtain⟨u,p⟩:=h.tx j J I;have s:∀b,own b=Bs (.tx j)->Go.Proofs.YtccahlhdifadfaaGreatDoor.smOn own v.bs i b=Bs (.tx j):=λb z=>x b _ z (by simp[e]) Z3
 exact⟨u,p.al,p.ae,p.af,p.aw,p.ak,p.ne,s _ p.gt,λb f=>s b (p.wt b f),p.st.imp (s _) (λz=>x _ _ z Z3 (by simp[e])),s _ p.pt,λb f=>s b (p.xt b f)⟩
def HI.bY(h:HI w own P H)(i:Nat):HI w (Go.Proofs.YtccahlhdifadfaaGreatDoor.smOff own i) P H:=by
 have p:∀b t,own b=Bs t->t≠.sm i->Go.Proofs.YtccahlhdifadfaaGreatDoor.smOff own i b=Bs t:=λb t e n=>by
  unfold Go.Proofs.YtccahlhdifadfaaGreatDoor.smOff;rw[Z7,e];rw[e];intro h;injection h with h;exact n h
 refine h.retag _ (λb f=>?_) (λb t e d=>p b t e (d i).2) (λj x v=>?_);unfold Go.Proofs.YtccahlhdifadfaaGreatDoor.smOff at f;split at f;rename_i e;exact h.lt b (by rw[e];simp);exact h.lt b f;obtain⟨u,c⟩:=h.tx j x v;have d:∀b,own b=Bs (.tx j)->Go.Proofs.YtccahlhdifadfaaGreatDoor.smOff own i b=Bs (.tx j):=λb y=>p b _ y Z3
 refine⟨u,c.al,c.ae,c.af,c.aw,c.ak,c.ne,d _ c.gt,λb f=>d b (c.wt b f),?_,d _ c.pt,λb f=>d b (c.xt b f)⟩;obtain e|e:=c.st;exact eR (d _ e);by_cases s:j=i;subst s;exact eR (by unfold Go.Proofs.YtccahlhdifadfaaGreatDoor.smOff;rw[Z8 e]);exact eS (p _ _ e (by simp[s]))
def AC.bY{c:Nat}(v:EN own)(y:own c=Bs (.tx i)){own2:Ah}(h:AC w (Go.Proofs.YtccahlhdifadfaaGreatDoor.smOn own c i) w' own2)(x:c<w.heap.size):AC w own w' (Go.Proofs.YtccahlhdifadfaaGreatDoor.smOff own2 i):=by
 have d:∀b,b≠c->Go.Proofs.YtccahlhdifadfaaGreatDoor.smOn own c i b=own b:=λb s=>by unfold Go.Proofs.YtccahlhdifadfaaGreatDoor.smOn;rw[Z7 s]
 have f:Go.Proofs.YtccahlhdifadfaaGreatDoor.smOn own c i c=Bs (.sm i):=by unfold Go.Proofs.YtccahlhdifadfaaGreatDoor.smOn;rw[Z8 rfl]
 refine⟨λb s=>?_,h.fr.mono (λb _ ⟨t,e,u⟩=>?_),λb j e=>?_⟩;unfold Go.Proofs.YtccahlhdifadfaaGreatDoor.smOff;rw[h.ext b s];by_cases e:b=c;subst e;rw[f,Z8 rfl,y];rw[d b e,Z7 (v b i)];by_cases p:b=c;subst p;rw[f]at e;injection e with e;subst e;exact ZB rfl (u.2.2 i);rw[d b p]at e;exact⟨t,e,u⟩;exfalso;unfold Go.Proofs.YtccahlhdifadfaaGreatDoor.smOff at e;split at e;cases e;rename_i z;have:=h.sm b j e;by_cases p:b=c;subst p;rw[f]at this;injection this with this;injection this with this;subst this;exact z e;rw[d b p]at this;exact v b j this
def PO(h:HI w own P H)(hs:s<H.c):VX Tryz.prog 59 #[pw (P.gs s)] w λe w'=>e=ZY (Wm eQ (H.sh s).size)/\w=w':=by obtain⟨v,_,b,_,_,_,_,_,hl⟩:=h.cG hs;clear h;unfold pw;go_enter Tryz.func59,Tryz.ntmps59;go_wp2_with fail;go_ret;exact⟨rfl,rfl⟩
def LD(H:Hs)(i:Nat):Prop:=∃k∈(H.tx i).ag,(H.tx i).af k≠Bs (H.sh k).ad
def Mr{H:Hs}(c:(H.tx i).aa=1)(b:LD H i):H.aQ i=H.a3 i:=by unfold Hs.aQ;rw[Z8 ⟨c,b⟩]
def PL{H:Hs}(h:¬((H.tx i).aa=1/\LD H i)):H.aQ i=H:=by unfold LD at h;unfold Hs.aQ;rw[Z7 h]
def qa5(H:Hs)(q:Nat):(Wh 1 (q+1)).foldl Hs.aQ H=((Wh 1 q).foldl Hs.aQ H).aQ (q+1):=by rw[List.range'_1_concat,WV];show Hs.aQ _ (1+q)=_;rw[Nat.add_comm 1 q]
def Ui(H:Hs)(i s:Nat):((H.a3 i).sh s).ad=(H.sh s).ad:=by
 have d:∀(ks:List Nat)(H:Hs),((telld H i 4 ks).sh s).ad=(H.sh s).ad:=by
  intro ks;induction ks with
  |nil=>intro H;rfl
  |cons k ks b=>
   intro H;refine(b (H.aC i 4 k)).trans ?_;cases c:H.head k with
   |none=>rw[J6 c]
   |some j=>
    rw[Jd c];split;unfold Hs.add;split;rfl;have h:=BK.take ((H.au k j (((H.sh k).nd j).add (tellC H i 4) L1).1.1).aO (((H.sh k).nd j).add (tellC H i 4) L1).1.2) k;by_cases e:s=k;subst e;rw[h.ad];show((Af H.sh s _ s)).ad=_;rw[Aq];rw[h.sh s e];show((Af H.sh k _ s)).ad=_;rw[Ay e];rfl
 have f:∀(ks:List Nat)(H:Hs),((reld H i ks).sh s).ad=(H.sh s).ad:=by
  intro ks;induction ks with
  |nil=>intro H;rfl
  |cons k ks b=>
   intro H;refine(b (H.bF k i)).trans ?_;show(Af H.sh k _ s).ad=_;by_cases e:s=k;subst e;rw[Aq];rw[Ay e]
 rw[I9];exact(d _ _).trans (f _ _)
def Pn(P:Av)(own:Ah)(H:Hs)(w:D0)(v:S2)(wr:D0):Prop:=∃q:Nat,v=Wm eQ q/\q<=3/\Cf P own (([0,1,2].take q).foldl Hs.aT H) w wr
def FcRel(P:Av)(own:Ah)(H:Hs)(w:D0)(v:S2)(wr:D0):Prop:=∃q:Nat,v=Wm eQ q/\q<=H.m/\Cf P own ((Wh 1 q).foldl Hs.aQ H) w wr
def StIn(b c:Hs)(i:Nat)(left:Int->Bool):Prop:=
 (c=b/\∀k∈(b.tx i).ag,left (k:Nat)=L1->¬((b.tx i).aa=1/\(b.tx i).af (k:Nat)≠Bs (b.sh k).ad))\/(c=b.a3 i/\(b.tx i).aa=1/\LD b i)
def Pm(P:Av)(b:Ah)(e:Hs)(i bs r:Nat)(f:D0)(wr:D0):Prop:=
 ∃(left:Int->Bool)(c:Nat)(own4:Ah)(d:Hs),Ed BP wr bs r 100 (Dl (e.tx i).af) left c/\HI wr own4 P d/\AC f b wr own4/\own4 r=B0/\own4 bs=Bs (.sm i)/\StIn e d i left
def StIn.done{b d:Hs}{left:Int->Bool}(h:StIn b d i left)(hl:∀k∈(b.tx i).ag,left (k:Nat)=L1):d=b.aQ i:=by obtain⟨rfl,h⟩|⟨rfl,j,f⟩:=h;rw[PL];rintro ⟨e,k,c,hs⟩;exact h k c (hl k c) ⟨e,hs⟩;rw[Mr j f]
def QY{H:Hs}{B:Int}(h:Ac H B)(b:B<=999000):∀q,q<=3->Ac (([0,1,2].take q).foldl Hs.aT H) (B+q)
 |0,_=>Z6 h
 |1,_=>(h.aT Z0 (s:=0) Z0).1
 |2,_=>by
  have:=((h.aT Z0 (s:=0) Z0).1.aT Z0 (s:=1) Z0).1;rw[show B+((2:Nat):Int)=B+1+1 by omega];exact this
 |3,_=>by
  have:=(((h.aT Z0 (s:=0) Z0).1.aT Z0 (s:=1) Z0).1.aT Z0 (s:=2) Z0).1;rw[show B+((3:Nat):Int)=B+1+1+1 by omega];exact this
def RT{x:Bv}(h:x.ai n=[]):x.c4 n=VD:=by unfold Bv.c4;rw[h];rfl
def Pu{a:Nat}{x:Bv}{l:List Nat}(h:x.ai n=l)(c:l[0]? = Bs a)(b:l[l.length-1]? = Bs i):x.c4 n=((x.nd a).head && (x.nd i).tail && ((l.length:Int) == x.size)):=by unfold Bv.c4;rw[h,List.head?_eq_getElem?,List.getLast?_eq_getElem?,c,b]
def Lc{H:Hs}(h:(H.sh s).c4 H.n=VD):H.aT s=H:=by unfold Hs.aT;rw[Z8 h]
def fix1_no{H:Hs}(h:(H.sh s).c4 H.n=L1):H.aT s=H.fix s:=by unfold Hs.aT;rw[h];rfl
def Gc{H:Hs}(h:Wf H)(c:H.c=3):∀q,q<=H.m->Wf ((Wh 1 q).foldl Hs.aQ H)/\Sz H ((Wh 1 q).foldl Hs.aQ H)
 |0,_=>⟨h,Sz.refl H⟩
 |q+1,e=>by
  obtain⟨d,b⟩:=Gc h c q Z0;rw[qa5];exact⟨d.aQ (b.c.trans c) Z0 (by rw[b.m];omega),b.trans (PK _ _)⟩
def FixsP(P:Av)(own:Ah)(H:Hs)(w:D0)(e:WE)(w':D0):Prop:=e=ZY (ZZ #[])/\∃H',FO H H'/\Cf P own H' w w'
def QR{B:Int}(h:HI w own P H)(ha:Ac H B)(hB:B<=999000)(bR:EN own):VX Tryz.prog 33 #[pw P.g] w (FixsP P own H w):=by
 have HH:=LH h;have hc:=ha.c;have cv:=ha.wf.n4;obtain⟨r3,k3,⟨vh,X,bo⟩,be⟩:=h.er hc;obtain⟨_,c3,_,_,gl⟩:=X.cells;rw[bo]at c3;have cc:=LH be;have bM:=LH (QY ha hB);clear h ha X bo be;unfold pw at *;go_enter Tryz.func33,Tryz.ntmps33;go_wp2_with fail;clear c3;go_loopw [14] (Pn P own H w) (λv _=>3-(intOf v).toNat)
 case atStart=>exact⟨0,rfl,VG _,own,HH.o,HZ.refl _ _ _⟩
 obtain⟨q,rfl,hq,own2,a7,a6⟩:=hrel;by_cases cx:(q:Int)<3
 ·obtain⟨c2,bP⟩:=cc.o wr own2 a6 q Z0;have bb:([0,1,2]:List Nat)[q]? = Bs q:=by
   have:q=0\/q=1\/q=2:=by omega
   obtain rfl|rfl|rfl:=this<;> rfl
  have b2:=LH (show([0,1,2].take (q+1)).foldl Hs.aT H=(([0,1,2].take q).foldl Hs.aT H).aT q from by rw[VV,bb,WV];rfl);have D:=bM.o q Z0;clear bb;generalize ([0,1,2].take q).foldl Hs.aT H=H2 at *;have aS:=D.c;have I:=D.wf;have HL:=LH (q51 a7 I (s:=q) Z0);have HM:=LH (λj (hj:j∈(H2.sh q).ai H2.n)=>q4k hj);have bv:=LH (RT (x:=H2.sh q) (n:=H2.n));have a0:=D.ep q Z0;have bt:∀j∈(H2.sh q).ai H2.n,((H2.sh q).nd j).ad<Xt ((H2.sh q).ad+1):=λj hj=>by
   rw[show Xt ((H2.sh q).ad+1)=(H2.sh q).ad+1 from Xk _ ⟨Z0,Z0⟩];obtain⟨L,p,a⟩:=D.ch.aN (s:=q) Z0 (Fy.1 hj);rw[a.ad];omega
  have cj:=LH bt;have aA:=LH a7;have aY:=LH a6;have b1:=LH I;have ae:∀W,Cf P own2 (H2.aT q) wr W->Pn P own H w (.int eQ ((q+1:Nat):Int)) W:=λW ⟨o,a,b⟩=>⟨q+1,rfl,Z0,o,by rw[b2.o];exact a,aY.o.trans b⟩
  have az:=LH ae;unfold DN pw at HL;clear a7 a6 I D a0 bt ae;generalize aP:(H2.sh q).ai H2.n=l at *;have cz:l.length<=4:=by rw[<- aP];have:=q2n (H2.sh q) H2.n;have:=b1.o.n4;omega
  have bH:=LH aP;clear aP;go_wp2_with fail;refine HL.o.mono ?_;rintro e w1 ⟨V,rfl,a3,aT⟩;obtain⟨A,c,rfl,_,_⟩:=AM a3;have aJ:=LH a3;have a8:=LH (aA.o.below aT);have aZ:=LH (show AC wr own2 w1 own2 from HZ.below own2 aT);have ch:=LH (λb (hb:(WK A l.length c).ownBlock=Bs b)=>aA.o.free (a3.lt b hb).1);clear a3 aT HL c2 bP;by_cases hl:l=[]
  ·have ag:l.length=0:=by rw[hl];rfl
   have HR:=LH (az.o w1 (by rw[Lc (bv.o hl)];exact⟨own2,a8.o,aZ.o⟩));clear hl;rw[ag];go_wp2_with fail;go_roundw;exact HR.o;simp[intOf];omega
  have bj:0<l.length:=List.length_pos_iff.2 hl;have ag:((l.length:Int) == 0)=L1:=by simp;omega
  have aV:l[0]? = Bs l[0]:=K0 bj;have aK:l[l.length-1]? = Bs l[l.length-1]:=K0 Z0;have a9:=Pu bH.o aV aK;have bm:=HM.o l[0] (Wy _);have b6:=HM.o l[l.length-1] (Wy _);obtain⟨r0,c0,c9,aN,u0,aM,cq⟩:=US aJ.o (k:=0) bj;injection c9 with hA0 _ hcp0;subst hA0 hcp0;obtain⟨r1,c1,c8,ct,u1,aL,cp⟩:=US aJ.o (k:=l.length-1) Z0;injection c8 with hA1 _ _;injection hA1 with hA1;injection hA1 with hA1 _ _;subst hA1;rw[VQ,aV]at aM;rw[VQ,aK]at aL;simp only[WA,VN]at aM aL;subst aM aL;generalize l[0]=a at *;generalize l[l.length-1]=z at *;obtain⟨Ca,Va,La,br,_⟩:=a8.o.nd q a Z0 bm;have ao:=LH (qdz br);obtain⟨Cz,Vz,Lz,bq,_⟩:=a8.o.nd q z Z0 b6;have ax:=LH (q9b bq);have b0:=LH a9;have aB:=LH (λW (hb:VI w1.heap.size w1 W)=>KR (a8.o.below hb) b1.o (show q<H2.c by omega) (λj hj=>cj.o j (by rw[<- bH.o];exact hj)));have bE:=LH (λW (hb:VI w1.heap.size w1 W)=>PO (a8.o.below hb) (show q<H2.c by omega));have c6:∀W,VI w1.heap.size w1 W->Cf P own2 (H2.fix q) W W->True:=λ_ _ _=>trivial
  have ca:=LH (show ∀W,(H2.sh q).c4 H2.n=VD->VI w1.heap.size w1 W->Pn P own H w (.int eQ ((q+1:Nat):Int)) W from λW e hb=>az.o W (by rw[Lc e];exact⟨own2,a8.o.below hb,aZ.o.trans (HZ.below own2 hb)⟩));have b4:=LH (show ∀W W',(H2.sh q).c4 H2.n=L1->VI w1.heap.size w1 W->Cf P own2 (H2.fix q) W W'->Pn P own H w (.int eQ ((q+1:Nat):Int)) W' from λW W' e hb ⟨o,h1,h2⟩=>az.o W' (by rw[fix1_no e];exact⟨o,h1,(aZ.o.trans (HZ.below own2 hb)).trans h2⟩));unfold pw at aB bE;clear c6 aV aK a9 bm b6 br bq hl bv az;have cy:((l.length-1:Nat):Int)=(l.length:Int)-1:=by omega
  cases Z:((H2.sh q).nd a).head with
  |false=>
   rw[Z]at ao;have hw:(H2.sh q).c4 H2.n=L1:=by rw[b0.o,Z];rfl
   have HW:=LH hw;clear hw Z;go_wp2_with fail;refine ao.o.mono ?_;rintro e w2 ⟨rfl,rfl⟩;go_wp2_with fail;refine(aB.o w1 (VC _ _)).mono ?_;rintro e S ⟨rfl,M⟩;have HR:=LH (b4.o w1 S HW.o (VC _ _) M);clear M;go_wp2_with fail;go_roundw;exact HR.o;simp[intOf];omega
  |true=>
   rw[Z]at ao;have co:l.length<=60:=by omega
   cases a4:((H2.sh q).nd z).tail with
   |false=>
    rw[a4]at ax;have hw:(H2.sh q).c4 H2.n=L1:=by rw[b0.o,Z,a4];rfl
    have HW:=LH hw;clear hw Z a4;go_wp2_with fail;refine ao.o.mono ?_;rintro e w2 ⟨rfl,rfl⟩;go_wp2_with fail;refine ax.o.mono ?_;rintro e S ⟨rfl,a1⟩;have b5:=LH (aB.o S a1);have aC:=LH a1;clear a1;go_wp2_with fail;refine b5.o.mono ?_;rintro e w4 ⟨rfl,M⟩;have HR:=LH (b4.o S w4 HW.o aC.o M);clear M;go_wp2_with fail;go_roundw;exact HR.o;simp[intOf];omega
   |true=>
    rw[a4]at ax;have b7:(H2.sh q).c4 H2.n=((l.length:Int) == (H2.sh q).size):=by rw[b0.o,Z,a4];rfl
    have bw:=LH b7;clear b7 Z a4;go_wp2_with fail;refine ao.o.mono ?_;rintro e w2 ⟨rfl,rfl⟩;go_wp2_with fail;refine ax.o.mono ?_;rintro e S ⟨rfl,a1⟩;have cg:=LH (bE.o S a1);have b5:=LH (aB.o S a1);have aC:=LH a1;clear a1;go_wp2_with fail;refine cg.o.mono ?_;rintro e w4 ⟨rfl,rfl⟩;cases ba:((l.length:Int) == (H2.sh q).size)with
    |true=>
     have HR:=LH (ca.o S (by rw[bw.o,ba]) aC.o);go_wp2_with fail;go_roundw;exact HR.o;simp[intOf];omega
    |false=>
     go_wp2_with fail;refine b5.o.mono ?_;rintro e w5 ⟨rfl,M⟩;have HR:=LH (b4.o S w5 (by rw[bw.o,ba]) aC.o M);clear M;go_wp2_with fail;go_roundw;exact HR.o;simp[intOf];omega
 obtain rfl:q=3:=by omega
 have D:=bM.o 3 (Hi _);have ci:=LH (show ∀H',Ek (([0,1,2].take 3).foldl Hs.aT H).bE H'->FO H H' from λH' h=>h);generalize ([0,1,2].take 3).foldl Hs.aT H=H2 at *;have aS:=D.c;have bg:=a6.ey bR;have aA:=LH a7;have aY:=LH a6;have b1:=LH D.wf;have cH:=LH D;obtain⟨vh,X⟩:=a7.hs;obtain⟨_,_,c4,_,gl⟩:=X.cells;obtain⟨A,c,hV,_,_⟩:=AM X.txr;rw[hV]at c4;have ce:=LH (λW own' (hz:AC wr own2 W own')=>(hV▸hz.fr.own X.txr (λb hb hs=>(hs.c6 (X.cf b hb)).1 rfl):W.ownsRow 0 74 1 (WK A H2.m c) H2.m ((Wh 1 H2.m).map λi=>pw (P.gt i))));have cm:H2.m<=60:=D.wf.cr;have bA:=LH (show ∀q,q<=H2.m->Wf ((Wh 1 q).foldl Hs.aQ H2)/\Sz H2 ((Wh 1 q).foldl Hs.aQ H2)from λq hq=>Gc D.wf D.c q hq);clear a7 a6 X hV D;go_wp2_with fail;clear c4;rename D0=>W0
 go_loopw [54] (FcRel P own2 H2 W0) (λv _=>H2.m-(intOf v).toNat)
 case atStart=>exact⟨0,rfl,VG _,own2,aA.o,HZ.refl _ _ _⟩
 obtain⟨q,rfl,hq,E,G,a5⟩:=hrel;by_cases cn:(q:Int)<H2.m
 ·obtain⟨r,c',hV,hr,u,hu,bZ⟩:=US (ce.o _ _ a5) (k:=q) Z0;injection hV with hA _ hcp;subst hA hcp;rw[VQ,List.getElem?_range' Z0]at hu;simp only[WA,VN]at hu;rw[show 1+1*q=q+1 by omega]at hu;subst hu;unfold pw at bZ;have ac:=bA.o q hq;have b2:=LH (qa5 H2 q);generalize (Wh 1 q).foldl Hs.aQ H2=K at *;have aq:q+1<=K.m:=by rw[ac.2.m];omega
  have aR:K.c=3:=ac.2.c.trans aS;have cl:q<=60:=by omega
  obtain⟨R,aa⟩:=G.tx (q+1) Z0 aq;obtain⟨_,k1,_,k3,_,_,_,kl⟩:=aa.cells;have af:=a5.ey bg;have d:E R.bs=Bs (.tx (q+1)):=aa.st.resolve_right (af _ _);have bF:=LH aa.af;have bz:=LH (ac.1.tx (q+1) Z0 aq).sh;have bx:=LH ac.1;have bK:=LH G;have aX:=LH a5;have cb:=LH aa;have ay:=LH d;have bD:=LH af;clear ac aa G a5 d af;rename D0=>Wb
  have bT:=bF.o.lt;go_wp2_with (at_range;refine q32 rfl _ 61 3 rfl Tryz.underlying61 rfl bF.o ?_;intro w0 bu ad bl BJ)
  generalize aN:Wb.heap.size=r0 at ad BJ ⊢;have b3:=LH aN;clear aN;have aU:VI Wb.heap.size Wb w0:=bl.bH;have cd:=LH (show Pm P (smOn E R.bs (q+1)) K (q+1) R.bs r0 Wb w0 from by
   refine⟨_,bu,smOn E R.bs (q+1),K,ad,(bK.o.cF Z0 aq cb.o).below aU,HZ.below _ aU,?_,by unfold smOn;rw[Z8 rfl],eR ⟨rfl,λk hk hl=>?_⟩⟩;unfold smOn;rw[Z7 (Z4 b3.o)];exact bK.o.free (Z4 b3.o);exfalso;obtain⟨e,he⟩:=ZJ.1 (D5.1 hk).2;simp[Dl,he]at hl)
  clear ad bl BJ aU
  try go_frame
  go_loopw [7] (λ_ wr=>Pm P (smOn E R.bs (q+1)) K (q+1) R.bs r0 Wb wr) (λ_ wr=>wr.rangeLeft R.bs r0)
  case atStart=>exact cd.o
  obtain⟨left,cG,own4,H4,bf,aj,ai,ap,aO,bc⟩:=hrel;have bB:=LH bf;have bI:=LH aj;have aw:=LH ai;have al:=LH bc;clear bf aj ai bc;go_wp2_with (at_next;refine q3m rfl _ rfl rfl bB.o ?_ ?_)
  ·intro ag;have ah:=al.o.done (λk hk=>ag k (by
    obtain⟨e,he⟩:=ZJ.1 (D5.1 hk).2;obtain h|h:=(bz.o k e he).1<;> exact Gu Z0 Z0))
   have cf:=LH (show FcRel P own2 H2 W0 (.int eQ ((q+1:Nat):Int)) wr from
    ⟨q+1,rfl,Z0,smOff own4 (q+1),by rw[b2.o,<- ah];exact bI.o.bY (q+1),aX.o.trans (AC.bY bD.o ay.o aw.o bT)⟩)
   clear ag ah;go_wp2_with fail;go_roundw;exact cf.o;simp[intOf];omega
  intro o v9 S ak cu bS Y aF aG aQ bO bX;obtain⟨e9,ar,rfl⟩:∃m,(K.tx (q+1)).af o=Bs m/\v9=.int eQ m:=by
   unfold Dl at Y;cases e:(K.tx (q+1)).af o with
   |none=>rw[e]at Y;cases Y
   |some m=>rw[e]at Y;injection Y with Y;exact⟨m,rfl,Y.symm⟩
  rw[show BP.val o=Wm eQ o from rfl]at bX ⊢;obtain⟨k,rfl,cC⟩:∃k:Nat,o=k/\k<2:=by
   obtain h|h:=(bz.o o e9 ar).1;exact⟨0,h,Z0⟩;exact⟨1,h,Z0⟩
  have bV:k∈(K.tx (q+1)).ag:=D5.2 ⟨Z0,by rw[ar];simp⟩;have G:HI S own4 P H4:=bI.o.fr0 aQ (λb hb e=>hb (by rw[e];exact ap));have aH:AC Wb (smOn E R.bs (q+1)) S own4:=⟨aw.o.ext,aw.o.fr.trans' aQ (λb hb (e:b=r0)=>Z4 b3.o),aw.o.sm⟩
  have J:=LH aF;have bG:=LH (bB.o.left_eq▸aG:ak<wr.rangeLeft R.bs r0);have au:H4.c=3/\H4.m=K.m/\Wf H4/\∀s,(H4.sh s).ad=(K.sh s).ad:=by
   obtain⟨e,_⟩|⟨e,_⟩:=al.o;rw[e];exact⟨aR,rfl,bx.o,λ_=>rfl⟩;rw[e];have f:=(Ik K (q+1)).1;exact⟨f.c.trans aR,f.m,bx.o.a3 aR Z0 aq,λs=>Ui K (q+1) s⟩
  obtain⟨au,cw,b8,bY⟩:=au;obtain⟨v4,b9⟩:=G.tx (q+1) Z0 Z0;obtain⟨_,d1,_,_,_,_,_,dl⟩:=b9.cells;obtain⟨cr,ab⟩:=G.hs;obtain⟨_,d3,_,_,cF⟩:=ab.cells;obtain⟨r5,k5,bp,cs,c5⟩:=ab.dh (s:=k) Z0;rw[bp,au]at d3;obtain⟨_,e2,_,_,_,_,_,_,cD⟩:=G.cG (s:=k) Z0;rw[bY k]at e2;have bN:=LH (q4g G b8 au (show 1<=q+1 by omega) (show q+1<=H4.m by omega));have bJ:=LH G;have aI:=LH aH;have cA:(k:Int)<3:=by omega
  unfold pw at bN c5;have bk:(∀O:Int->Bool,(∀y,O y=L1->left y=L1\/y=(k:Int))->StIn K H4 (q+1) O)->Pm P (smOn E R.bs (q+1)) K (q+1) R.bs r0 Wb S/\S.rangeLeft R.bs r0<wr.rangeLeft R.bs r0:=λhs=>by
   refine⟨⟨_,ak,own4,H4,J.o,bJ.o,aI.o,ap,aO,hs _ (λy hy=>?_)⟩,by rw[J.o.left_eq];exact bG.o⟩;obtain h|h:=Bool.and_eq_false_iff.1 hy;exact eR h;right;simpa using h
  have bL:=LH bk;clear bk G aH aF aG aQ bO Y b9 ab bp b8 bS;by_cases d:(H4.tx (q+1)).aa=1
  ·have hH:H4=K:=by
    obtain⟨e,_⟩|⟨e,_⟩:=al.o;exact e;exfalso;rw[e,((Ik K (q+1)).2.2 (q+1)).1,Z8 rfl]at d;cases d
   have aW:=al.o;by_cases a0:e9=(K.sh k).ad
   ·have M:=bL.o (λO hl=>by
     obtain⟨e,h0⟩|hr:=aW;refine eR ⟨e,λk' bW bU=>?_⟩;obtain h|h:=hl _ bU;exact h0 k' bW h;rintro ⟨_,bi⟩;rw[h]at bi;have ek:k'=k:=by omega
     subst ek;exact bi (by rw[ar,a0]);exact eS hr)
    have an:=LH M.1;have am:=LH M.2;have bh:(e9 != (K.sh k).ad)=L1:=Z6 a0;rw[d]at d1;clear M aW d hH a0;go_wp2_with fail;go_roundw
    case rel=>exact an.o
    case measure=>exact am.o
   have bh:(e9 != (K.sh k).ad)=VD:=Z6 a0;have aD:(K.tx (q+1)).aa=1:=by rw[<- hH];exact d
   have a2:LD K (q+1):=⟨k,bV,by rw[ar];intro h;injection h with h;exact a0 h⟩
   have bC:=LH (λW U (av:HI W U P (H4.a3 (q+1))) (hz:AC S own4 W U)=>(by
    have c7:=hz.fr.block R.bs J.o.owns.lt (λ⟨t,e,ht⟩=>by rw[aO]at e;injection e with e;subst e;exact ht.2.2 _ rfl);have bQ:=hz.fr.block r0 J.o.lt (λ⟨t,e,_⟩=>by rw[ap]at e;cases e);have aE:=J.o.cg c7 bQ;exact⟨⟨_,ak,U,H4.a3 (q+1),aE,av,aI.o.trans hz,(hz.ext _ J.o.lt).trans ap,(hz.ext _ J.o.owns.lt).trans aO,eS ⟨by rw[hH],aD,a2⟩⟩,by rw[aE.left_eq];exact bG.o⟩:Pm P (smOn E R.bs (q+1)) K (q+1) R.bs r0 Wb W/\W.rangeLeft R.bs r0<wr.rangeLeft R.bs r0))
   rw[d]at d1;clear aW d hH a0 aD a2;go_wp2_with fail;refine bN.o.mono ?_;rintro e w5 ⟨rfl,U,av,bn⟩;have M:=bC.o w5 U av bn;have an:=LH M.1;have am:=LH M.2;clear M av bn bC;go_wp2_with fail;go_roundw
   case rel=>exact an.o
   case measure=>exact am.o
  have ck:((H4.tx (q+1)).aa == 1)=L1:=Z6 d;have M:=bL.o (λO _=>by
   obtain⟨e,_⟩|hr:=al.o;exact eR ⟨e,λ_ _ _ h=>d (by rw[e];exact h.1)⟩;exact eS hr)
  have an:=LH M.1;have am:=LH M.2;clear M d;go_wp2_with fail;go_roundw
  case rel=>exact an.o
  case measure=>exact am.o
 obtain rfl:q=H2.m:=by omega
 have I:=bA.o H2.m (Hi _);have ay:=LH (q4u (show HI wr E P H2.bE from G) I.1 (I.2.c.trans aS));have aX:=LH (aY.o.trans a5);unfold pw at ay;clear G a5 I;go_wp2_with fail;refine ay.o.mono ?_;rintro e S ⟨rfl,H',hr,own4,aj,ai⟩;have HF:=LH (show FixsP P own H w (ZY (ZZ #[])) S from⟨rfl,H',ci.o H' hr,own4,aj,aX.o.trans ai⟩);clear hr aj ai;go_wp2_with fail
 go_end0
 exact HF.o
def nwV(V:S2)(bd:Nat):Pa:=⟨V,bd,B0,λ_=>⟨0,0,ZS⟩,B0,λ_=>ZS⟩
structure EM(w:D0)(B q bd gs i:Nat)(V:S2)(gn:Nat->Nat):Prop where
 lo:B<=bd/\bd<gs
 al:Ae w gs 105 (Gt (nwV V bd) (D4 q))
 map:Ab BP w bd 100 (U2 λ_=>L1)
 row:w.ownsRow (gs+1) 108 1 V i ((Ww i).map λj=>pw (gn j))
 nd:∀j,j<i->BT w 0 (gn j) (WK B0 0 0) (WK B0 0 0) [] (nd0 (10*q+j))/\gs<gn j
 inc:∀j k,j<k->k<i->gn j<gn k
open Classical in
def BS(own:Ah)(B q bd gs n:Nat)(V:S2)(gn:Nat->Nat):Ah:=λb=>
 if b<B then own b else if b=bd then Bs (.dd q)else if b=gs then Bs (.sb q)else if V.ownBlock=Bs b then Bs (.ndr q)
 else if h:∃j,j<n/\b=gn j then Bs (.nd q h.choose)else B0
variable {B q bd gs:Nat}{gn:Nat->Nat}
def EM.inj(h:EM w B q bd gs i V gn){k:Nat}(d:j<i)(c:k<i)(e:gn j=gn k):j=k:=by obtain b|b|b:=Nat.lt_trichotomy j k;have:=h.inc j k b c;omega;exact b;have:=h.inc k j b d;omega
def EM.own_bd(h:EM w B q bd gs n V gn):BS own B q bd gs n V gn bd=Bs (.dd q):=by unfold BS;rw[Z7 (Z4 h.lo),Z8 rfl]
def EM.own_gs(h:EM w B q bd gs n V gn):BS own B q bd gs n V gn gs=Bs (.sb q):=by unfold BS;rw[Z7 (Z4 h.lo),Z7 (Z4 h.lo),Z8 rfl]
def EM.eJ(h:EM w B q bd gs n V gn)(c:V.ownBlock=Bs b):BS own B q bd gs n V gn b=Bs (.ndr q):=by have e:=(h.row.lt b c).1;have d:=h.lo;unfold BS;rw[Z7 Z0,Z7 Z0,Z7 Z0,Z8 c]
def EM.own_nd(h:EM w B q bd gs n V gn)(c:j<n):BS own B q bd gs n V gn (gn j)=Bs (.nd q j):=by
 have s:=h.lo;obtain⟨f,p⟩:=h.nd j c;unfold BS;have b:∃k,k<n/\gn j=gn k:=⟨j,c,rfl⟩
 rw[Z7 Z0,Z7 Z0,Z7 Z0,Z7 (λe=>Bh h.row f.al Z2 e),dif_pos b];have d:=b.choose_spec;rw[<- h.inj c d.1 d.2]
def GH:Ext own (BS own B q bd gs n V gn) B:=λb c=>by unfold BS;rw[Z8 c]
def EM.own_lt(h:EM w B q bd gs n V gn)(d:∀b,own b≠B0->b<w.heap.size):∀b,BS own B q bd gs n V gn b≠B0->b<w.heap.size:=λb c=>by
 unfold BS at c;split at c;exact d b c;split at c;rename_i e;rw[e];exact h.map.lt;split at c;rename_i e;rw[e];exact h.al.lt;split at c;rename_i e;exact(h.row.lt b e).2;split at c;rename_i e;obtain⟨j,f,rfl⟩:=e;exact(h.nd j f).1.al.lt;exact ZB rfl c
def EM.sm:∀b k,BS own B q bd gs n V gn b=Bs (.sm k)->own b=Bs (.sm k):=λb k e=>by
 unfold BS at e;split at e;exact e;split at e;cases e;split at e;cases e;split at e;cases e;split at e<;>cases e
def EM.shI(h:EM w B q bd gs n V gn):Er w (BS own B q bd gs n V gn) n q gs gn (nwV V bd) (D4 q):=
 ⟨MJ h.row (VG _),λb c=>h.eJ c,h.map,h.own_bd,AF.bo h.al rfl ⟨Z2,Z2⟩ (VG _) _,λb c=>by
  obtain h|⟨x,d,_⟩:=c;cases h;exact ZB rfl d,Cl.bo h.al rfl rfl Z2 (VG _) _,λb c=>by
  obtain h|⟨x,d,_⟩:=c;cases h;exact ZB rfl d,h.own_gs⟩
def EM.ndC(h:EM w B q bd gs n V gn)(d:j<n):Uy w (BS own B q bd gs n V gn) (.nd q j) (gn j) ((D4 q).nd j):=
 ⟨_,_,_,(h.nd j d).1,λb c=>by
  obtain rfl|c|c|⟨x,e,_⟩:=c;exact h.own_nd d;cases c;cases c;cases e⟩
def HI.pushSh(h:HI w4 own P H)(I:RK w4 own H.n H.c gs gn (D4 H.c))(J:∀j,j<H.n->Uy w4 own (.nd H.c j) (gn j) ((D4 H.c).nd j))(Y:H.sh H.c=D4 H.c)
  {v:LY} (u:EP w4 own P H.c H.m H.net H.ah v) (M:Am w4 w5 v.Vr.ownBlock V'.ownBlock)
  (W:w5.ownsRow 0 80 1 V' (H.c+1) (((Ww H.c).map λs=>pw (P.gs s))++[pw gs])) :
  ∃own',HI (w5.setCell ⟨P.g,3,B0⟩ V') own' {P with gs:=Af P.gs H.c gs,gn:=Af P.gn H.c gn} {H with c:=H.c+1}/\(∀b,own' b≠B0->own b≠B0\/w4.heap.size<=b)/\(∀b i,own' b=Bs (.sm i)->own b=Bs (.sm i))/\
   Fr (OS own (λt=>t=.shr\/t=.hs)) w4 (w5.setCell ⟨P.g,3,B0⟩ V'):=by
 have z:Ext own (Ej own w4.heap.size (λq=>V'.ownBlock=Bs q) .shr) w4.heap.size:=SV;have R:Fr (OS own (λt=>t=.shr\/t=.hs)) w4 w5:=M.1.mono (λq _ e=>⟨_,u.ck q e.symm,.inl rfl⟩);have A:=Fr.aL P.g w5 3 V';have x:Fr (OS own (λt=>t=.shr\/t=.hs)) w4 (w5.setCell ⟨P.g,3,B0⟩ V'):=R.setCell (p:=⟨P.g,3,B0⟩) (.inl ⟨_,u.gt,.inr rfl⟩) _;have O:¬Bs P.g=v.Vr.ownBlock:=λe=>by have:=u.ck P.g e.symm;rw[u.gt]at this;cases this
 have D:Ae w5 P.g 92 (P0 v H.ah):=M.1.al u.nt.al O;have K:∀q,FN v q->¬OS own (λt=>t=.shr\/t=.hs) q:=λq f hs=>by obtain e|e:=hs.c6 (u.bI q f)<;> cases e
 have hN:AO (w5.setCell ⟨P.g,3,B0⟩ V') 0 P.g 0 92 (P0 {v with Vr:=V'} H.ah) v.Vn v.D 100 v.L H.net.aq v.df:=
  u.nt.da x K (D.aZ 3 V') rfl rfl rfl
 have y:(w5.setCell ⟨P.g,3,B0⟩ V').ownsRow 0 80 1 V' (H.c+1) ((Ww (H.c+1)).map λs=>pw (Af P.gs H.c gs s)):=by
  have U:((Ww (H.c+1)).map λs=>pw (Af P.gs H.c gs s))=(((Ww H.c).map λs=>pw (P.gs s))++[pw gs]):=by
   rw[Ys,WQ];congr 1;apply XH;intro s hs;rw[Zs]at hs;rw[Ay Z0];rw[WJ,XT,Aq]
  rw[U];exact A.own W (λq f e=>Bh W D Z2 (by rw[f,e]))
 have E:∀q,V'.ownBlock=Bs q->Ej own w4.heap.size (λq=>V'.ownBlock=Bs q) .shr q=Bs .shr:=λq f=>SS (by
  obtain e|⟨b',e,hl⟩:=M.2;exact eR (u.ck q (by rw[<- e];exact f));rw[e]at f;injection f with f;exact eS Z0) f
 refine⟨_,⟨SR x.size (λq f=>(y.lt q f).2),⟨{v with Vr:=V'},hN,u.cb,λq f=>(z q (u.nt.a9 f)).trans (u.bI q f),u.cd,y,E,x.own u.txr (λq f hs=>by obtain e|e:=hs.c6 (u.cf q f)<;> cases e),λq f=>(z q (u.txr.lt q f).2).trans (u.cf q f),(z _ u.nt.al.lt).trans u.gt⟩,λs hs=>?_,λs j hs X=>?_,λi U Z=>?_⟩,λb S=>?_,RC Z3,x⟩;have hs:s<H.c+1:=hs;show RK _ _ H.n s (Af P.gs H.c gs s) (Af P.gn H.c gn s) (H.sh s);by_cases e:s=H.c;subst e;rw[Aq,Aq,Y];exact I.bw x z (λt G d=>by obtain h|h|h|h|h:=G<;> subst h<;>obtain h|h:=d<;> cases h);rw[Ay e,Ay e];exact(h.sh s Z0).bw x z (λt G d=>by obtain h|h|h|h|h:=G<;> subst h<;>obtain h|h:=d<;> cases h);have hs:s<H.c+1:=hs;show Uy _ _ (.nd s j) (Af P.gn H.c gn s j) ((H.sh s).nd j);by_cases e:s=H.c;subst e;rw[Aq,Y];exact(J j X).bw x z (λd=>by obtain h|h:=d<;> cases h);rw[Ay e];exact(h.nd s j Z0 X).bw x z (λd=>by obtain h|h:=d<;> cases h);exact(h.tx i U Z).bw x z (λd=>by obtain h|h:=d<;> cases h) (λd=>by obtain h|h:=d<;> cases h);unfold Ej at S;split at S;exact eR S;exact eS Z0
def HI.addSh(h:HI w own P H)(t:EM w4 w.heap.size H.c bd gs H.n V gn)(f:VI w.heap.size w w4)(D:H.sh H.c=D4 H.c)
  {v:LY} (x:EP w own P H.c H.m H.net H.ah v) (z:Am w4 w5 v.Vr.ownBlock V'.ownBlock)
  (y:w5.ownsRow 0 80 1 V' (H.c+1) (((Ww H.c).map λs=>pw (P.gs s))++[pw gs])) :
  ∃own',HI (w5.setCell ⟨P.g,3,B0⟩ V') own' {P with gs:=Af P.gs H.c gs,gn:=Af P.gn H.c gn} {H with c:=H.c+1}/\(∀b,own' b≠B0->own b≠B0\/w.heap.size<=b)/\(∀b i,own' b=Bs (.sm i)->own b=Bs (.sm i)):=by
 have u:Ext own (BS own w.heap.size H.c bd gs H.n V gn) w.heap.size:=GH;have E:=h.grown (own':=BS own w.heap.size H.c bd gs H.n V gn) f u (t.own_lt (λb d=>VF (h.lt b d) f.size));have p:EP w4 (BS own w.heap.size H.c bd gs H.n V gn) P H.c H.m H.net H.ah v:=x.bw (q6t own f) u (λ_ _ h=>h);obtain⟨own',J,I,G,_⟩:=E.pushSh ⟨_,t.shI⟩ (λj A=>t.ndC A) D p z y;refine⟨own',J,λb d=>?_,λb i e=>EM.sm b i (G b i e)⟩;obtain h|h:=I b d;by_cases e:b<w.heap.size;rw[GH b e]at h;exact eR h;exact eS Z0;exact eS (VK f.size h)
def hs_new(w:D0)(n:Nat)(P:Av)(t:P.g=w.heap.size):HI (w.alloc (eT #[WK B0 0 0,.map B0,Wm eQ 0,WK B0 0 0,WK B0 0 0,Wm eQ 0] 92)) (λb=>if b=w.heap.size then Bs .hs else B0) P (hsE n):=by have f:=Ae.b4 w 92 #[WK B0 0 0,.map B0,Wm eQ 0,WK B0 0 0,WK B0 0 0,Wm eQ 0];rw[<- t]at f ⊢;refine⟨λb c=>?_,⟨⟨WK B0 0 0,B0,[],0,WK B0 0 0,WK B0 0 0⟩,⟨f,rfl,rfl,rfl,VW _ _ _ _,λx d=>(by cases d),λi=>rfl,VG _,⟨Z2,Z2⟩,VG _⟩,rfl,λb c=>?_,λx d=>(by cases d),VW _ _ _ _,λb c=>(by cases c),VW _ _ _ _,λb c=>(by cases c),Z8 rfl⟩,λs hs=>ZB hs (by show ¬s<0;omega),λs j hs=>ZB hs (by show ¬s<0;omega),λi u p=>ZB p (by show ¬i<=0;omega)⟩;by_cases e:b=P.g;rw[e];exact f.lt;rw[Z7 e]at c;exact ZB rfl c;obtain h|h|⟨x,d,_⟩:=c;cases h;cases h;cases d
def S5:(Tryz.prog.info? 80).map (λi=>(i.zero,i.size,i.bytes))=Bs (Bs (ZW B0),1,8):=by kernel_rfl
def Ux(n g:Nat)(w:D0)(v:S2)(wr:D0):Prop:=
 ∃(q:Nat)(P:Av)(own:Ah),v=Wm eQ q/\q<=3/\P.g=g/\HI wr own P (AJ n q)/\EN own/\VI w.heap.size w wr/\∀b,own b≠B0->w.heap.size<=b
def Uw(n q bd gs:Nat)(b:D0)(v:S2)(wr:D0):Prop:=
 ∃(i:Nat)(V:S2)(gn:Nat->Nat),v=Wm eQ i/\i<=n/\EM wr bd q bd gs i V gn/\VI bd b wr
def NewP(n:Nat)(w:D0)(e:WE)(w':D0):Prop:=
 ∃(P:Av)(own:Ah),e=ZY (ZZ #[pw P.g,ZS])/\HI w' own P (BJ n)/\EN own/\VI w.heap.size w w'/\w.heap.size<=P.g/\∀b,own b≠B0->w.heap.size<=b
def EM.aP{B q bd gs:Nat}{gn:Nat->Nat}{d:Nat}(h:EM w B q bd gs i V gn)(v:Fr (λk=>k=gs\/V.ownBlock=Bs k) w w')(c:Ae w' gs 105 (Gt (nwV V' bd) (D4 q)))
  (A:w'.ownsRow (gs+1) 108 1 V' (i+1) (((Ww i).map λj=>pw (gn j))++[pw d])) (D:BT w' 0 d (WK B0 0 0) (WK B0 0 0) [] (nd0 (10*q+i))) (G:gs<d) (E:∀j,j<i->gn j<d) :
  EM w' B q bd gs (i+1) V' (Af gn i d):=by
 have p:∀j,j<i->¬(gn j=gs\/V.ownBlock=Bs (gn j)):=λj u e=>by
  obtain⟨t,y⟩:=h.nd j u;obtain e|e:=e;omega;exact Bh h.row t.al Z2 e
 refine⟨h.lo,c,h.map.fr v (λe=>?_),?_,λj u=>?_,λj k f I=>?_⟩;have:=h.lo;obtain e|e:=e;omega;have:=(h.row.lt _ e).1;omega;have e:(Ww (i+1)).map (λj=>pw (Af gn i d j))=((Ww i).map λj=>pw (gn j))++[pw d]:=by
  rw[Ys,WQ];congr 1;apply XH;intro s hs;rw[Zs]at hs;rw[Ay Z0];rw[WJ,XT,Aq]
 rw[e];exact A;by_cases e:j=i;subst e;rw[Aq];exact⟨D,G⟩;rw[Ay e];obtain⟨t,y⟩:=h.nd j Z0;exact⟨t.fr v (λb c=>by
  obtain rfl|c|c|⟨x,z,_⟩:=c;exact p j Z0;cases c;cases c;cases z),y⟩
 by_cases e:k=i;subst e;rw[Aq,Ay Z0];exact E j f;rw[Ay e,Ay Z0];exact h.inc j k f Z0
def Tq{q:Nat}{H:Hs}(h:Hk n q H):∀j∈(H.cc.sh q).ai H.cc.n,((H.cc.sh q).nd j).ad<Xt ((H.cc.sh q).ad+1):=λj _=>by
 show((H.sh q).nd j).ad<Xt ((H.sh q).ad+1);rw[h.b4 q (Hi _)];show(0:Int)<Xt (0+1);rw[Xk (0+1) ⟨Z0,Z0⟩];omega
def GI(n:Nat)(h1:1<=n)(h4:n<=4):VX Tryz.prog 20 #[.int eQ 2,.int eQ n] w (NewP n w):=by
 have br:=@run_makeMap Tryz.prog;have bh:=LH (q3p h4);have b0:=LH (hs_new w n ⟨w.heap.size,λ_=>0,λ_ _=>0,λ_=>0⟩ rfl);have b8:¬(n:Int)<1:=by omega
 have aK:¬(4:Int)<n:=by omega
 have ba:decide ((n:Int)<1)=L1:=Z9 b8;have b9:decide ((4:Int)<n)=L1:=Z9 aK;have aF:Ux n w.heap.size w (.int eQ 0) (w.alloc (eT #[WK B0 0 0,.map B0,.int eQ 0,WK B0 0 0,WK B0 0 0,.int eQ 0] 92)):=
  ⟨0,_,_,rfl,VG _,rfl,b0.o,λb i e=>by dsimp only at e;split at e<;>simp at e,(VC _ _).alloc (Hi _) _,λb E=>by
   by_cases e:b=w.heap.size;omega;rw[Z7 e]at E;exact ZB rfl E⟩
 have aZ:=LH aF;clear aF b0;go_enter Tryz.func20,Tryz.ntmps20;go_wp2_with fail;clear ba b9 aK;generalize bv:w.heap.size=g at aZ ⊢;go_loopw [29] (Ux n g w) (λv _=>3-(intOf v).toNat)
 case atStart=>exact aZ.o
 obtain⟨q,P,own,rfl,hq,ai,hI,ab,ag,ad⟩:=hrel;by_cases bt:(q:Int)<3
 ·have b7:q<3:=by omega
  obtain⟨d,_⟩:=bh.o q Z0;have aM:AJ n (q+1)=(AJ n q).cc.fix q:=by
   show(AJ n q).more=_;rw[qav,d.c]
  have bg:=LH aM;have bi:=LH (Tq d);have aD:Wf (AJ n q).cc:=d.wf.cc (by rw[d.c];exact b7) (d.b4 _ (by rw[d.c];exact Hi _));have bc:=LH aD;have aX:(AJ n q).sh (AJ n q).c=D4 (AJ n q).c:=d.b4 _ (by rw[d.c];exact Hi _);have bl:=LH aX;have Y:=d.c;have bb:=d.n;clear d aM aD aX;generalize AJ n q=H at *;obtain⟨vh,aa⟩:=hI.hs;have M:=LH aa;obtain⟨_,k3,_,_,kl⟩:=aa.cells;have kf:=aa.nt.al.frozen 3;rw[ai]at k3 kl kf;have bk:=LH hI;have be:=LH ab;have a0:=LH ag;have bj:=LH ad;have Z:=LH ai;have aO:Ab BP (wr.alloc (.map #[] 0)) wr.heap.size 100 (U2 λ_=>L1):=(Ab.cT BP wr).mono (VG 100);have aL:EM ((wr.alloc (.map #[] 0)).alloc (eT #[WK B0 0 0,.map (Bs wr.heap.size),.int eQ 0,.int eQ 0,.map B0,.map B0,.int eQ 0,.int eQ 0] 105)) wr.heap.size q wr.heap.size (wr.heap.size+1) 0 (WK B0 0 0) (λ_=>0):=by
   refine⟨⟨Hi _,Y1 _⟩,?_,aO.alloc _,VW _ _ _ _,λj hj=>ZB hj Z0,λj k _ hk=>ZB hk Z0⟩;have:=Ae.b4 (wr.alloc (.map #[] 0)) 105 #[WK B0 0 0,.map (Bs wr.heap.size),.int eQ 0,.int eQ 0,.map B0,.map B0,.int eQ 0,.int eQ 0];rw[show(wr.alloc (.map #[] 0)).heap.size=wr.heap.size+1 by simp]at this;exact this
  have aT:VI wr.heap.size wr ((wr.alloc (.map #[] 0)).alloc (eT #[WK B0 0 0,.map (Bs wr.heap.size),.int eQ 0,.int eQ 0,.map B0,.map B0,.int eQ 0,.int eQ 0] 105)):=((VC _ _).alloc (Hi _) _).alloc Z3 _;have a8:=LH (show Uw n q wr.heap.size (wr.heap.size+1) wr (.int eQ 0) _ from⟨0,_,_,rfl,VG _,aL,aT⟩);clear hI ab ag ad aa aO aL aT;rename D0=>Wb
  go_wp2_with fail;generalize aP:Wb.heap.size=bd at a8 ⊢;have a1:=LH aP;clear aP;generalize an:bd+1=gs at a8 ⊢;have bw:=LH an;clear an;go_loopw [36] (Uw n q bd gs Wb) (λv _=>n-(intOf v).toNat)
  case atStart=>exact a8.o
  obtain⟨i,V,gn,rfl,hi,R,G⟩:=hrel;by_cases bm:(i:Int)<n
  ·have bu:i<=4:=by omega
   have c:=LH R;have a9:=LH G;obtain⟨A6,c6,rfl,_,_⟩:=AM R.row;have f:=R.al.cell 0;have af:=R.al.lt;unfold Gt nwV at f;simp only[NW,Ft]at f;have bq:IntKind.i64.wrap (10*(q:Int))=10*(q:Int):=V4 _ ⟨Z0,Z0⟩;have bp:IntKind.i64.wrap (10*(q:Int)+i)=10*(q:Int)+i:=V4 _ ⟨Z0,Z0⟩;have ar:=LH (new_any 0 (10*(q:Int)+i) wr.drew (VG _));clear R G;go_upto_region 11 with (fail)
   refine nW ?_;refine CR (λW=>W.cell? ⟨gs,0,B0⟩=Bs (WK A6 i c6)/\gs<W.heap.size) 12 (λ_ _ _ _ _ h=>h) (λu=>?_);have y:wr.drew.cell? ⟨gs,0,B0⟩=Bs (WK A6 i c6)/\gs<wr.drew.heap.size:=⟨f,af⟩
   refine nD 0 [12,13,14] u y ?_;refine nD 1 [2,3,4,11,12,13,14] u y ?_;refine nD 2 [3,4,11,12,13,14] u y ?_;refine nD 3 [4,11,12,13,14] u y ?_;refine nA 4 [11,12,13,14] rfl rfl u y (λw' b5=>by obtain⟨p1,pl⟩:=b5;go_simp;rfl) ?_;refine nD 5 [6,8,9,10,11,12,13,14] u y ?_;refine nD 6 [8,9,10,11,12,13,14] u y ?_;refine nD 7 [8,9,10,11,12,13,14] u y ?_;refine nD 8 [9,10,11,12,13,14] u y ?_;refine nG 9 (λKK J=>?_);go_simp;refine ar.o.mono ?_;rintro e w3 ⟨rfl,aI,aS,b6⟩;have I:VI wr.heap.size wr w3:=(VC wr (B:=wr.heap.size)).drew.trans aS;have C3:=LH (show w3.cell? ⟨gs,0,B0⟩=Bs (WK A6 i c6)/\gs<w3.heap.size from⟨(I.cell (p:=⟨gs,0,B0⟩) af).trans f,VF af I.size⟩);have b2:=LH aI;have b3:=LH I;have ay:=LH ((Ef I).own c.o.row (λb E hs=>Z4 ((c.o.row.lt b E).2)));have b4:wr.drew.heap.size=wr.heap.size:=rfl;rw[b4]at b2;clear aI aS I f af ar b6;go_simp;refine J _ _ (λ_=>C3.o) ?_;clear J KK y;refine nG 10 (λKK J=>?_);go_simp;refine J _ _ (λ_=>⟨(WT w3 _ ⟨gs,0,B0⟩ C3.o.2).trans C3.o.1,by have:=C3.o.2;simp;omega⟩) ?_;clear J KK;refine nG 11 (λKK J=>?_);have aE:gs+1<=w3.heap.size:=C3.o.2;have aG:i+1<=VY/\(i+1)*8<=140737488355328:=⟨by unfold VY;omega,Z0⟩
   refine SX w3 w3.heap.size rfl _ (.tmp 43) (.tmp 49) 97 rfl (gs+1) 108 (ZW B0) 1 8 Tryz.underlying97 Kb rfl Z2 _ _ _ #[pw wr.heap.size] rfl ay.o 1 rfl _ rfl rfl (by simp[Wx,pw]) aG.1 aG.2 aE ?_;intro K w8 A ac;have a3:¬Bs gs=(WK A6 i c6).ownBlock:=λe=>by have:=(c.o.row.lt gs e.symm).1;omega
   have aJ:¬Bs wr.heap.size=(WK A6 i c6).ownBlock:=λe=>by have:=(c.o.row.lt _ e.symm).2;omega
   have a6:=(Ef b3.o).al c.o.al (Z4 c.o.al.lt);have t:=ac.1.al a6 a3;have y0:=t.cell 0;have yf:=t.frozen 0;have yl:=t.lt;unfold Gt nwV at y0;simp only[NW,Ft]at y0;have S:=Fr.aL gs w8 0 K;have au:Fr (λk=>k=gs\/(WK A6 i c6).ownBlock=Bs k) wr (w8.setCell ⟨gs,0,B0⟩ K):=
    (((Ef b3.o).mono (T:=λk=>k=gs\/(WK A6 i c6).ownBlock=Bs k) (λk hk hs=>ZB hs Z0)).trans' ac.1 (λk _ e=>eS e.symm)).trans' S (λk _ e=>eR e)
   have a5:Ae (w8.setCell ⟨gs,0,B0⟩ K) gs 105 (Gt (nwV K bd) (D4 q)):=by simpa [Gt,nwV]using t.aZ 0 K
   have al:BT (w8.setCell ⟨gs,0,B0⟩ K) 0 wr.heap.size (WK B0 0 0) (WK B0 0 0) [] (nd0 (10*q+i)):=by
    have aH:∀b,CZ wr.heap.size (WK B0 0 0) (WK B0 0 0) [] b->b=wr.heap.size:=λb E=>by
     obtain h|h|h|⟨x,hx,_⟩:=E;exact h;cases h;cases h;cases hx
    exact(b2.o.fr ac.1 (λb E e=>aJ (by rw[aH b E]at e;exact e))).fr S (λb E e=>Z5 (aH b E) c.o.al.lt)
   have a2:=S.own A (λb E e=>Z4 ((A.lt b E).1));have ao:EM (w8.setCell ⟨gs,0,B0⟩ K) bd q bd gs (i+1) K (Af gn i wr.heap.size):=
    c.o.aP au a5 a2 al c.o.al.lt (λj hj=>(c.o.nd j hj).1.al.lt)
   have ap:VI bd wr (w8.setCell ⟨gs,0,B0⟩ K):=au.below (λk hk=>by
    have:=c.o.lo;obtain e|e:=hk;omega;have:=(c.o.row.lt k e).1;omega) (Z4 c.o.map.lt)
   have ax:=LH (show Uw n q bd gs Wb (.int eQ ((i+1:Nat):Int)) (w8.setCell ⟨gs,0,B0⟩ K)from⟨i+1,K,_,rfl,Z0,ao,a9.o.trans ap⟩);obtain⟨A9,c9,rfl,_,_⟩:=AM A;have C8:=LH (show w8.cell? ⟨gs,0,B0⟩=Bs (WK A6 i c6)/\gs<w8.heap.size from⟨y0,yl⟩);clear ao ap a2 al a5 au S t a6 a3 aJ A ac;go_simp;refine J _ _ (λ_=>C8.o) ?_;clear J KK;refine nG 12 (λKK J=>?_);go_simp;refine J _ _ nZ ?_;clear J KK;refine nG 13 (λKK J=>?_);go_simp;refine J _ _ nZ ?_;clear J KK;refine nG 14 (λKK J=>?_);go_simp;refine J _ _ nZ ?_;clear J KK;refine nX ?_;clear u y0 yf yl;go_wp2_with fail;go_roundw;exact ax.o;simp[intOf];omega
  obtain rfl:n=i:=by omega
  have a7:∀b,own b≠B0->w.heap.size<=b:=bj.o;have z:=M.o.shr;obtain⟨A7,c7,av,_,_⟩:=AM z;have D:=(Ef G).own z (λb E hs=>Z5 ((z.lt b E).2) a1.o);rw[av]at D k3;rw[Y]at D k3;have bo:=(G.cell (p:=⟨g,3,B0⟩) (by have:=a1.o;have:=Z.o;show g<bd;omega)).trans k3;have bn:=VF kl G.size;have a4:=(Ef G).al M.o.nt.al (Z5 M.o.nt.al.lt a1.o);have az:=LH a4;have c:=LH R;have a9:=LH G;have ay:=LH D;have aY:=LH av;clear z D a4 R G av k3 kl kf;go_wp2_with (at_builtin;refine stop ?_)
  refine CD ?_;refine Oq wr _ rfl (.tmp 58) (.tmp 60) 89 rfl 0 80 (ZW B0) 1 8 Tryz.underlying89 S5 rfl Z2 _ _ _ #[pw gs] rfl ay.o 1 rfl _ rfl rfl (by simp[Wx,pw]) Zx Z0 (VG _) ?_;intro K w6 O aN;have U:Am wr w6 vh.Vr.ownBlock K.ownBlock:=by rw[aY.o,Y];exact aN
  have aU:=bk.o.addSh (w4:=wr) (w5:=w6) (bd:=bd) (gs:=gs) (V:=V) (gn:=gn) (V':=K) (by rw[a1.o,Y,bb];exact c.o) (by rw[a1.o];exact a9.o) bl.o M.o U (by rw[Y];exact O);obtain⟨aj,aw,am,ak⟩:=aU;have a3:¬Bs g=vh.Vr.ownBlock:=λe=>by have:=M.o.ck g e.symm;rw[<- Z.o,M.o.gt]at this;cases this
  rw[Z.o]at az;have ae:=U.1.al az.o a3;have y1:=ae.frozen 3;have y0:=ae.cell 3;unfold P0 at y0;simp only[NW,Ft,O0]at y0;rw[aY.o,Y]at y0;have yl:=ae.lt;have aR:VI w.heap.size Wb (w6.setCell ⟨g,3,B0⟩ K):=by
   have e1:VI w.heap.size Wb wr:=a9.o.mono (Z5 a1.o a0.o.size);have e2:Fr (λk=>w.heap.size<=k) wr (w6.setCell ⟨g,3,B0⟩ K):=(U.1.mono (T:=λk=>w.heap.size<=k) (λk _ e=>a7 k (by rw[M.o.ck k e.symm];simp))).trans' (Fr.aL g w6 3 K) (λk _ e=>by
    have:=a7 g (by rw[<- Z.o,M.o.gt];simp);omega)
   exact e1.trans (e2.below (λ_ h=>h) (VK a0.o.size a9.o.size))
  have aB:=LH aR;obtain⟨P7,X⟩:∃P7:Av,P7 = {P with gs:=Af P.gs H.c gs,gn:=Af P.gn H.c gn}:=⟨_,rfl⟩
  rw[<- X,Z.o]at aw;have aA:=LH (KR (s:=q) aw bc.o (show q<H.c+1 by omega) bi.o);have b1:=LH (show ∀b,aj b≠B0->w.heap.size<=b from λb E=>by
   obtain h|h:=am b E;exact a7 b h;have:=a0.o.size;omega)
  have bf:=LH (show EN aj from λb i e=>be.o b i (ak b i e));have aq:P7.g=g:=by rw[X];exact Z.o
  have aV:P7.gs q=gs:=by rw[X];show Af P.gs H.c gs q=gs;rw[Y,Aq]
  clear X;rw[aq,aV]at aA;obtain⟨A9,c9,rfl,_,_⟩:=AM O;unfold pw at aA;clear aN U ae aw am ak O aR a3 az;go_upto_region 14 with (fail)
  clear y0 y1 yl;generalize (w6.setCell _ _)=w7 at *;go_wp2_with fail;refine aA.o.mono ?_;rintro e w8 ⟨rfl,aC,aW,ah⟩;have aQ:VI w.heap.size w7 w8:=ah.fr.below (λk hk=>b1.o k hk.bR) (VK a0.o.size aB.o.size);have ax:=LH (show Ux n g w (.int eQ ((q+1:Nat):Int)) w8 from⟨q+1,P7,aC,rfl,Z0,aq,by rw[bg.o];exact aW,ah.ey bf.o,(a0.o.trans aB.o).trans aQ,λb E=>by
   by_cases e:b<w7.heap.size;rw[ah.ext b e]at E;exact b1.o b E;have:=aB.o.size;have:=a0.o.size;omega⟩)
  clear aW ah aQ;go_wp2_with fail;go_roundw;exact ax.o;simp[intOf];omega
 obtain rfl:q=3:=by omega
 have HF:=LH (show NewP n w (ZY (ZZ #[ZW (Bs ⟨g,0,B0⟩),ZS])) wr from⟨P,own,by rw[ai];rfl,hI,ab,ag,by rw[ai];omega,ad⟩);clear hI ab ag ad;go_wp2_with fail;go_ret2;exact HF.o
def AZ(a:Int)(n:Nat):Nat:=((a % 18446744073709551616) % n).toNat
def On(a:Int)(h:0<n):AZ a n<n:=by unfold AZ;have c:0<=(a % 18446744073709551616) % (n:Int):=Int.emod_nonneg _ Z0;have b:(a % 18446744073709551616) % (n:Int)<n:=Int.emod_lt_of_pos _ Z0;omega
def q4j(a:Int)(n:Nat)(h:0<n)(d:n<=4611686018427387904)(w:D0):VX Tryz.prog 13 #[Wm eQ a,Wm eQ n] w λe w'=>e=ZY (Wm eQ (AZ a n))/\w=w':=by
 go_enter Tryz.func13,Tryz.ntmps13;go_wp2_with fail;go_ret;refine⟨?_,rfl⟩;have b:IntKind.u64.wrap a=a % 18446744073709551616:=by simp[IntKind.wrap,IntKind.bits,IntKind.signed]
 have c:0<=a % 18446744073709551616:=Int.emod_nonneg _ Z0;have j:0<=(a % 18446744073709551616) % (n:Int):=Int.emod_nonneg _ Z0;have f:(a % 18446744073709551616) % (n:Int)<n:=Int.emod_lt_of_pos _ Z0;have e:Xt ((IntKind.u64.wrap a).tmod n)=(AZ a n:Int):=by
  rw[b,Int.tmod_eq_emod_of_nonneg c,Xk _ Z0];unfold AZ;omega
 show Ending.returned (Wm eQ (Xt ((IntKind.u64.wrap a).tmod n)))=_;rw[e]
variable {H':Hs}
def put_act(j:Wf H)(u:H.c=3)(id:Int)(d:sx p.key∈names):Fw H (H.put id p).2:=by
 unfold Hs.put;split;exact .aK (.refl _);rename_i E;have h:=P9 (id:=id) (mode:=2) j u d (by unfold Bt;omega);have f:Wf (H.aJ id (sx p.key) 2).2:=(q6n j u d).1;have t:(H.aJ id (sx p.key) 2).1=0->1<=id.toNat/\id.toNat<=(H.aJ id (sx p.key) 2).2.m:=λb=>by
  have z:=(q6n (mode:=2) (id:=id) j u d).2.m;by_cases A:id<1\/H.m<id;rw[q1l A]at b;cases b;rw[z];omega
 simp only;split;exact .aK h;rename_i b;have b:(H.aJ id (sx p.key) 2).1=0:=Z6 b;obtain⟨x,v⟩:=t b;split;rename_i l hl;have c:=f.tx _ x v;have y:Uk ⟨p.key,if p.aR then⟨#[]⟩else p.val,p.aR⟩:=by
  refine⟨d,?_⟩;show(if p.aR then(⟨#[]⟩:ByteArray)else p.val).size<=40;split;decide;omega
 have e:l.length<=20/\∀q∈l,Uk q:=by
  unfold BX at hl;split at hl;injection hl with hl;subst hl;refine⟨by rw[XU];exact c.cd,λq s=>?_⟩;obtain g|g:=Y5 s;exact c.ps q g;rw[g];exact y;split at hl;cases hl;rename_i D;injection hl with hl;subst hl;refine⟨by have:=c.cd;simp;omega,λq s=>?_⟩;obtain g|g:=ZD.1 s;exact c.ps q g;rw[VU.1 g];exact y
 exact .write h x v e.1 e.2;exact .aK h
structure EO(w w1:D0)(own:Ah)(P:Av)(H:Hs):Prop where
 hi:HI w1 own P H
 ns:EN own
 bl:VI w.heap.size w w1
 lo:∀b,own b≠B0->w.heap.size<=b
def EO.step{Z:Tg->Prop}{w w1 w2:D0}{own own2:Ah}{P P':Av}{H H':Hs}(k:EO w w1 own P H)(f:HI w2 own2 P' H')(d:HZ Z w1 own w2 own2):EO w w2 own2 P' H':=by refine⟨f,d.ey k.ns,k.bl.trans (d.fr.below (λb c=>k.lo b c.bR) k.bl.size),λb c=>?_⟩;by_cases e:b<w1.heap.size;rw[d.ext b e]at c;exact k.lo b c;have:=k.bl.size;omega
def EO.dE{own:Ah}{P:Av}{H H':Hs}(k:EO w W own P H)(h:Cf P own H' W w'):∃own2,EO w w' own2 P H':=by obtain⟨own2,a,b⟩:=h;exact⟨own2,k.step a b⟩
def EO.below{w w1 w2:D0}{own:Ah}{P:Av}{H:Hs}(k:EO w w1 own P H)(b:VI w1.heap.size w1 w2):EO w w2 own P H:=⟨k.hi.below b,k.ns,k.bl.trans (b.mono k.bl.size),k.lo⟩
def I4(w:D0)(e:WE)(w':D0):Prop:=e=ZY (ZX VD)/\VI w.heap.size w w'
structure Cv where
 aj:Int
 key:ByteArray
 val:ByteArray
 dF:Bool
structure Au where
 bh:List Cv
 ar:Int
 a8:Int
abbrev Mp:=ByteArray->Option ByteArray
def Mp.empty:Mp:=λ_=>B0
def Mp.set(m:Mp)(k:ByteArray)(v:Option ByteArray):Mp:=λx=>if x=k then v else m x
def CG(m:Mp)(o:Cv):Prop:=(m o.key).isSome=o.dF/\∀v,m o.key=Bs v->v=o.val
instance (m:Mp)(o:Cv):Decidable (CG m o):=by unfold CG;rcases h:m o.key with _|v;exact decidable_of_iff ((B0:Option ByteArray).isSome=o.dF) ⟨λh=>⟨h,λv e=>by cases e⟩,λh=>h.1⟩;exact decidable_of_iff (VD=o.dF/\v=o.val) ⟨λh=>⟨h.1,λu e=>by injection e with e;rw[<- e];exact h.2⟩,λh=>⟨h.1,h.2 v rfl⟩⟩
def FM(m:Mp)(o:Cv):Option Mp:=
 if o.aj=1 then(if CG m o then Bs m else B0)else if o.aj=2 then Bs (m.set o.key (Bs o.val))else if o.aj=3 then Bs (m.set o.key B0)else Bs m
def DY(m:Mp):List Cv->Option Mp
 |[]=>Bs m
 |o::l=>(FM m o).bind λb=>DY b l
def q21(m:Mp)(a b:List Cv):DY m (a++b)=(DY m a).bind λc=>DY c b:=by
 induction a generalizing m with
 |nil=>rfl
 |cons o a d=>
  simp only[X0,DY];obtain _|c:=FM m o;rfl;exact d c
section
variable (l:List Au)
def Dq(i:Nat):Int:=(l[i]?.map (·.a8)).getD (-1)
def BY(i:Nat):Int:=(l[i]?.map (·.ar)).getD 0
def BL(i:Nat):List Cv:=(l[i]?.map (·.bh)).getD []
def M4(order:List Nat)(i:Nat):Prop:=∀k,k<l.length->k≠i->k ∉ order->¬(0<=Dq l k/\Dq l k<BY l i)
def Dx(order:List Nat):Prop:=∀k,k<l.length->0<=Dq l k->k∈order
instance (order:List Nat)(i:Nat):Decidable (M4 l order i):=by unfold M4;exact inferInstance
instance (order:List Nat):Decidable (Dx l order):=by unfold Dx;exact inferInstance
def DF:Nat->List Nat->Mp->Option (List Nat)
 |0,order,_=>if Dx l order then Bs order else B0
 |f+1,order,m=>if Dx l order then Bs order else
   (Ww l.length).findSome? λi=>if i∈order\/¬M4 l order i then B0 else(DY m (BL l i)).bind λb=>DF f (order++[i]) b
def BA(order:List Nat)(k:Nat):Nat:=if k∈order then order.idxOf k+1 else 0
def B5(order:List Nat):Prop:=
 order.Nodup/\(∀k∈order,k<l.length)/\(∀i,i<l.length->(0<=Dq l i->i∈order)/\∀k,k<l.length->¬(0<=Dq l i/\Dq l i<BY l k/\0<BA order k/\BA order k<BA order i))/\
  (DY Mp.empty (order.flatMap (BL l))).isSome=VD
def D7(order:List Nat):List Au:=l.mapIdx λi t=>if i ∉ order/\0<=t.a8 then {t with a8:=-1}else t
def I8(order:List Nat):Prop:=(∀i,i<l.length->i ∉ order->0<=Dq l i->∀k∈order,¬Dq l i<BY l k)/\B5 (D7 l order) order
instance (order:List Nat):Decidable (B5 l order):=by unfold B5;exact inferInstance
instance (order:List Nat):Decidable (I8 l order):=by unfold I8;exact inferInstance
def Cn:Nat->List Nat->Option (List Nat)
 |0,order=>if B5 l order then Bs order else B0
 |f+1,order=>if B5 l order then Bs order else
   (Ww l.length).findSome? λi=>if i∈order\/¬I8 l (order++[i])then B0 else Cn f (order++[i])
structure Fj(order:List Nat)(m:Mp):Prop where
 nodup:order.Nodup
 lt:∀k∈order,k<l.length
 pairs:∀i∈order,∀k∈order,order.idxOf k<order.idxOf i->¬(0<=Dq l i/\Dq l i<BY l k)
 rest:∀i,i<l.length->i ∉ order->0<=Dq l i->∀k∈order,¬Dq l i<BY l k
 ew:DY Mp.empty (order.flatMap (BL l))=Bs m
end
section
variable {l:List Au}{order:List Nat}{m:Mp}
def Fj.nil:Fj l [] Mp.empty:=⟨YF,Z3,Z3,Z3,rfl⟩
def q9e{k:Nat} : 0<BA order k↔k∈order:=by unfold BA;split<;>simp_all
def Ox{k:Nat}(c:k∈order):BA order k<BA order i↔i∈order/\order.idxOf k<order.idxOf i:=by unfold BA;rw[Z8 c];by_cases b:i∈order;rw[Z8 b];simp[b];rw[Z7 b];simp[b]
def Fj.eL(h:Fj l order m):B5 l order↔Dx l order:=by constructor;intro j k e d;exact(j.2.2.1 k e).1 d;intro p;refine⟨h.nodup,h.lt,λi f=>⟨p i f,λk e ⟨d,v,u,t⟩=>?_⟩,by rw[h.ew];rfl⟩;have b:=q9e.1 u;obtain⟨c,s⟩:=(Ox b).1 t;exact h.pairs i c k b s ⟨d,v⟩
def Lr:(D7 l order).length=l.length:=by unfold D7;simp
def Re(i:Nat):BY (D7 l order) i=BY l i:=by unfold BY D7;rw[Wd];obtain _|t:=l[i]?;rfl;simp;split<;>rfl
def Lq(i:Nat):BL (D7 l order) i=BL l i:=by unfold BL D7;rw[Wd];obtain _|t:=l[i]?;rfl;simp;split<;>rfl
def cutP_to(i:Nat):Dq (D7 l order) i=if i ∉ order/\0<=Dq l i then -1 else Dq l i:=by unfold Dq D7;rw[Wd];obtain _|t:=l[i]?;simp;simp;split<;>rfl
def q3l{k:Nat}(h:k∈order):(order++[i]).idxOf k=order.idxOf k:=by rw[Zt];rw[Z8 h]
def q4o(h:i ∉ order):(order++[i]).idxOf i=order.length:=by rw[Zt];rw[Z7 h];simp
def q96(i:Nat):(order++[i]).flatMap (BL l)=order.flatMap (BL l)++BL l i:=by simp
def Fj.step(h:Fj l order m){i:Nat}(y:i<l.length)(s:i ∉ order)(A:M4 l order i){x:Mp}(z:DY m (BL l i)=Bs x):Fj l (order++[i]) x:=by
 refine⟨?_,?_,?_,?_,?_⟩;rw[List.nodup_append];exact⟨h.nodup,Z3,λa d b D=>by rw[VU.1 D];exact λe=>s (e▸d)⟩;intro k c;obtain c|c:=ZD.1 c;exact h.lt k c;rw[VU.1 c];exact y;intro a d k c f;obtain c|c:=ZD.1 c;obtain d|d:=ZD.1 d;rw[q3l c,q3l d]at f;exact h.pairs a d k c f;rw[VU.1 d];exact λ⟨t,v⟩=>h.rest i y s t k c v
 exfalso;rw[VU.1 c,q4o s]at f;obtain d|d:=ZD.1 d;rw[q3l d]at f;have:=List.idxOf_lt_length_of_mem d;omega;rw[VU.1 d,q4o s]at f;omega;intro a d p t k c;have j:a ∉ order:=λe=>p (List.mem_append_left _ e)
 have u:a≠i:=λe=>p (by rw[e];simp)
 obtain c|c:=ZD.1 c;exact h.rest a d j t k c;rw[VU.1 c];exact λv=>A a d u j ⟨t,v⟩
 rw[q96,q21,h.ew];exact z
def Fj.eo(h:Fj l order m)(A:i<l.length)(z:i ∉ order):I8 l (order++[i])↔M4 l order i/\(DY m (BL l i)).isSome=VD:=by
 constructor;rintro ⟨y,v⟩;refine⟨λk f t s ⟨c,p⟩=>y k f (by simp[s,t]) c i Z3 p,?_⟩;have:=v.2.2.2;rw[show(order++[i]).flatMap (BL (D7 l (order++[i])))=(order++[i]).flatMap (BL l)from by
  congr 1;funext x;exact Lq x]at this
 rw[q96,q21,h.ew]at this;exact this;rintro ⟨y,v⟩;obtain⟨J,u⟩:=ZQ.1 v;have hs:=h.step A z y u;refine⟨hs.rest,hs.nodup,λk f=>by rw[Lr];exact hs.lt k f,λa D=>?_,?_⟩;rw[Lr]at D ⊢;rw[cutP_to];refine⟨λc=>?_,λk f=>?_⟩;split at c;omega;rename_i j;simp only[not_and,Int.not_le]at j;obtain b|b:=Decidable.em (a∈order++[i]);exact b;have:=j b;omega;rw[Re];rintro ⟨c,p,I,G⟩;have d:=q9e.1 I;obtain⟨e,E⟩:=(Ox d).1 G;rw[Z7 (by simp only[not_and];intro j;exact ZB e j)]at c p;exact hs.pairs a e k d E ⟨c,p⟩;rw[show(order++[i]).flatMap (BL (D7 l (order++[i])))=(order++[i]).flatMap (BL l)from by
  congr 1;funext x;exact Lq x,hs.ew]
 rfl
def q6w{α β:Type}{f g:α->Option β} : ∀{r:List α},(∀x∈r,f x=g x)->r.findSome? f=r.findSome? g
 |[],_=>rfl
 |x::r,h=>by
  rw[List.findSome?_cons,List.findSome?_cons,h x (VB ..),q6w (r:=r) (λy b=>h y (VE _ b))]
def Js:∀(f:Nat)(order:List Nat)(m:Mp),Fj l order m->DF l f order m=Cn l f order
 |0,order,m,h=>by
  unfold DF Cn;by_cases c:Dx l order;rw[Z8 c,Z8 (h.eL.2 c)];rw[Z7 c,Z7 (λe=>c (h.eL.1 e))]
 |f+1,order,m,h=>by
  unfold DF Cn;by_cases c:Dx l order;rw[Z8 c,Z8 (h.eL.2 c)];rw[Z7 c,Z7 (λe=>c (h.eL.1 e))];refine q6w λi j=>?_
  have j:=Zs.1 j;by_cases b:i∈order;rw[Z8 (eR b),Z8 (eR b)];by_cases hs:I8 l (order++[i]);obtain⟨t,x⟩:=(h.eo j b).1 hs;obtain⟨s,d⟩:=ZQ.1 x;rw[Z7 (by simp[b,t]),Z7 (by simp[b,hs]),d];exact Js f _ s (h.step j b t d);have u:(if i∈order\/¬I8 l (order++[i])then B0 else Cn l f (order++[i]))=B0:=Z8 (eS hs);rw[u];by_cases p:M4 l order i;rw[Z7 (by simp[b,p])];rcases v:DY m (BL l i)with _|s;rfl;exact ZB ((h.eo j b).2 ⟨p,by rw[v];rfl⟩) hs;rw[Z8 (eS p)]
def JZ(l:List Au):DF l l.length [] Mp.empty=Cn l l.length []:=Js _ _ _ Fj.nil
def WayP(l:List Au):List Nat->Mp->List Nat->Prop
 |order,_,[]=>Dx l order
 |order,m,i::r=>i<l.length/\i ∉ order/\M4 l order i/\∃b,DY m (BL l i)=Bs b/\WayP l (order++[i]) b r
def qbz:∀(r:List Nat)(f:Nat)(order:List Nat)(m:Mp),r.length<=f->WayP l order m r->(DF l f order m).isSome=VD
 |[],f,order,m,_,h=>by
  have h:Dx l order:=h;cases f<;>(unfold DF;rw[Z8 h];rfl)
 |i::r,0,order,m,hf,h=>by simp at hf
 |i::r,f+1,order,m,hf,h=>by
  obtain⟨s,j,p,c,e,d⟩:=h;unfold DF;by_cases b:Dx l order;rw[Z8 b];rfl;rw[Z7 b];rw[List.isSome_findSome?,List.any_eq_true];refine⟨i,Zs.2 s,?_⟩;rw[Z7 (by simp[j,p]),e];exact qbz r f _ c (Z6 hf) d
end
structure Cu where
 t:Au
 V:S2
def SP(o:Cv):List S2:=[Wm eQ o.aj,ZV o.key,ZV o.val,ZX o.dF]
def Ij(x:Cu):List S2:=[x.V,Wm eQ x.t.ar,Wm eQ x.t.a8]
def qd9:(Tryz.prog.info? 52).map (λi=>(i.zero,i.size,i.bytes))=Bs (Bs (.agg #[WK B0 0 0,Wm eQ 0,Wm eQ 0]),3,40):=by kernel_rfl
def If:(Tryz.prog.info? 56).map (λi=>(i.zero,i.size,i.bytes))=Bs (Bs (.agg #[Wm eQ 0,ZV ⟨#[]⟩,ZV ⟨#[]⟩,ZX L1]),4,48):=by kernel_rfl
structure Ce(w:D0)(g gh:Nat)(V:S2)(L:List Cu)(now:Int)(safe:Bool)(nodes:Int)(B:Nat):Prop where
 al:Ae w g 37 #[pw gh,V,Wm eQ now,ZX safe,Wm eQ nodes]
 row:w.ownsRow 0 52 3 V L.length (L.flatMap Ij)
 bh:∀x∈L,w.ownsRow 0 56 4 x.V x.t.bh.length (x.t.bh.flatMap SP)/\x.t.bh.length<=B/\∀o∈x.t.bh,True
 apart:∀(i j:Nat)(x y:Cu),L[i]? = Bs x->L[j]? = Bs y->i≠j->∀b,x.V.ownBlock=Bs b->y.V.ownBlock≠Bs b
def D9(g:Nat)(V:S2)(L:List Cu)(b:Nat):Prop:=b=g\/V.ownBlock=Bs b\/∃x∈L,x.V.ownBlock=Bs b
variable {gh:Nat}{L:List Cu}{now nodes:Int}{safe:Bool}
def Ce.fr(h:Ce w g gh V L now safe nodes B)(e:Fr S w w')(d:∀b,D9 g V L b->¬S b):Ce w' g gh V L now safe nodes B:=
 ⟨e.al h.al (d g (eR rfl)),e.own h.row (λb f=>d b (eS (eR f))),λx c=>⟨e.own (h.bh x c).1 (λb f=>d b (eS (eS ⟨x,c,f⟩))),(h.bh x c).2⟩,h.apart⟩
def Ce.lt(h:Ce w g gh V L now safe nodes B){b:Nat}(c:D9 g V L b):b<w.heap.size:=by obtain rfl|c|⟨x,d,c⟩:=c;exact h.al.lt;exact(h.row.lt b c).2;exact((h.bh x d).1.lt b c).2
structure NmI(w:D0)(r o k:Nat):Prop where
 var:w.cell? ⟨0,0,B0⟩=Bs (WK (Bs ⟨r,o,B0⟩) 4 k)
 aN:∀(q:Nat)(x:Sx),names[q]? = Bs x->w.cell? ⟨r,o+q,B0⟩=Bs (ZV ⟨x.toArray⟩)
 lt0:0<w.heap.size
 lt:r<w.heap.size
def NmI.fr{r o k:Nat}(h:NmI w r o k)(c:Fr S w w')(s:¬S 0)(e:¬S r):NmI w' r o k:=by
 have d:∀b,b<w.heap.size->¬S b->∀p,w'.cell? ⟨b,p,B0⟩=w.cell? ⟨b,p,B0⟩:=λb j hs p=>c.cell (p:=⟨b,p,B0⟩) j hs
 exact⟨by rw[d 0 h.lt0 s];exact h.var,λq x f=>by rw[d r h.lt e];exact h.aN q x f,VF h.lt0 c.size,VF h.lt c.size⟩
structure Dg(w:D0)(own:Ah)(P:Av)(F:Nat->Prop)(g r o k:Nat)(H:Hs)(T:List Au)(now:Int)(safe:Bool)(nodes:Int)(B:Nat):Prop where
 hi:HI w own P H
 ns:EN own
 st:∃V L,Ce w g P.g V L now safe nodes B/\L.map (·.t)=T/\∀b,D9 g V L b->F b
 nm:NmI w r o k
 o0:own 0=B0
 or_:own r=B0
 F0:∀b,F b->own b=B0/\b≠0/\b≠r
 Fl:∀b,F b->b<w.heap.size
structure Hh(w:D0)(own:Ah)(F:Nat->Prop)(w':D0)(own':Ah)(F':Nat->Prop):Prop where
 ext:Ext own own' w.heap.size
 fr:Fr (λb=>own b≠B0\/F b) w w'
 F:∀b,F' b->F b\/w.heap.size<=b
variable {w1 w2:D0}{own1 own2:Ah}{P':Av}{F F1 F2:Nat->Prop}{r o k:Nat}{T:List Au}
def Hh.refl(w:D0)(own:Ah)(F:Nat->Prop):Hh w own F w own F:=⟨Ext.refl _ _,Fr.refl _ _,λ_ h=>eR h⟩
def Hh.trans(h:Hh w own F w1 own1 F1)(k:Hh w1 own1 F1 w2 own2 F2):Hh w own F w2 own2 F2:=by refine⟨h.ext.trans k.ext h.fr.size,h.fr.trans' k.fr (λb c e=>?_),λb c=>?_⟩;obtain e|e:=e;exact eR (by rw[<- h.ext b c];exact e);obtain e|e:=h.F b e;exact eS e;omega;obtain e|e:=k.F b c;exact h.F b e;exact eS (VK h.fr.size e)
def Dg.bP{Z:Tg->Prop}(c:Dg w own P F g r o k H T now safe nodes B)(t:HI w1 own1 P' H')(f:HZ Z w own w1 own1)(hP:P'.g=P.g):Dg w1 own1 P' F g r o k H' T now safe nodes B/\Hh w own F w1 own1 F:=by
 have j:∀b,own b=B0->¬OS own Z b:=λb d e=>e.bR d
 have p:∀b,b<w.heap.size->own b=B0->own1 b=B0:=λb d e=>by rw[f.ext b d];exact e
 refine⟨⟨t,f.ey c.ns,?_,c.nm.fr f.fr (j 0 c.o0) (j r c.or_),p 0 c.nm.lt0 c.o0,p r c.nm.lt c.or_,λb d=>⟨p b (c.Fl b d) (c.F0 b d).1,(c.F0 b d).2⟩,λb d=>VF (c.Fl b d) f.fr.size⟩,f.ext,f.fr.mono (λb _ e=>eR e.bR),λ_ h=>eR h⟩;obtain⟨V,L,v,u,s⟩:=c.st;exact⟨V,L,by rw[hP];exact v.fr f.fr (λb d=>j b (c.F0 b (s b d)).1),u,s⟩
def Dg.dE(c:Dg w own P F g r o k H T now safe nodes B)(h:Cf P own H' w w1):∃own1,Dg w1 own1 P F g r o k H' T now safe nodes B/\Hh w own F w1 own1 F:=by obtain⟨own1,a,b⟩:=h;exact⟨own1,c.bP a b rfl⟩
def Dg.below(c:Dg w own P F g r o k H T now safe nodes B)(b:VI w.heap.size w w1):Dg w1 own P F g r o k H T now safe nodes B/\Hh w own F w1 own F:=
 c.bP (Z:=λ_=>True) (c.hi.below b) (HZ.below own b) rfl
def Dg.d8{T':List Au}{now':Int}{B':Nat}(c:Dg w own P F g r o k H T now safe nodes B)(t:Fr S w w1)(u:∀b,b<w.heap.size->S b->F b){L:List Cu}(hs:Ce w1 g P.g V L now' safe nodes B')(x:L.map (·.t)=T')(v:∀b,D9 g V L b->F b\/w.heap.size<=b) :
  Dg w1 own P (λb=>F b\/D9 g V L b) g r o k H T' now' safe nodes B'/\Hh w own F w1 own (λb=>F b\/D9 g V L b):=by
 have y:∀b,b<w.heap.size->¬F b->¬S b:=λb d h e=>h (u b d e)
 have f:Fr F w w1:=t.mono (λb d e=>u b d e);have j:∀b,w.heap.size<=b->own b=B0:=λb d=>c.hi.free d
 have s:¬F 0:=λe=>(c.F0 0 e).2.1 rfl
 have p:¬F r:=λe=>(c.F0 r e).2.2 rfl
 refine⟨⟨c.hi.fr0 f (λb d e=>d (c.F0 b e).1),c.ns,⟨V,L,hs,x,λb d=>eS d⟩,c.nm.fr f s p,c.o0,c.or_,λb d=>?_,λb d=>?_⟩,Ext.refl _ _,f.mono (λb _ e=>eS e),λb d=>?_⟩;have:F b\/w.heap.size<=b:=d.elim eR (v b);obtain e|e:=this;exact c.F0 b e;have:=c.nm.lt0;have:=c.nm.lt;exact⟨j b e,Z0,Z0⟩;obtain e|e:=d;exact VF (c.Fl b e) t.size;exact hs.lt e;obtain e|e:=d;exact eR e;exact v b e
def Sl:∀(M:List Cu)(i:Nat)(x:Cu)(V:S2)(ops:List Cv),M[i]? = Bs x->(M.flatMap Ij).set (i*3) V=(M.set i ⟨{x.t with bh:=ops},V⟩).flatMap Ij
 |[],i,x,V,ops,h=>by simp at h
 |y::M,0,x,V,ops,h=>by
  obtain rfl:y=x:=Z6 h;simp[Ij]
 |y::M,i+1,x,V,ops,h=>by
  have b:=Sl M i x V ops (Z6 h);have c:(i+1)*3=i*3+3:=by omega
  rw[c,XY,VH,VH,<- b];simp[Ij]
def Sk:∀(M:List Cu)(i:Nat)(x:Cu)(v:Int),M[i]? = Bs x->(M.flatMap Ij).set (i*3+2) (Wm eQ v)=(M.set i ⟨{x.t with a8:=v},x.V⟩).flatMap Ij
 |[],i,x,v,h=>by simp at h
 |y::M,0,x,v,h=>by
  obtain rfl:y=x:=Z6 h;simp[Ij]
 |y::M,i+1,x,v,h=>by
  have b:=Sk M i x v (Z6 h);have c:(i+1)*3+2=(i*3+2)+3:=by omega
  rw[c,XY,VH,VH,<- b];simp[Ij]
def Ce.cells(h:Ce w g gh V L now safe nodes B):w.cell? ⟨g,0,B0⟩=Bs (pw gh)/\w.cell? ⟨g,1,B0⟩=Bs V/\w.cell? ⟨g,2,B0⟩=Bs (Wm eQ now)/\w.cell? ⟨g,3,B0⟩=Bs (ZX safe)/\w.cell? ⟨g,4,B0⟩=Bs (Wm eQ nodes)/\g<w.heap.size:=by have f:=h.al.cell 0;have e:=h.al.cell 1;have d:=h.al.cell 2;have c:=h.al.cell 3;have b:=h.al.cell 4;simp only[NW,Ft,O0]at f e d c b;exact⟨f,e,d,c,b,h.al.lt⟩
def Ce.dM(h:Ce w g gh V L now safe nodes B)(v:Int):Ce (w.setCell ⟨g,2,B0⟩ (Wm eQ v)) g gh V L v safe nodes B/\Fr (λb=>b=g) w (w.setCell ⟨g,2,B0⟩ (Wm eQ v)):=by have d:=Fr.aL g w 2 (Wm eQ v);refine⟨⟨h.al.aZ 2 _,d.own h.row (λb f e=>Bh h.row h.al Z2 (by rw[f,e])),λx c=>⟨d.own (h.bh x c).1 (λb f e=>Bh (h.bh x c).1 h.al Z2 (by rw[f,e])),(h.bh x c).2⟩,h.apart⟩,d⟩
def Ha{L:List Cu}{x z:Cu}(v:L[i]? = Bs x)(h:∀(i j:Nat)(x y:Cu),L[i]? = Bs x->L[j]? = Bs y->i≠j->∀b,x.V.ownBlock=Bs b->y.V.ownBlock≠Bs b)
  (s:∀(j:Nat)(y:Cu),L[j]? = Bs y->j≠i->∀b,z.V.ownBlock=Bs b->y.V.ownBlock≠Bs b):∀(j k:Nat)(u y:Cu),(L.set i z)[j]? = Bs u->(L.set i z)[k]? = Bs y->j≠k->∀b,u.V.ownBlock=Bs b->y.V.ownBlock≠Bs b:=by
 intro j k u y d c e b p f;obtain⟨hl,_⟩:=ZC.1 v;rw[Yu]at d c;by_cases e1:i=j;subst e1;rw[Z8 rfl,Z8 hl]at d;rw[Z7 e]at c;injection d with d;subst d;exact s k y c (Ne.symm e) b p f;rw[Z7 e1]at d;by_cases t:i=k;subst t;rw[Z8 rfl,Z8 hl]at c;injection c with c;subst c;exact s j u d (Ne.symm e1) b f p;rw[Z7 t]at c;exact h j k u y d c e b p f
def qaw{α:Type}{L:List α}{x z y:α}(d:L[i]? = Bs x)(c:y∈L.set i z):y=z\/∃j,L[j]? = Bs y/\j≠i:=by obtain⟨j,b⟩:=List.getElem?_of_mem c;obtain⟨hl,_⟩:=ZC.1 d;rw[Yu]at b;by_cases e:i=j;subst e;rw[Z8 rfl,Z8 hl]at b;injection b with b;exact eR b.symm;rw[Z7 e]at b;exact eS ⟨j,b,Ne.symm e⟩
def Ce.dx(h:Ce w g gh V L now safe nodes B){d cap:Nat}{x:Cu}(A:L[i]? = Bs x)(S:V=WK (Bs ⟨d,0,B0⟩) L.length cap){o:Cv}(ho:True)(z:Am w w' x.V.ownBlock V'.ownBlock)
  (X:w'.ownsRow 0 56 4 V' (x.t.bh.length+1) (x.t.bh.flatMap SP++SP o)) :
  Ce (w'.setCell ⟨d,i*3,B0⟩ V') g gh V (L.set i ⟨{x.t with bh:=x.t.bh++[o]},V'⟩) now safe nodes (B+1)/\Fr (λb=>Bs b=x.V.ownBlock\/Bs b=V.ownBlock) w (w'.setCell ⟨d,i*3,B0⟩ V')/\
   ∀b,D9 g V (L.set i ⟨{x.t with bh:=x.t.bh++[o]},V'⟩) b->D9 g V L b\/w.heap.size<=b:=by
 obtain⟨hl,_⟩:=ZC.1 A;have G:=N2 A;have p:V.ownBlock=Bs d:=by rw[S];rfl
 have J:=h.bh x G;have f:w'.ownsRow 0 52 3 V L.length (L.flatMap Ij):=z.1.own h.row (λb c e=>EX h.row J.1 Z2 c e.symm);have D:=z.1.al h.al (λe=>Bh J.1 h.al Z2 e.symm);have R:d<w.heap.size:=(h.row.lt d p).2;have O:V'.ownBlock≠Bs d:=λe=>by
  obtain s|⟨b,s,c⟩:=z.2;exact EX h.row J.1 Z2 p (by rw[<- s];exact e);rw[s]at e;injection e with e;omega
 have t:=Fr.aL d w' (i*3) V';have Y:Fr (λb=>Bs b=x.V.ownBlock\/Bs b=V.ownBlock) w (w'.setCell ⟨d,i*3,B0⟩ V'):=(z.1.mono (λb _ e=>eR e)).trans' t (λb _ (e:b=d)=>eS (by rw[e,p]));refine⟨⟨?_,?_,λy E=>?_,?_⟩,Y,λb c=>?_⟩;exact t.al D (λe=>Bh h.row h.al Z2 (by rw[p];exact congrArg Bs e.symm));have:=f;rw[S]at this ⊢;rw[XU,<- Sl L i x V' (x.t.bh++[o]) A];exact(this.stored _ _).1
 ·obtain rfl|⟨j,I,e⟩:=qaw A E
  rotate_left
  have u:=N2 I;have v:∀b,y.V.ownBlock=Bs b->x.V.ownBlock≠Bs b:=λb c=>h.apart j i y x I A e b c
  have U:=z.1.own (h.bh y u).1 (λb c e=>v b c e.symm);exact⟨t.own U (λb c (e:b=d)=>EX U f Z2 c (by rw[p,e])),Z4 ((h.bh y u).2.1),(h.bh y u).2.2⟩;refine⟨?_,by have:=J.2.1;simp;omega,λq Z=>?_⟩;have:=t.own X (λb c (e:b=d)=>O (by rw[c,e]));simpa [VJ,Wq]using this;trivial
 refine Ha A h.apart (λj y I v b c=>?_);obtain s|⟨W,s,M⟩:=z.2;exact h.apart i j x y A I (Ne.symm v) b (by rw[<- s];exact c);intro K;have e3:W=b:=by
  have:V'.ownBlock=Bs b:=c;rw[s]at this;injection this
 have:=((h.bh y (N2 I)).1.lt b K).2;omega;obtain c|c|⟨y,E,c⟩:=c;exact eR (eR c);exact eR (eS (eR c));obtain E|rfl:=Y5 E;exact eR (eS (eS ⟨y,E,c⟩));obtain s|⟨W,s,M⟩:=z.2;exact eR (eS (eS ⟨x,G,by rw[<- s];exact c⟩));have c:V'.ownBlock=Bs b:=c;rw[s]at c;injection c with c;exact eS Z0
def Ce.setTo(h:Ce w g gh V L now safe nodes B){f cap:Nat}{x:Cu}(A:L[i]? = Bs x)(E:V=WK (Bs ⟨f,0,B0⟩) L.length cap)(v:Int) :
  Ce (w.setCell ⟨f,i*3+2,B0⟩ (Wm eQ v)) g gh V (L.set i ⟨{x.t with a8:=v},x.V⟩) now safe nodes B/\Fr (λb=>Bs b=V.ownBlock) w (w.setCell ⟨f,i*3+2,B0⟩ (Wm eQ v))/\
   ∀b,D9 g V (L.set i ⟨{x.t with a8:=v},x.V⟩) b->D9 g V L b:=by
 have p:=N2 A;have t:V.ownBlock=Bs f:=by rw[E];rfl
 have s:=Fr.aL f w (i*3+2) (Wm eQ v);have d:∀y∈L,(w.setCell ⟨f,i*3+2,B0⟩ (Wm eQ v)).ownsRow 0 56 4 y.V y.t.bh.length (y.t.bh.flatMap SP):=λy u=>s.own (h.bh y u).1 (λb c (e:b=f)=>EX (h.bh y u).1 h.row Z2 c (by rw[t,e]))
 refine⟨⟨?_,?_,λy u=>?_,?_⟩,s.mono (λb _ (e:b=f)=>by rw[e,t]),λb c=>?_⟩;exact s.al h.al (λe=>Bh h.row h.al Z2 (by rw[t];exact congrArg Bs e.symm));have:=h.row;rw[E]at this ⊢;rw[XU,<- Sk L i x v A];exact(this.stored _ _).1;obtain rfl|⟨j,z,e⟩:=qaw A u;exact⟨d x p,(h.bh x p).2⟩;exact⟨d y (N2 z),(h.bh y (N2 z)).2⟩;exact Ha A h.apart (λj y z D b c=>h.apart i j x y A z (Ne.symm D) b c);obtain c|c|⟨y,u,c⟩:=c;exact eR c;exact eS (eR c);obtain rfl|⟨j,z,e⟩:=qaw A u;exact eS (eS ⟨x,p,c⟩);exact eS (eS ⟨y,N2 z,c⟩)
def Ce.dK(h:Ce w g gh V L now safe nodes B){D:Int}(z:Am w w' V.ownBlock V'.ownBlock)
  (E:w'.ownsRow 0 52 3 V' (L.length+1) (L.flatMap Ij++[WK B0 0 0,Wm eQ D,Wm eQ (-1)])) :
  Ce (w'.setCell ⟨g,1,B0⟩ V') g gh V' (L++[⟨⟨[],D,-1⟩,WK B0 0 0⟩]) now safe nodes B/\Fr (λb=>Bs b=V.ownBlock\/b=g) w (w'.setCell ⟨g,1,B0⟩ V')/\
   ∀b,D9 g V' (L++[⟨⟨[],D,-1⟩,WK B0 0 0⟩]) b->D9 g V L b\/w.heap.size<=b:=by
 have d:=z.1.al h.al (λe=>Bh h.row h.al Z2 e.symm);have p:=Fr.aL g w' 1 V';have K:(WK B0 0 0).ownBlock=B0:=rfl;refine⟨⟨d.aZ 1 _,?_,λy f=>?_,?_⟩,(z.1.mono (λb _ e=>eR e)).trans' p (λb _ e=>eS e),λb c=>?_⟩;have:=p.own E (λb c (e:b=g)=>Bh E d Z2 (by rw[c,e]));rw[VJ,Wq];exact this;obtain f|f:=ZD.1 f;have G:=z.1.own (h.bh y f).1 (λb c e=>EX (h.bh y f).1 h.row Z2 c e.symm);exact⟨p.own G (λb c (e:b=g)=>Bh G d Z2 (by rw[c,e])),(h.bh y f).2⟩;rw[VU.1 f];exact⟨VW _ _ _ _,VG _,λo I=>(by cases I)⟩;intro i j x y v u A b c s;rw[List.getElem?_append]at v u;by_cases e1:i<L.length;rw[Z8 e1]at v;by_cases t:j<L.length;rw[Z8 t]at u;exact h.apart i j x y v u A b c s;rw[Z7 t]at u;have:=N2 u;rw[VU.1 this]at s;cases s;rw[Z7 e1]at v;have:=N2 v;rw[VU.1 this]at c;cases c;obtain c|c|⟨y,f,c⟩:=c;exact eR (eR c);obtain t|⟨M,t,J⟩:=z.2;exact eR (eS (eR (by rw[<- t];exact c)));rw[t]at c;injection c with c;exact eS Z0;obtain f|f:=ZD.1 f;exact eR (eS (eS ⟨y,f,c⟩));rw[VU.1 f]at c;cases c
structure ActX where
 aX:Int
 tx:Int
 a:Int
 val:ByteArray
def Bc(T:List Au)(tx:Int):Int:=if T.length=0 then 0 else((1+AZ tx T.length:Nat):Int)
def AT(a:Int):Sx:=names.getD (AZ a 4) []
def CY(v:ByteArray):ByteArray:=if 9<v.size then v.extract 0 9 else v
def Ch(T:List Au)(id:Int)(o:Cv):List Au:=match T[id.toNat-1]? with
 |some t=>if 0<id then T.set (id.toNat-1) {t with bh:=t.bh++[o]}else T
 |none=>T
def Hs.bZ(H:Hs)(safe:Bool)(s j:Nat):Hs:=if 1<((H.sh s).ai H.n).length\/safe=L1 then H.fail (10*s+j)else H
def opG(a:Int)(r:(Int×Sx×Bool)×Hs):Cv:=⟨1,⟨(AT a).toArray⟩,⟨r.1.2.1.toArray⟩,r.1.2.2⟩
def opP(x:ActX):Cv:=⟨x.aX,⟨(AT x.a).toArray⟩,CY x.val,L1⟩
def Ow(x:ActX):Pr:=⟨⟨(AT x.a).toArray⟩,CY x.val,x.aX == 3⟩
inductive Bf(safe:Bool)(nodes:Nat)(now:Int)(x:ActX)(H:Hs)(T:List Au):Hs->List Au->Prop where
 |a5 (h:x.aX=0) (h7:T.length<7):Bf safe nodes now x H T H.a5 (T++[⟨[],now,-1⟩])
 |full (h:x.aX=0) (h7:¬T.length<7):Bf safe nodes now x H T H T
 |get (h:x.aX=1) (he:(H.get (Bc T x.tx) (AT x.a)).1.1=0):Bf safe nodes now x H T (H.get (Bc T x.tx) (AT x.a)).2 (Ch T (Bc T x.tx) (opG x.a (H.get (Bc T x.tx) (AT x.a))))
 |getE (h:x.aX=1) (he:(H.get (Bc T x.tx) (AT x.a)).1.1≠0):Bf safe nodes now x H T (H.get (Bc T x.tx) (AT x.a)).2 T
 |put (h:x.aX=2\/x.aX=3) (he:(H.put (Bc T x.tx) (Ow x)).1=0):Bf safe nodes now x H T (H.put (Bc T x.tx) (Ow x)).2 (Ch T (Bc T x.tx) (opP x))
 |putE (h:x.aX=2\/x.aX=3) (he:(H.put (Bc T x.tx) (Ow x)).1≠0):Bf safe nodes now x H T (H.put (Bc T x.tx) (Ow x)).2 T
 |ends (h:x.aX=4) {e:Int} {H':Hs} (r:FQ H (Bc T x.tx) e H'):Bf safe nodes now x H T H' T
 |drop (h:x.aX=5) (h4:x.a.tmod 4=0):Bf safe nodes now x H T (H.drop (Bc T x.tx)).2 T
 |dropE (h:x.aX=5) (h4:x.a.tmod 4≠0):Bf safe nodes now x H T H T
 |deliver (h:x.aX=6) (hn:0<H.net.l.length) {H':Hs} (r:Rv H (AZ x.a H.net.l.length) H'):Bf safe nodes now x H T H' T
 |lose (h:x.aX=7) (hn:0<H.net.l.length):Bf safe nodes now x H T (H.lose (AZ x.a H.net.l.length)) T
 |twice (h:x.aX=8) (hn:0<H.net.l.length):Bf safe nodes now x H T (H.twice (AZ x.a H.net.l.length)) T
 |none (h:6<=x.aX/\x.aX<=8) (hn:¬0<H.net.l.length):Bf safe nodes now x H T H T
 |aD (h:x.aX=9) {H':Hs} (r:EA H H'):Bf safe nodes now x H T H' T
 |fail (h:x.aX=10):Bf safe nodes now x H T (H.bZ safe (AZ x.a 3) (AZ x.tx nodes)) T
 |fix (h:x.aX=11) {H':Hs} (r:FO H H'):Bf safe nodes now x H T H' T
 |calm (h:x.aX=12) {H':Hs} (r:Cy 4 H H'):Bf safe nodes now x H T H' T
 |other (h:x.aX<0\/12<x.aX):Bf safe nodes now x H T H T
def DI(H:Hs)(now:Int)(i:Nat)(t:Au):Au:=if t.a8<0/\H.aa (i+1)=3 then {t with a8:=now}else t
def Bq(H:Hs)(now:Int)(T:List Au):List Au:=T.mapIdx (DI H now)
def MI(a:Int):AT a∈names:=by have h:=On a (n:=4) Z0;unfold AT;rw[List.getD_eq_getElem?_getD];have:AZ a 4<names.length:=h;rw[K0 this];exact Wy this
def keyT_at(a:Int):names[AZ a 4]? = Bs (AT a):=by have h:AZ a 4<names.length:=On a (n:=4) Z0;unfold AT;rw[List.getD_eq_getElem?_getD,K0 h];rfl
def qbh(v:ByteArray):(CY v).size<=9:=by unfold CY;split;rw[ByteArray.size_extract];omega;omega
def TG(T:List Au)(tx:Int):0<=Bc T tx/\Bc T tx<=T.length:=by unfold Bc;split;omega;have:=On tx (n:=T.length) Z0;omega
def TK(b:Wf H)(d:H.c=3)(id:Int){k:Sx}(c:k∈names):Sm H (H.get id k).2:=by have h:=(P9 (id:=id) (mode:=1) b d c (by unfold Bt;omega)).sm;unfold Hs.get;simp only;split;exact h;split<;>exact h
def SY(b:Wf H)(d:H.c=3)(id:Int)(c:sx p.key∈names):Sm H (H.put id p).2:=by unfold Hs.put;split;exact .refl _;have h:=(P9 (id:=id) (mode:=2) b d c (by unfold Bt;omega)).sm;simp only;split;exact h;split;exact⟨h.n,h.c,h.m⟩;exact h
def fix_sm{B:Int}(h:Ac H B)(c:B<=999000)(r:FO H H'):Sm H H':=by
 have d:=h.aT (s:=0) Z0 Z0;have p:=d.1.aT (s:=1) Z0 Z0;have b:∀{H:Hs} {B:Int} (s:Nat),s<3->Ac H B->B<=1000000->Sm H (H.aT s):=λ{H B} s hs h c=>by
  unfold Hs.aT;split;exact .refl _;obtain⟨_,_,_,f⟩:=h.fix c hs;exact⟨f.n,f.c,f.m⟩
 have g:=qbb r h c;have k0:=b 0 Z0 h Z0;have j:=b 1 Z0 d.1 Z0;have e:=b 2 Z0 p.1 Z0;exact((k0.trans j).trans e).trans g.sm
def Hc(T:List Au)(id:Int)(o:Cv):(Ch T id o).length=T.length:=by unfold Ch;split;split;exact XU;rfl;rfl
def Bf.cnt{safe:Bool}{nodes:Nat}{now:Int}{x:ActX}{T T':List Au}{B:Int}(h:Bf safe nodes now x H T H' T')(f:Ac H B)(t:B<=999000)(p:H.m=T.length)(u:T.length<=7):H'.m=T'.length/\T'.length<=7/\H'.n=H.n:=by
 have c:=f.wf;have d:=f.c;have b:∀{H2:Hs} {j:List Au},Sm H H2->j.length=T.length->H2.m=j.length/\j.length<=7/\H2.n=H.n:=λs e=>⟨by rw[s.m,e];exact p,Z0,s.n⟩
 cases h with
 |a5 _ v=>exact⟨by show H.m+1=_;rw[p];simp,by simp;omega,rfl⟩
 |full|none|dropE|other=>exact b (.refl _) rfl
 |get=>exact b (TK c d _ (MI _)) (Hc _ _ _)
 |getE=>exact b (TK c d _ (MI _)) rfl
 |put=>exact b (SY c d _ (MI _)) (Hc _ _ _)
 |putE=>exact b (SY c d _ (MI _)) rfl
 |ends _ r=>
  refine b ?_ rfl;cases r with
  |missing=>exact .refl _
  |aa=>exact .refl _
  |waits=>exact .refl _
  |ends h z y r=>
   have:=(q2g r (c.aB Z0 Z0) d).sm;exact⟨this.n,this.c,this.m⟩
 |drop=>exact b (G6 _).sm rfl
 |deliver _ _ r=>exact b (q66 r c d).sm rfl
 |lose=>exact b ⟨rfl,rfl,rfl⟩ rfl
 |twice=>
  refine b ?_ rfl;unfold Hs.twice;split<;>exact⟨rfl,rfl,rfl⟩
 |aD _ r=>exact b (qa0 r c d).sm rfl
 |fail=>
  refine b ?_ rfl;unfold Hs.bZ Hs.fail;split;split<;>exact⟨rfl,rfl,rfl⟩;exact .refl _
 |fix _ r=>exact b (fix_sm f t r) rfl
 |calm _ r=>exact b (q89 r c d).sm rfl
def QC(H:Hs)(now:Int)(T:List Au):(Bq H now T).length=T.length:=by unfold Bq;simp
def SyP(w:D0)(own:Ah)(F:Nat->Prop)(g r o k:Nat)(safe:Bool)(nodes:Int)(R:Hs->List Au->Int->Nat->Prop)(e:WE)(w':D0):Prop:=
 e=ZY (ZZ #[])/\∃own' P' b H' T' now' B',Dg w' own' P' b g r o k H' T' now' safe nodes B'/\Hh w own F w' own' b/\R H' T' now' B'
def Dg.cells(c:Dg w own P F g r o k H T now safe nodes B):∃V L,Ce w g P.g V L now safe nodes B/\L.map (·.t)=T/\(∀b,D9 g V L b->F b)/\w.cell? ⟨g,0,B0⟩=Bs (pw P.g)/\w.cell? ⟨g,1,B0⟩=Bs V/\w.cell? ⟨g,2,B0⟩=Bs (Wm eQ now)/\w.cell? ⟨g,3,B0⟩=Bs (ZX safe)/\w.cell? ⟨g,4,B0⟩=Bs (Wm eQ nodes)/\g<w.heap.size:=by obtain⟨V,L,d,f,e⟩:=c.st;exact⟨V,L,d,f,e,d.cells⟩
def Q4(c:Dg w own P F g r o k H T now safe nodes B)(I:Wf H)(hc:H.c=3)(hs:s<3)(hj:j<10):VX Tryz.prog 32 #[pw g,Wm eQ s,Wm eQ j] w
  (SyP w own F g r o k safe nodes λH' T' now' B'=>H'=H.bZ safe s j/\T'=T/\now'=now/\B'=B):=by
 obtain⟨V,L,K,hT,hF,c0,c1,c2,c3,c4,J⟩:=c.cells;have S:=LH (Ts c.hi I hc hs);have HC:=LH c;have R:=LH I;have a2:((H.sh s).ai H.n).length<=4:=Z5 (q2n (H.sh s) H.n) I.n4;clear c K hT hF I c1 c2 c4;unfold UA Ph at S;unfold pw at *;go_enter Tryz.func32,Tryz.ntmps32;go_wp2_with fail;refine S.o.mono ?_;rintro e w1 ⟨V1,z,rfl,Y,b⟩;obtain⟨A1,k1,rfl,_,_⟩:=AM b.1;obtain⟨v,A⟩:=HC.o.below b.2.2;have d3:=(b.2.2.cell (p:=⟨g,3,B0⟩) J).trans c3;have d0:=(b.2.2.cell (p:=⟨g,0,B0⟩) J).trans c0;have a3:=VF J b.2.2.size;have G:=LH v;have D:=LH A;have x:=LH (TW v.hi R.o hc (10*(s:Int)+j));clear v A b c3 c0 J S HC;have a1:z.length<=4:=by omega
 by_cases y:1<((H.sh s).ai H.n).length\/safe=L1
 ·have d:H.bZ safe s j=H.fail (10*(s:Int)+j):=Z8 y;have U:=LH d;have X:IntKind.i64.wrap (10*(s:Int))=10*(s:Int):=V4 _ ⟨Z0,Z0⟩;have a0:IntKind.i64.wrap (10*(s:Int)+j)=10*(s:Int)+j:=V4 _ ⟨Z0,Z0⟩;unfold FP pw at x;have f:∀W,Cf P own (H.fail (10*(s:Int)+j)) w1 W->SyP w own F g r o k safe nodes (λH' T' now' B'=>H'=H.bZ safe s j/\T'=T/\now'=now/\B'=B) (ZY (ZZ #[])) W:=λW u=>by
   obtain⟨own2,O,M⟩:=G.o.dE u;exact⟨rfl,own2,P,F,_,T,now,B,O,D.o.trans M,U.o.symm,rfl,rfl,rfl⟩
  have h:=LH f;clear d f;by_cases h1:1<z.length
  ·have Z:decide ((1:Int)<z.length)=VD:=ZA Z0;go_wp2_with fail;refine x.o.mono ?_;rintro e w2 ⟨rfl,u⟩;have E:=LH (h.o w2 u);clear u;go_wp2_with fail
   go_end0
   exact E.o
  have Z:decide ((1:Int)<z.length)=L1:=Z9 Z0;have t:safe=L1:=y.elim (λe=>ZB e Z0) λx=>x;subst t;go_wp2_with fail;refine x.o.mono ?_;rintro e w2 ⟨rfl,u⟩;have E:=LH (h.o w2 u);clear u;go_wp2_with fail
  go_end0
  exact E.o
 have d:H.bZ safe s j=H:=Z7 y;have h1:¬1<z.length:=λe=>y (eR Z0)
 have Z:decide ((1:Int)<z.length)=L1:=Z9 Z0;have t:safe=VD:=by cases safe with
  |true=>rfl
  |false=>exact ZB (eS rfl) y
 have E:=LH (show SyP w own F g r o k safe nodes (λH' T' now' B'=>H'=H.bZ safe s j/\T'=T/\now'=now/\B'=B) (ZY (ZZ #[])) w1 from⟨rfl,own,P,F,H,T,now,B,G.o,D.o,d.symm,rfl,rfl,rfl⟩);clear d y;subst t;go_wp2_with fail
 go_end0
 exact E.o
def N0(x:ActX):S2:=.agg #[Wm eQ x.aX,Wm eQ x.tx,Wm eQ x.a,ZV x.val]
def Fa(x:ActX):Array S2:=#[Wm eQ x.aX,Wm eQ x.tx,Wm eQ x.a,ZV x.val]
def Es(w:D0)(own:Ah)(P:Av)(F:Nat->Prop)(g r o k:Nat)(H:Hs)(T:List Au)(now:Int)(safe:Bool)(nodes:Int)(B b:Nat)(x:ActX)(W:D0):Prop:=
 ∃c,Dg W own P c g r o k H T now safe nodes B/\Hh w own F W own c/\Ae W b 34 (Fa x)/\own b=B0/\¬c b
def DA(w:D0)(own:Ah)(F:Nat->Prop)(g r o k:Nat)(H:Hs)(T:List Au)(now:Int)(safe:Bool)(nodes:Nat)(B:Nat)(x:ActX)(W:D0):Prop:=
 ∃own' P' b H' T' B',Dg W own' P' b g r o k H' T' now safe nodes B'/\Hh w own F W own' b/\Bf safe nodes now x H T H' T'/\B'<=B+1
section
variable {nodes:Nat}
def Es.below{nodes:Int}{j:Nat}{x:ActX}{W p:D0}(h:Es w own P F g r o k H T now safe nodes B j x W)(f:VI W.heap.size W p):Es w own P F g r o k H T now safe nodes B j x p:=by obtain⟨u,a,b,c,d,e⟩:=h;obtain⟨t,s⟩:=a.below f;exact⟨u,t,b.trans s,(Ef f).al c (λhs=>Z4 c.lt),d,e⟩
def Es.start{nodes:Int}(c:Dg w own P F g r o k H T now safe nodes B)(x:ActX)(v:Int):Es w own P F g r o k H T v safe nodes B w.heap.size x ((w.setCell ⟨g,2,B0⟩ (Wm eQ v)).alloc (eT (Fa x) 34)):=by
 obtain⟨V,L,y,u,h⟩:=c.st;obtain⟨t,s⟩:=y.dM v;obtain⟨A,p⟩:=c.d8 s (λb d e=>h b (eR e)) t u (λb d=>eR (h b d));have f:(w.setCell ⟨g,2,B0⟩ (Wm eQ v)).heap.size=w.heap.size:=by simp
 obtain⟨z,j⟩:=A.below ((VC (w.setCell ⟨g,2,B0⟩ (Wm eQ v)).heap.size (w.setCell ⟨g,2,B0⟩ (Wm eQ v))).alloc (Hi _) (eT (Fa x) 34));have d:=Ae.b4 (w.setCell ⟨g,2,B0⟩ (Wm eQ v)) 34 (Fa x);rw[f]at d;refine⟨_,z,p.trans j,d,c.hi.free (Hi _),λe=>?_⟩;have e:F w.heap.size:=e.elim (λx=>x) (h _);exact Nat.lt_irrefl _ (c.Fl _ e)
def acts(W:D0)(b:Nat)(x:ActX)(h:Ae W b 34 (Fa x)):W.cell? ⟨b,0,B0⟩=Bs (Wm eQ x.aX)/\W.cell? ⟨b,1,B0⟩=Bs (Wm eQ x.tx)/\W.cell? ⟨b,2,B0⟩=Bs (Wm eQ x.a)/\W.cell? ⟨b,3,B0⟩=Bs (ZV x.val)/\b<W.heap.size:=by have f:=h.cell 0;have e:=h.cell 1;have d:=h.cell 2;have c:=h.cell 3;unfold Fa at f e d c;simp only[NW,Ft,O0]at f e d c;exact⟨f,e,d,c,h.lt⟩
def idT_0{T:List Au}(h:T.length=0):Bc T tx=0:=Z8 h
def idT_1{T:List Au}(h:T.length≠0):Bc T tx=1+(AZ tx T.length:Int):=by unfold Bc;rw[Z7 h];omega
end
def lkF:List S2->Nat->S2
 |[],_=>Yl
 |v::_,0=>v
 |_::l,k+1=>lkF l k
def ET(s0 s1 s3 s4 s5:S2)(u:Nat->S2):Act:={tmps:=#[s0,s1,Yl,s3,s4,s5,u 6,u 7,u 8,u 9,u 10,u 11,u 12,u 13,Yl,u 15,u 16,u 17,u 18,u 19,u 20,u 21,u 22,u 23,u 24,u 25,u 26,u 27,u 28,u 29,u 30,u 31,u 32,u 33,u 34,u 35,u 36,u 37,u 38,u 39,u 40,u 41,u 42,u 43,u 44,u 45,u 46,u 47,u 48,u 49,u 50,u 51,u 52,u 53,u 54,u 55,u 56,u 57,u 58,u 59,u 60,u 61,u 62,u 63,u 64,u 65,u 66,u 67,u 68,u 69,u 70,u 71,u 72,u 73,u 74,u 75,u 76,u 77,u 78,u 79,u 80,u 81,u 82,u 83,u 84,u 85,u 86,u 87,u 88,u 89,u 90,u 91,u 92,u 93,u 94,u 95,u 96,u 97,u 98,u 99,u 100,u 101,u 102,u 103,u 104,u 105,u 106,u 107,u 108,u 109,u 110,u 111,u 112,u 113,u 114,u 115,u 116,u 117,u 118,u 119,u 120,u 121,u 122,u 123,u 124,u 125,u 126,u 127,u 128,u 129,u 130,u 131,u 132,u 133,u 134,u 135,u 136,u 137,u 138,u 139,u 140,u 141,u 142,u 143,u 144,u 145,u 146,u 147,u 148,u 149,u 150,u 151,u 152,u 153,u 154,u 155,u 156,u 157,u 158,u 159,u 160,u 161,u 162,u 163,u 164,u 165,u 166,u 167,u 168,u 169,u 170,u 171,u 172,u 173,u 174,u 175,u 176,u 177,u 178,u 179,u 180,u 181,u 182,u 183,u 184,u 185,u 186,u 187,u 188,u 189,u 190,u 191,u 192,u 193,u 194,u 195,u 196,u 197,u 198,u 199,u 200,u 201,u 202,u 203,u 204,u 205,u 206,u 207,u 208,u 209,u 210,u 211,u 212,u 213,u 214,u 215,u 216,u 217,u 218,u 219,u 220,u 221,u 222,u 223,u 224,u 225,u 226,u 227,u 228,u 229,u 230,u 231,u 232,u 233,u 234,u 235,u 236,u 237,u 238,u 239,u 240,u 241,u 242,u 243,u 244,u 245,u 246,u 247,u 248,u 249,u 250,u 251,u 252,u 253,u 254,u 255,u 256,u 257,u 258,u 259,u 260,u 261,u 262,u 263,u 264,u 265,u 266,u 267,u 268,u 269,u 270,u 271,u 272,u 273,u 274,u 275,u 276,u 277,u 278,u 279,u 280,u 281,u 282,u 283,u 284,u 285,u 286,u 287,u 288,u 289,u 290,u 291,u 292,u 293,u 294,u 295,u 296,u 297,u 298,u 299,u 300,u 301,u 302,u 303,u 304,u 305,u 306,u 307,u 308,u 309,u 310,u 311,u 312,u 313,u 314,u 315,u 316,u 317,u 318],defers:=[]}
def Aw(s0 s1 s3 s4 s5:S2)(a:Act):Prop:=∃u,a=ET s0 s1 s3 s4 s5 u
def Aw.mk'(t:Array S2)(h:({tmps:=t,defers:=[]} : Act)=ET s0 s1 V' V s5 (λk=>lkF t.toList k)):Aw s0 s1 V' V s5 {tmps:=t,defers:=[]}:=⟨_,h⟩
def cL:Code->Code | .seq a _=>a|c=>c
def cR:Code->Code | .seq _ b=>b|c=>c
def cT:Code->Code | .cond _ a _=>a|c=>c
def cE:Code->Code | .cond _ _ b=>b|c=>c
def cB:Code->Code | .block _ b=>b|c=>c
noncomputable def Ip:Code:=(Tryz.f10.body).getD .skip
def Gz:Code:=cR (cR (cR (cR (cR Ip))))
def BO:Code:=cR (cL Gz)
def FL:Code:=cB BO
def GE:Code:=cE (cR FL)
def FA:Code:=cE (cR GE)
def GD:Code:=cE (cR FA)
def FK:Code:=cE (cR GD)
def EY:Code:=cE (cR FK)
def GC:Code:=cE (cR EY)
def CW:Code:=cE (cR GC)
def CV:Code:=cE (cR CW)
def C6:Code:=cE (cR CV)
def wy(c:Code):Code:=cT (cR c)
section
variable {w w':D0}{own own':Ah}{P:Av}{F:Nat->Prop}{g r o k:Nat}{H:Hs}{T:List Au}{now:Int}{nodes:Nat}{safe:Bool}{B:Nat}
def Vi{x:ActX}(J:Es w own P F g r o k H T now safe nodes B i x W)(s:Ac H U)(a1:U<=999000)(hx:x.aX=4)
  (h0:Aw (pw g) s1 (pw i) (Wm eQ (Bc T x.tx)) s5 M) (K:∀O R,Aw (pw g) s1 (pw i) (Wm eQ (Bc T x.tx)) s5 O->DA w own F g r o k H T now safe nodes B x R->Q .normal O R):Yq Tryz.prog (wy GD) Q M W:=by
 have a2:=LH J;obtain⟨F2,b,h,p,t,A⟩:=J;obtain⟨V2,L2,d,v,z,c0,c1,c2,_,c4,gl⟩:=b.cells;obtain⟨x0,Y,x2,X,xl⟩:=acts _ _ _ p;have I:=LH b;have G:=LH h;have HA:=LH s;have HQ:=LH K;have S:=LH (IP b.hi s.wf s.c (Bc T x.tx));clear x0 Y x2 X c1 c2 c4;obtain⟨u,rfl⟩:=h0;clear b h p t A K s d v z;unfold pw ET at *;simp only[wy,C6,CV,CW,GC,EY,FK,GD,FA,GE,FL,BO,Gz,Ip,cL,cR,cT,cE,cB,Tryz.f10,Xl];go_wp2_with fail;refine S.o.mono ?_;rintro e Z ⟨er,H3,rfl,D,y⟩;obtain⟨c,j,f⟩:=I.o.dE y;have HX:=LH (show DA w own F g r o k H T now safe nodes B x Z from⟨c,P,F2,H3,T,B,j,G.o.trans f,.ends hx D,WX _⟩);clear j f S;go_wp2_with fail;exact HQ.o _ _ (Aw.mk' _ rfl) HX.o
def RV{x:ActX}(J:Es w own P F g r o k H T now safe nodes B i x W)(s:Ac H U)(a1:U<=999000)(hx:x.aX=9)
  (h0:Aw (pw g) s1 (pw i) (Wm eQ (Bc T x.tx)) s5 M) (K:∀O R,Aw (pw g) s1 (pw i) (Wm eQ (Bc T x.tx)) s5 O->DA w own F g r o k H T now safe nodes B x R->Q .normal O R):Yq Tryz.prog (wy GC) Q M W:=by
 have a2:=LH J;obtain⟨F2,b,h,p,t,A⟩:=J;obtain⟨V2,L2,d,v,z,c0,c1,c2,_,c4,gl⟩:=b.cells;obtain⟨x0,Y,x2,X,xl⟩:=acts _ _ _ p;have I:=LH b;have G:=LH h;have HA:=LH s;have HQ:=LH K;have S:=LH (GY b.hi s.wf s.c);clear x0 Y x2 X c1 c2 c4;obtain⟨u,rfl⟩:=h0;clear b h p t A K s d v z;unfold pw ET at *;simp only[wy,C6,CV,CW,GC,EY,FK,GD,FA,GE,FL,BO,Gz,Ip,cL,cR,cT,cE,cB,Tryz.f10,Xl];go_wp2_with fail;refine S.o.mono ?_;rintro e Z ⟨rfl,H3,D,y⟩;obtain⟨c,j,f⟩:=I.o.dE y;have HX:=LH (show DA w own F g r o k H T now safe nodes B x Z from⟨c,P,F2,H3,T,B,j,G.o.trans f,.aD hx D,WX _⟩);clear j f S;go_wp2_with fail;exact HQ.o _ _ (Aw.mk' _ rfl) HX.o
def Vh{X:Int}{x:ActX}{O:Act}(K:Es w own P F g r o k H T now safe nodes B i x W)(t:Ac H X)(E:X<=999000)(hx:x.aX=11)
  (h0:Aw (pw g) s1 (pw i) (Wm eQ (Bc T x.tx)) s5 O) (M:∀R S,Aw (pw g) s1 (pw i) (Wm eQ (Bc T x.tx)) s5 R->DA w own F g r o k H T now safe nodes B x S->Q .normal R S):Yq Tryz.prog (wy CV) Q O W:=by
 have a1:=LH K;obtain⟨F2,b,h,p,s,A⟩:=K;obtain⟨V2,L2,d,v,z,c0,c1,c2,_,c4,gl⟩:=b.cells;obtain⟨x0,Z,x2,Y,xl⟩:=acts _ _ _ p;have J:=LH b;have I:=LH h;have HA:=LH t;have HQ:=LH M;have U:=LH (QR b.hi t E b.ns);clear x0 Z x2 Y c1 c2 c4;obtain⟨u,rfl⟩:=h0;clear b h p s A M t d v z;unfold pw ET at *;simp only[wy,C6,CV,CW,GC,EY,FK,GD,FA,GE,FL,BO,Gz,Ip,cL,cR,cT,cE,cB,Tryz.f10,Xl];go_wp2_with fail;refine U.o.mono ?_;rintro e w3 ⟨rfl,H3,D,y⟩;obtain⟨c,j,f⟩:=J.o.dE y;have HX:=LH (show DA w own F g r o k H T now safe nodes B x w3 from⟨c,P,F2,H3,T,B,j,I.o.trans f,.fix hx D,WX _⟩);clear j f U;go_wp2_with fail;exact HQ.o _ _ (Aw.mk' _ rfl) HX.o
def RZ{x:ActX}(J:Es w own P F g r o k H T now safe nodes B i x W)(s:Ac H U)(a1:U<=999000)(hx:x.aX=12)
  (h0:Aw (pw g) s1 (pw i) (Wm eQ (Bc T x.tx)) s5 M) (K:∀O R,Aw (pw g) s1 (pw i) (Wm eQ (Bc T x.tx)) s5 O->DA w own F g r o k H T now safe nodes B x R->Q .normal O R):Yq Tryz.prog (wy C6) Q M W:=by
 have a2:=LH J;obtain⟨F2,b,h,p,t,A⟩:=J;obtain⟨V2,L2,d,v,z,c0,c1,c2,_,c4,gl⟩:=b.cells;obtain⟨x0,Y,x2,X,xl⟩:=acts _ _ _ p;have I:=LH b;have G:=LH h;have HA:=LH s;have HQ:=LH K;have S:=LH (qe5 b.hi s.wf s.c);clear x0 Y x2 X c1 c2 c4;obtain⟨u,rfl⟩:=h0;clear b h p t A K s d v z;unfold pw ET at *;simp only[wy,C6,CV,CW,GC,EY,FK,GD,FA,GE,FL,BO,Gz,Ip,cL,cR,cT,cE,cB,Tryz.f10,Xl];go_wp2_with fail;refine S.o.mono ?_;rintro e Z ⟨rfl,H3,D,y,_,_⟩;obtain⟨c,j,f⟩:=I.o.dE y;have HX:=LH (show DA w own F g r o k H T now safe nodes B x Z from⟨c,P,F2,H3,T,B,j,G.o.trans f,.calm hx D,WX _⟩);clear j f S;go_wp2_with fail;exact HQ.o _ _ (Aw.mk' _ rfl) HX.o
def Px{D:Nat}{x:ActX}{O:Act}(J:Es w own P F g r o k H T now safe nodes B D x W)(s:Ac H U)(a3:U<=999000)(hx:x.aX=5)(M:x.a.tmod 4=0)
  (h0:Aw (pw g) s1 (pw D) (Wm eQ (Bc T x.tx)) s5 O) (K:∀R S,Aw (pw g) s1 (pw D) (Wm eQ (Bc T x.tx)) s5 R->DA w own F g r o k H T now safe nodes B x S->Q .normal R S):Yq Tryz.prog (wy FK) Q O W:=by
 have a4:=LH J;obtain⟨F2,b,h,p,t,A⟩:=J;obtain⟨V2,L2,d,v,z,c0,c1,c2,_,c4,gl⟩:=b.cells;obtain⟨x0,Y,x2,X,xl⟩:=acts _ _ _ p;have I:=LH b;have E:=LH h;have HA:=LH s;have HQ:=LH K;have G:=LH (Lj b.hi s.wf s.c (Bc T x.tx));have a1:IntKind.i64.wrap (x.a.tmod 4)=x.a.tmod 4:=V4 _ (by have:=Int.tmod_lt_of_pos x.a (show(0:Int)<4 by omega);have:=Int.lt_tmod_of_pos x.a (show(0:Int)<4 by omega);constructor<;>omega);have a2:(x.a.tmod 4 == 0)=VD:=Z6 M;clear x0 Y X c1 c2 c4;unfold FP at G;obtain⟨u,rfl⟩:=h0;clear b h p t A K s d v z;unfold pw ET at *;simp only[wy,C6,CV,CW,GC,EY,FK,GD,FA,GE,FL,BO,Gz,Ip,cL,cR,cT,cE,cB,Tryz.f10,Xl];go_wp2_with fail;refine G.o.mono ?_;rintro e Z ⟨rfl,y⟩;obtain⟨c,j,f⟩:=I.o.dE y;have HX:=LH (show DA w own F g r o k H T now safe nodes B x Z from⟨c,P,F2,_,T,B,j,E.o.trans f,.drop hx M,WX _⟩);clear j f G;go_wp2_with fail;exact HQ.o _ _ (Aw.mk' _ rfl) HX.o
def Pw{J:Int}{x:ActX}{E:Act}(y:Es w own P F g r o k H T now safe nodes B s x W)(z:Ac H J)(U:J<=999000)(O:x.aX=5)(D:x.a.tmod 4≠0)
  (X:Aw (pw g) s1 (pw s) (Wm eQ (Bc T x.tx)) s5 E) (A:∀G I,Aw (pw g) s1 (pw s) (Wm eQ (Bc T x.tx)) s5 G->DA w own F g r o k H T now safe nodes B x I->Q .normal G I):Yq Tryz.prog (wy FK) Q E W:=by
 have a1:=LH y;obtain⟨F2,b,d,e,f,p⟩:=y;obtain⟨V2,L2,c,h,j,c0,c1,Z,_,Y,gl⟩:=b.cells;obtain⟨x0,M,x2,K,xl⟩:=acts _ _ _ e;have v:=LH b;have t:=LH d;have HA:=LH z;have HQ:=LH A;have R:IntKind.i64.wrap (x.a.tmod 4)=x.a.tmod 4:=V4 _ (by have:=Int.tmod_lt_of_pos x.a (show(0:Int)<4 by omega);have:=Int.lt_tmod_of_pos x.a (show(0:Int)<4 by omega);constructor<;>omega);have S:(x.a.tmod 4 == 0)=L1:=Z6 D;clear x0 M K c1 Z Y;obtain⟨u,rfl⟩:=X;clear b d e f p A z c h j;unfold pw ET at *;simp only[wy,C6,CV,CW,GC,EY,FK,GD,FA,GE,FL,BO,Gz,Ip,cL,cR,cT,cE,cB,Tryz.f10,Xl];have HX:=LH (show DA w own F g r o k H T now safe nodes B x W from⟨own,P,F2,_,T,B,v.o,t.o,.dropE O D,WX _⟩);go_wp2_with fail;exact HQ.o _ _ (Aw.mk' _ rfl) HX.o
def Jr{x:ActX}{X:Act}(S:Es w own P F g r o k H T now safe nodes B i x W)(v:Ac H Bd)(a3:Bd<=999000)(R:x.aX=6)(t:0<H.net.l.length)
  (h0:Aw (pw g) s1 (pw i) (Wm eQ (Bc T x.tx)) s5 X) (U:∀Y Z,Aw (pw g) s1 (pw i) (Wm eQ (Bc T x.tx)) s5 Y->DA w own F g r o k H T now safe nodes B x Z->Q .normal Y Z):Yq Tryz.prog (wy EY) Q X W:=by
 have a4:=LH S;obtain⟨F2,b,j,s,y,G⟩:=S;obtain⟨V2,L2,d,A,E,c0,c1,c2,_,c4,gl⟩:=b.cells;obtain⟨x0,x1,x2,x3,xl⟩:=acts _ _ _ s;have O:=LH b;have K:=LH j;have HA:=LH v;have HQ:=LH U;have HM:=LH (q82 b.hi);have z:H.net.l.length<=200:=b.hi.d3;have M:=LH (q4j x.a H.net.l.length t Z0 W);have f:=On x.a (n:=H.net.l.length) t;have HE:=LH (qbg b.hi v.wf v.c f);rw[R]at x0;clear x1 x3 c1 c2 c4 f;unfold pw at HM;obtain⟨u,rfl⟩:=h0;clear b j s y G U v d A E;unfold pw ET at *;simp only[wy,C6,CV,CW,GC,EY,FK,GD,FA,GE,FL,BO,Gz,Ip,cL,cR,cT,cE,cB,Tryz.f10,Xl];have a2:decide ((0:Int)<H.net.l.length)=VD:=ZA Z0;have a1:decide (0<H.net.l.length)=VD:=ZA t;go_wp2_with fail;refine HM.o.mono ?_;rintro e w2 ⟨rfl,rfl⟩;go_wp2_with fail;refine M.o.mono ?_;rintro e w2 ⟨rfl,rfl⟩;go_wp2_with fail;refine HE.o.mono ?_;rintro e w3 ⟨rfl,H3,I,D⟩;obtain⟨c,p,h⟩:=O.o.dE D;have HX:=LH (show DA w own F g r o k H T now safe nodes B x w3 from⟨c,P,F2,H3,T,B,p,K.o.trans h,.deliver R t I,WX _⟩);clear p h HE;go_wp2_with fail;exact HQ.o _ _ (Aw.mk' _ rfl) HX.o
def RW{x:ActX}{U:Act}(O:Es w own P F g r o k H T now safe nodes B i x W)(R:Ac H Bd)(a3:Bd<=999000)(M:x.aX=7)(t:0<H.net.l.length)
  (h0:Aw (pw g) s1 (pw i) (Wm eQ (Bc T x.tx)) s5 U) (S:∀X Y,Aw (pw g) s1 (pw i) (Wm eQ (Bc T x.tx)) s5 X->DA w own F g r o k H T now safe nodes B x Y->Q .normal X Y):Yq Tryz.prog (wy EY) Q U W:=by
 have a4:=LH O;obtain⟨F2,b,j,s,v,E⟩:=O;obtain⟨V2,L2,d,z,D,c0,c1,c2,_,c4,gl⟩:=b.cells;obtain⟨x0,x1,x2,x3,xl⟩:=acts _ _ _ s;have K:=LH b;have I:=LH j;have HA:=LH R;have HQ:=LH S;have Z:=LH (q82 b.hi);have y:H.net.l.length<=200:=b.hi.d3;have J:=LH (q4j x.a H.net.l.length t Z0 W);have f:=On x.a (n:=H.net.l.length) t;have HE:=LH (QQ b.hi f);rw[M]at x0;clear x1 x3 c1 c2 c4 f;unfold pw at Z;obtain⟨u,rfl⟩:=h0;clear b j s v E S R d z D;unfold pw ET at *;simp only[wy,C6,CV,CW,GC,EY,FK,GD,FA,GE,FL,BO,Gz,Ip,cL,cR,cT,cE,cB,Tryz.f10,Xl];have a2:decide ((0:Int)<H.net.l.length)=VD:=ZA Z0;have a1:decide (0<H.net.l.length)=VD:=ZA t;go_wp2_with fail;refine Z.o.mono ?_;rintro e w2 ⟨rfl,rfl⟩;go_wp2_with fail;refine J.o.mono ?_;rintro e w2 ⟨rfl,rfl⟩;go_wp2_with fail;refine HE.o.mono ?_;rintro e w3 ⟨rfl,A⟩;obtain⟨c,p,h⟩:=K.o.dE A;have HX:=LH (show DA w own F g r o k H T now safe nodes B x w3 from⟨c,P,F2,_,T,B,p,I.o.trans h,.lose M t,WX _⟩);clear p h HE;go_wp2_with fail;exact HQ.o _ _ (Aw.mk' _ rfl) HX.o
def Pv{x:ActX}{U:Act}(R:Es w own P F g r o k H T now safe nodes B i x W)(z:Ac H Bd)(a3:Bd<=999000)(O:x.aX=8)(t:0<H.net.l.length)
  (h0:Aw (pw g) s1 (pw i) (Wm eQ (Bc T x.tx)) s5 U) (S:∀X Y,Aw (pw g) s1 (pw i) (Wm eQ (Bc T x.tx)) s5 X->DA w own F g r o k H T now safe nodes B x Y->Q .normal X Y):Yq Tryz.prog (wy EY) Q U W:=by
 have a4:=LH R;obtain⟨F2,b,j,s,v,G⟩:=R;obtain⟨V2,L2,d,A,E,c0,c1,c2,_,c4,gl⟩:=b.cells;obtain⟨x0,x1,x2,x3,xl⟩:=acts _ _ _ s;have M:=LH b;have J:=LH j;have HA:=LH z;have HQ:=LH S;have Z:=LH (q82 b.hi);have y:H.net.l.length<=200:=b.hi.d3;have K:=LH (q4j x.a H.net.l.length t Z0 W);have f:=On x.a (n:=H.net.l.length) t;have HE:=LH (Nq b.hi z.wf f);rw[O]at x0;clear x1 x3 c1 c2 c4 f;unfold pw at Z;obtain⟨u,rfl⟩:=h0;clear b j s v G S z d A E;unfold pw ET at *;simp only[wy,C6,CV,CW,GC,EY,FK,GD,FA,GE,FL,BO,Gz,Ip,cL,cR,cT,cE,cB,Tryz.f10,Xl];have a2:decide ((0:Int)<H.net.l.length)=VD:=ZA Z0;have a1:decide (0<H.net.l.length)=VD:=ZA t;go_wp2_with fail;refine Z.o.mono ?_;rintro e w2 ⟨rfl,rfl⟩;go_wp2_with fail;refine K.o.mono ?_;rintro e w2 ⟨rfl,rfl⟩;go_wp2_with fail;refine HE.o.mono ?_;rintro e w3 ⟨rfl,D⟩;obtain⟨c,p,h⟩:=M.o.dE D;have HX:=LH (show DA w own F g r o k H T now safe nodes B x w3 from⟨c,P,F2,_,T,B,p,J.o.trans h,.twice O t,WX _⟩);clear p h HE;go_wp2_with fail;exact HQ.o _ _ (Aw.mk' _ rfl) HX.o
def q9w{M:Int}{v:Nat}{x:ActX}{G:Act}(A:Es w own P F g r o k H T now safe nodes B v x W)(D:Ac H M)(X:M<=999000)(S:6<=x.aX/\x.aX<=8)(U:¬0<H.net.l.length)
  (Y:Aw (pw g) s1 (pw v) (Wm eQ (Bc T x.tx)) s5 G) (E:∀I J,Aw (pw g) s1 (pw v) (Wm eQ (Bc T x.tx)) s5 I->DA w own F g r o k H T now safe nodes B x J->Q .normal I J):Yq Tryz.prog (wy EY) Q G W:=by
 have a1:=LH A;obtain⟨F2,b,d,f,h,t⟩:=A;obtain⟨V2,L2,c,p,s,c0,c1,c2,_,Z,gl⟩:=b.cells;obtain⟨x0,R,x2,O,xl⟩:=acts _ _ _ f;have z:=LH b;have y:=LH d;have HA:=LH D;have HQ:=LH E;have K:=LH (q82 b.hi);have j:H.net.l.length<=200:=b.hi.d3;clear x0 R O x2 c1 c2 Z;unfold pw at K;obtain⟨u,rfl⟩:=Y;clear b d f h t E D c p s;unfold pw ET at *;simp only[wy,C6,CV,CW,GC,EY,FK,GD,FA,GE,FL,BO,Gz,Ip,cL,cR,cT,cE,cB,Tryz.f10,Xl];have HX:=LH (show DA w own F g r o k H T now safe nodes B x W from⟨own,P,F2,_,T,B,z.o,y.o,.none S U,WX _⟩);go_wp2_with fail;refine K.o.mono ?_;rintro e w2 ⟨rfl,rfl⟩;go_wp2_with fail;exact HQ.o _ _ (Aw.mk' _ rfl) HX.o
def RY{x:ActX}{a0:Act}(hp:Es w own P F g r o k H T now safe nodes B s x W)(M:Ac H Bd)(a4:Bd<=999000)(hx:x.aX=10)(a3:1<=nodes/\nodes<=3)(U:∀c a d v W,Q (.panic c) (Xq a (Bs d) v) W->Q (.panic c) a W)
  (h0:Aw (pw g) s1 (pw s) (Wm eQ (Bc T x.tx)) s5 a0) (hQ:∀a' W',Aw (pw g) s1 (pw s) (Wm eQ (Bc T x.tx)) s5 a'->DA w own F g r o k H T now safe nodes B x W'->Q .normal a' W'):Yq Tryz.prog (wy CW) Q a0 W:=by
 have a5:=LH hp;obtain⟨F2,j,E,I,R,Y⟩:=hp;obtain⟨V2,L2,z,S,X,c0,c1,c2,_,c4,gl⟩:=j.cells;obtain⟨x0,x1,x2,x3,xl⟩:=acts _ _ _ I;have a6:=LH j;have Z:=LH E;have HA:=LH M;have HQ:=LH hQ;have K:=LH (j.below (VC W.heap.size W).drew);have A:=On x.a (n:=3) Z0;have O:=On x.tx (n:=nodes) Z0;have a2:=LH (show VX Tryz.prog 13 #[Wm eQ x.a,Wm eQ 3] W.drew λe w'=>e=ZY (Wm eQ (AZ x.a 3))/\W.drew=w' from q4j x.a 3 Z0 Z0 W.drew);have a1:=LH (q4j x.tx nodes Z0 Z0 W.drew);have HE:=LH (Q4 K.o.1 M.wf M.c A (show AZ x.tx nodes<10 by omega));clear A O x0 x3 c0 c1 c2;obtain⟨u,rfl⟩:=h0;clear j E I R Y hQ M z S X;unfold pw ET at *;simp only[wy,C6,CV,CW,GC,EY,FK,GD,FA,GE,FL,BO,Gz,Ip,cL,cR,cT,cE,cB,Tryz.f10,Xl];unfold SyP at HE;go_upto_region 43 with (fail)
 refine nW ?_;refine CR (λW=>W.cell? ⟨s,2,B0⟩=Bs (Wm eQ x.a)/\W.cell? ⟨s,1,B0⟩=Bs (Wm eQ x.tx)/\W.cell? ⟨g,4,B0⟩=Bs (Wm eQ nodes)) 11 U (λf=>?_);have b:(λW=>W.cell? ⟨s,2,B0⟩=Bs (Wm eQ x.a)/\W.cell? ⟨s,1,B0⟩=Bs (Wm eQ x.tx)/\W.cell? ⟨g,4,B0⟩=Bs (Wm eQ nodes)) W.drew:=⟨x2,x1,c4⟩
 refine nD 0 [11] f b ?_;refine nD 1 [2,3,10,11] f b ?_;refine nA 2 [3,10,11] rfl rfl f b (λw' h=>by obtain⟨p0,p1,p2⟩:=h;go_simp;rfl) ?_;refine nD 4 [5,10,11] f b ?_;refine nA 5 [10,11] rfl rfl f b (λw' h=>by obtain⟨p0,p1,p2⟩:=h;go_simp;rfl) ?_;refine nD 6 [7,8,9,10,11] f b ?_;refine nD 7 [8,9,10,11] f b ?_;refine nD 8 [9,10,11] f b ?_;refine nA 9 [10,11] rfl rfl f b (λw' h=>by obtain⟨p0,p1,p2⟩:=h;go_simp;rfl) ?_;refine nG 3 (λJ p=>?_);go_simp;refine a2.o.mono ?_;rintro e w2 ⟨rfl,rfl⟩;go_simp;refine p _ _ (λ_=>b) ?_;clear p J;refine nG 10 (λJ p=>?_);go_simp;refine a1.o.mono ?_;rintro e w2 ⟨rfl,rfl⟩;go_simp;refine p _ _ (λ_=>b) ?_;clear p J b;refine nG 11 (λJ p=>?_);go_simp;refine HE.o.mono ?_;rintro e w3 ⟨rfl,t,P3,F3,H3,T3,y,B3,G,D,rfl,rfl,rfl,rfl⟩;have HX:=LH (show DA w own F g r o k H T3 y safe nodes B3 x w3 from⟨t,P3,F3,_,T3,B3,G,Z.o.trans (K.o.2.trans D),.fail hx,WX _⟩);clear G D;go_simp;refine p _ _ nZ ?_;clear p J;refine nX ?_;clear f;go_wp2_with fail;exact HQ.o _ _ (Aw.mk' _ rfl) HX.o
def Uh{T:List Au}{L:List Cu}{x:Cu}(b:L.map (·.t)=T)(d:L[i]? = Bs x)(o:Cv)(V:S2):(L.set i ⟨{x.t with bh:=x.t.bh++[o]},V⟩).map (·.t)=Ch T ((i:Int)+1) o:=by
 unfold Ch;have e:((i:Int)+1).toNat-1=i:=by omega
 rw[e];have c:T[i]? = Bs x.t:=by rw[<- b,VQ,d];rfl
 rw[c];simp only;rw[Z8 Z0,<- b,List.map_set]
def get_id0{H:Hs}{T:List Au}{x:ActX}(c:H.m=T.length)(d:(H.get (Bc T x.tx) (AT x.a)).1.1=0):∃i:Nat,Bc T x.tx=(i:Int)+1/\i<T.length:=by
 have h:=TG T x.tx;by_cases b:Bc T x.tx<1;exfalso;have e:(H.get (Bc T x.tx) (AT x.a)).1.1=7:=by
  have hl:=q1l (H:=H) (id:=Bc T x.tx) (k:=AT x.a) (mode:=1) (eR b);unfold Hs.get;simp only[hl];rfl
 omega;exact⟨(Bc T x.tx).toNat-1,Z0,Z0⟩
def Dg.dx{f d:D0}{t:Nat->Prop}{nodes:Int}(c:Dg f own P t g r o k H T now safe nodes B){V:S2}{L:List Cu}(j:Ce f g P.g V L now safe nodes B)(G:L.map (·.t)=T)(v:∀b,D9 g V L b->t b){i s cap:Nat}{x:Cu}(p:L[i]? = Bs x)(E:V=WK (Bs ⟨s,0,B0⟩) L.length cap){op:Cv}(A:True){V':S2}(D:Am f d x.V.ownBlock V'.ownBlock)
  (z:d.ownsRow 0 56 4 V' (x.t.bh.length+1) (x.t.bh.flatMap SP++SP op)):∃y,Dg (d.setCell ⟨s,i*3,B0⟩ V') own P y g r o k H (Ch T ((i:Int)+1) op) now safe nodes (B+1)/\Hh f own t (d.setCell ⟨s,i*3,B0⟩ V') own y:=by
 obtain⟨M,K,a3⟩:=j.dx p E A D z;have h:=N2 p;obtain⟨J,I⟩:=c.d8 K (λb u e=>v b (e.elim (λe=>eS (eS ⟨x,h,e.symm⟩)) (λe=>eS (eR e.symm)))) M (Uh G p op V') (λb u=>(a3 b u).imp (v b) λx=>x);exact⟨_,J,I⟩
def q5w{base:Nat}{size:Nat}{xs:List S2}(h:w.ownsRow base e size V n xs)(s:0<n):∃j cap,V=WK (Bs ⟨j,0,B0⟩) n cap/\(∀q,w.frozen? ⟨j,q,B0⟩=L1)/\j<w.heap.size:=by obtain⟨_,e⟩|⟨p,d,c,b,_,f,_⟩:=h.2;omega;exact⟨p,d,b,λq=>Ae.frozen (show Ae w p _ c from f) q,(h.lt p (by rw[b];rfl)).2⟩
def sxat:∀(M:List Cu)(i:Nat)(x:Cu),M[i]? = Bs x->(M.flatMap Ij)[i*3]? = Bs x.V/\(M.flatMap Ij)[i*3+2]? = Bs (Wm eQ x.t.a8)
 |[],i,x,h=>by simp at h
 |y::M,0,x,h=>by
  obtain rfl:y=x:=Z6 h;exact⟨rfl,rfl⟩
 |y::M,i+1,x,h=>by
  have b:=sxat M i x (Z6 h);have d:(i+1)*3=i*3+3:=by omega
  have c:(i+1)*3+2=(i*3+2)+3:=by omega
  rw[c,d,VH];exact b
def Ib{L:List Cu}{nodes:Int}(h:Ce w g n V L now safe nodes B){cap:Nat}{x:Cu}(d:L[i]? = Bs x)(t:V=WK (Bs ⟨b,0,B0⟩) L.length cap):w.cell? ⟨b,i*3,B0⟩=Bs x.V/\w.cell? ⟨b,i*3+2,B0⟩=Bs (Wm eQ x.t.a8):=by have c:=h.row;rw[t]at c;obtain⟨hl,_⟩:=ZC.1 d;obtain⟨v,u⟩:=sxat L i x d;obtain⟨y,s,e,_,f⟩:=(Rd.a7 c).2 Z0;injection e with e;injection e with e1 e2;subst e1 e2;have p:=f _ _ v;have j:=f _ _ u;rw[Wk]at p j;exact⟨p,j⟩
def Vg{x:ActX}{s5:S2}{a0:Act}(hp:Es w own P F g r o k H T now safe nodes B n x W)(ha:Ac H Bd)(aO:Bd<=999000)(hx:x.aX=1)(hm:H.m=T.length)(h7:T.length<=7)(hB:B<=1000)(ax:∀c a d v W,Q (.panic c) (Xq a (Bs d) v) W->Q (.panic c) a W)
  (h0:Aw (pw g) s1 (pw n) (Wm eQ (Bc T x.tx)) (ZV ⟨(AT x.a).toArray⟩) a0) (hQ:∀a' W',Aw (pw g) s1 (pw n) (Wm eQ (Bc T x.tx)) (ZV ⟨(AT x.a).toArray⟩) a'->DA w own F g r o k H T now safe nodes B x W'->Q .normal a' W'):Yq Tryz.prog (wy GE) Q a0 W:=by
 have aQ:=LH hp;obtain⟨F2,M,af,ai,ar,ay⟩:=hp;obtain⟨V2,L2,a8,aw,X,c0,c1,c2,_,c4,gl⟩:=M.cells;obtain⟨x0,x1,x2,x3,xl⟩:=acts _ _ _ ai;have ap:=LH M;have al:=LH af;have HA:=LH ha;have HQ:=LH hQ;have HE:=LH (qdy M.hi ha.wf M.ns ha.c (Bc T x.tx) (AT x.a) (MI _));have a1:=LH (λS=>get_id0 (H:=H) (T:=T) (x:=x) hm S);have a3:=LH (λS=>Bf.get (safe:=safe) (nodes:=nodes) (now:=now) (H:=H) (T:=T) (x:=x) hx S);have a2:=LH (λS=>Bf.getE (safe:=safe) (nodes:=nodes) (now:=now) (H:=H) (T:=T) (x:=x) hx S);have aR:=LH (Ex (MI x.a));clear x0 x1 x2 x3 xl c1 c2 c4;unfold N7 at HE;obtain⟨u,rfl⟩:=h0;clear M af ai ar ay hQ ha a8 aw X;unfold pw ET at *;simp only[wy,C6,CV,CW,GC,EY,FK,GD,FA,GE,FL,BO,Gz,Ip,cL,cR,cT,cE,cB,Tryz.f10,Xl];generalize Bc T x.tx=aq at *;obtain⟨r0,hr⟩:∃r0,H.get aq (AT x.a)=r0:=⟨_,rfl⟩
 rw[hr]at HE a1 a3 a2;obtain⟨⟨er,v,b⟩,H3⟩:=r0;clear hr;go_wp2_with fail;refine HE.o.mono ?_;rintro e O ⟨rfl,ag⟩;obtain⟨a4,Y,ae⟩:=ap.o.dE ag;have ao:=LH Y;have ak:=LH (al.o.trans ae);clear ag ae HE ap al;by_cases S:er=0
 ·subst S;obtain⟨i,hi,aJ⟩:=a1.o rfl;have aB:=LH (a3.o rfl);subst hi;obtain⟨V3,Z,j,a6,X,_,c1,_,_,_,aj⟩:=Y.cells;have aD:Z.length=T.length:=by rw[<- a6,V0]
  have aa:i<Z.length:=by omega
  obtain⟨y,hy⟩:∃y,Z[i]? = Bs y:=⟨_,K0 aa⟩
  have I:=N2 hy;obtain⟨gV,cap,U,aM,ac⟩:=q5w j.row (show 0<Z.length by omega);obtain⟨A3,k3,R,_,_⟩:=AM (j.bh y I).1;obtain⟨d0,_⟩:=Ib j hy U;rw[R]at d0;rw[U]at c1;have aG:=(j.bh y I).2.1;have K:=(j.bh y I).1;rw[R]at K;have am:=LH K;have z:=LH j;have aA:=LH a6;have aC:=LH X;have HY:=LH hy;have az:=LH R;have a7:=LH U;have aI:IntKind.i64.wrap ((i:Int)+1-1)=i:=by rw[show(i:Int)+1-1=i by omega];exact V4 _ ⟨Z0,Z0⟩
  have aH:IntKind.i64.wrap (i:Int)=i:=V4 _ ⟨Z0,Z0⟩;have aL:decide ((0:Int)<(i:Int)+1)=VD:=ZA Z0;clear j a6 X hy R U K Y a1 a3 a2;simp only[C0,Z8];have aK:(i:Int)<Z.length:=by omega
  go_upto_region 15 with (fail)
  refine nW ?_;refine CR (λW=>W.cell? ⟨g,1,B0⟩=Bs (WK (Bs ⟨gV,0,B0⟩) Z.length cap)/\W.cell? ⟨gV,i*3,B0⟩=Bs (WK A3 y.t.bh.length k3)) 21 ax (λh=>?_);have f:(λW=>W.cell? ⟨g,1,B0⟩=Bs (WK (Bs ⟨gV,0,B0⟩) Z.length cap)/\W.cell? ⟨gV,i*3,B0⟩=Bs (WK A3 y.t.bh.length k3)) O.drew:=⟨c1,d0⟩
  refine nD 0 [1,2,3,21,22,23] h f ?_;refine nD 1 [2,3,21,22,23] h f ?_;refine nD 2 [3,21,22,23] h f ?_;refine nA 3 [21,22,23] rfl rfl h f (λw' J=>by obtain⟨p0,p1⟩:=J;go_simp;rfl) ?_;refine nD 4 [5,21,22,23] h f ?_;refine nD 5 [21,22,23] h f ?_;refine nD 6 [7,8,9,12,13,14,20,21,22,23] h f ?_;refine nD 7 [8,9,12,13,14,20,21,22,23] h f ?_;refine nD 8 [9,12,13,14,20,21,22,23] h f ?_;refine nA 9 [12,13,14,20,21,22,23] rfl rfl h f (λw' J=>by obtain⟨p0,p1⟩:=J;go_simp;rfl) ?_;refine nD 10 [11,12,13,14,20,21,22,23] h f ?_;refine nD 11 [12,13,14,20,21,22,23] h f ?_;refine nD 12 [13,14,20,21,22,23] h f ?_;refine nD 13 [14,20,21,22,23] h f ?_;refine nA 14 [20,21,22,23] rfl rfl h f (λw' J=>by obtain⟨p0,p1⟩:=J;go_simp;rfl) ?_;refine nD 15 [18,19,20,21,22,23] h f ?_;refine nD 16 [18,19,20,21,22,23] h f ?_;refine nD 17 [18,19,20,21,22,23] h f ?_;refine nD 18 [19,20,21,22,23] h f ?_;have E:∀o q p,q<O.heap.size->(O.alloc o).cell? ⟨q,p,B0⟩=O.cell? ⟨q,p,B0⟩:=λo q p hq=>WT O o ⟨q,p,B0⟩ hq
  refine nG 19 (λKK G=>?_);go_simp;refine G _ _ (λ_=>⟨(E _ _ _ aj).trans f.1,(E _ _ _ ac).trans f.2⟩) ?_;clear G KK f E;refine nG 20 (λKK G=>?_);refine SX O.drew O.heap.size rfl _ (.tmp 122) (.tmp 127) 50 rfl 0 56 _ 4 48 Tryz.underlying50 If rfl Z2 _ _ _ #[Wm eQ 1,ZV ⟨(AT x.a).toArray⟩,ZV ⟨v.toArray⟩,ZX b] rfl am.o 1 rfl _ rfl rfl (by simp[Wx]) Zx Z0 (VG _) ?_;intro V6 w6 A D;have s:Am O w6 y.V.ownBlock V6.ownBlock:=by rw[az.o];exact⟨⟨D.1.os,D.1.tape,D.1.output,D.1.size,D.1.block⟩,D.2⟩
  obtain⟨F6,ah,ad⟩:=Dg.dx (op:=opG x.a ((0,v,b),H3)) ao.o z.o aA.o aC.o HY.o a7.o trivial s A;have HX:=LH (show DA w own F g r o k H T now safe nodes B x (w6.setCell ⟨gV,i*3,B0⟩ V6)from⟨a4,P,F6,H3,_,B+1,ah,ak.o.trans ad,aB.o,Hi _⟩);have a9:=s.1.own z.o.row (λb hb e=>EX z.o.row (z.o.bh y I).1 Z2 hb e.symm);obtain⟨aP,aF,t,a5,aE⟩:=q5w a9 (show 0<Z.length by omega);rw[a7.o]at t;injection t with t _ _;injection t with t;injection t with t _ _;subst t;have aN:=a5 (i*3);have an:=LH (show(λW=>W.cell? ⟨g,1,B0⟩=Bs (WK (Bs ⟨gV,0,B0⟩) Z.length cap)/\W.cell? ⟨gV,i*3,B0⟩=Bs (WK A3 y.t.bh.length k3)) w6 from⟨(s.1.cell (p:=⟨g,1,B0⟩) aj (λe=>Bh (z.o.bh y I).1 z.o.al Z2 e.symm)).trans c1,(s.1.cell (p:=⟨gV,i*3,B0⟩) ac (λe=>EX z.o.row (z.o.bh y I).1 Z2 (by rw[a7.o];rfl) e.symm)).trans d0⟩);have y0:=an.o.2;obtain⟨A7,c7,av,_,_⟩:=AM A;subst av;clear D s A a9 ah ad a5;go_simp;refine G _ _ (λ_=>an.o) ?_;clear G KK;refine nG 21 (λKK G=>?_);go_simp;refine G _ _ nZ ?_;clear G KK;refine nG 22 (λKK G=>?_);go_simp;refine G _ _ nZ ?_;clear G KK;refine nG 23 (λKK G=>?_);go_simp;refine G _ _ nZ ?_;clear G KK;refine nX ?_;clear h;go_wp2_with fail;exact HQ.o _ _ (Aw.mk' _ rfl) HX.o
 have HX:=LH (show DA w own F g r o k H T now safe nodes B x O from⟨a4,P,F2,H3,T,B,ao.o,ak.o,a2.o S,WX _⟩);have au:C0 er=.iface 79 (Wm eQ er):=Z7 S;simp only[au];clear Y a1 a3 a2;go_wp2_with fail;exact HQ.o _ _ (Aw.mk' _ rfl) HX.o
def put_id0{H:Hs}{T:List Au}{x:ActX}(c:H.m=T.length)(d:(H.put (Bc T x.tx) (Ow x)).1=0):∃i:Nat,Bc T x.tx=(i:Int)+1/\i<T.length:=by
 have h:=TG T x.tx;by_cases b:Bc T x.tx<1;exfalso;have e:(H.put (Bc T x.tx) (Ow x)).1=7:=by
  have hl:=q1l (H:=H) (id:=Bc T x.tx) (k:=sx (Ow x).key) (mode:=2) (eR b);unfold Hs.put;rw[Z7 (by have:=qbh x.val;show ¬40<(CY x.val).size;omega)];simp only[hl];rfl
 omega;exact⟨(Bc T x.tx).toNat-1,Z0,Z0⟩
def PuC(w:D0)(own:Ah)(P:Av)(F:Nat->Prop)(g r o k:Nat)(H:Hs)(T:List Au)(now:Int)(safe:Bool)(nodes:Int)(B d c:Nat)(x:ActX)(W:D0):Prop:=
 ∃b,Dg W own P b g r o k H T now safe nodes B/\Hh w own F W own b/\Ae W d 34 (Fa x)/\own d=B0/\¬b d/\Ae W c 45 #[ZV ⟨(AT x.a).toArray⟩,ZV (CY x.val),ZX (x.aX == 3)]/\own c=B0/\¬b c
def Es.put0{nodes:Int}{x:ActX}(h:Es w own P F g r o k H T now safe nodes B j x W)(y:w.heap.size<=W.heap.size){v:ByteArray}(p:v=CY x.val):PuC w own P F g r o k H T now safe nodes B j W.heap.size x (W.alloc (eT #[ZV ⟨(AT x.a).toArray⟩,ZV v,ZX (x.aX == 3)] 45)):=by subst p;obtain⟨u,a,b,c,d,e⟩:=h;have f:VI W.heap.size W (W.alloc (eT #[ZV ⟨(AT x.a).toArray⟩,ZV (CY x.val),ZX (x.aX == 3)] 45)):=(VC W.heap.size W).alloc (Hi _) _;obtain⟨t,s⟩:=a.below f;exact⟨u,t,b.trans s,(Ef f).al c (λhs=>Z4 c.lt),d,e,Ae.b4 W _ _,a.hi.free (Hi _),λe=>Nat.lt_irrefl _ (a.Fl _ e)⟩
def PuC.drew{nodes:Int}{p j:Nat}{x:ActX}{W:D0}(h:PuC w own P F g r o k H T now safe nodes B p j x W):PuC w own P F g r o k H T now safe nodes B p j x W.drew:=by obtain⟨y,a,b,c,d,e,f,t,s⟩:=h;obtain⟨v,u⟩:=a.below (VC W.heap.size W).drew;exact⟨y,v,b.trans u,c,d,e,f,t,s⟩
section
variable {P:Program}{md:XP}{ops:Array Oper}{Q:Exit->Act->D0->Prop}{N:Nat}{C:D0->Prop}
def Tf(i:Nat){o:Oper}{fuel:Nat}{listed:Array Bool}{a:Act}(b:Ws md ops listed=[i])(f:ops[i]? = Bs o)
  (e:Wu o (Xx ops a.tmps)=L1) (s:i<N->C w) (h:Ci P md ops Q N C fuel (listed.setIfInBounds i VD) (a.put o.dst Yl) w):Ci P md ops Q N C (fuel+1) listed a w:=
 ⟨(λd=>by rw[b]at d;cases d),λj c=>by
  rw[b]at c;obtain rfl:j=i:=Z6 c;exact wpOp_step f (λt p=>by rw[Z7 (by rw[e];simp)];exact p _ _ ⟨s,h⟩)⟩
end
def LJ(s0 s1 s3 s4 s5:S2)(b:Nat)(a:Act):Prop:=∃u:Nat->S2,u 11=ZW (Bs ⟨b,0,B0⟩)/\a=ET s0 s1 s3 s4 s5 u
def LJ.mk'(t:Array S2)(h:({tmps:=t,defers:=[]} : Act)=ET s0 s1 V' V s5 (λk=>lkF t.toList k))(c:lkF t.toList 11=ZW (Bs ⟨b,0,B0⟩)):LJ s0 s1 V' V s5 b {tmps:=t,defers:=[]}:=⟨_,c,h⟩
def Jq{G:Nat}{x:ActX}{a0:Act}{K:Act->D0->Prop}(aI:∀a w,Yq Tryz.prog (cR (cR (cR (wy FA)))) Q a w->K a w)(hp:PuC w own P F g r o k H T now safe nodes B n G x W)(ha:Ac H Bd)(hx:x.aX=2\/x.aX=3)(hm:H.m=T.length)(h7:T.length<=7)(hB:B<=1000)(ap:∀c a d v W,Q (.panic c) (Xq a (Bs d) v) W->Q (.panic c) a W)
  (h0:LJ (pw g) s1 (pw n) (.int eQ (Bc T x.tx)) (.string ⟨(AT x.a).toArray⟩) G a0) (hQ:∀a' W',Aw (pw g) s1 (pw n) (.int eQ (Bc T x.tx)) (.string ⟨(AT x.a).toArray⟩) a'->DA w own F g r o k H T now safe nodes B x W'->Q .normal a' W'):Yq Tryz.prog (cL (cR (cR (wy FA)))) (Exit.then K Q) a0 W:=by
 have a9:=LH (λhe=>put_id0 (H:=H) (T:=T) (x:=x) hm he);have ad:=LH (λhe=>Bf.put (safe:=safe) (nodes:=nodes) (now:=now) (H:=H) (T:=T) (x:=x) hx he);have ac:=LH (λhe=>Bf.putE (safe:=safe) (nodes:=nodes) (now:=now) (H:=H) (T:=T) (x:=x) hx he);have HQ:=LH hQ;obtain⟨F2,Y,ao,a8,aj,ar,R,ai,X⟩:=hp.drew;obtain⟨V2,L2,_,_,_,c0,_,_,_,_,gl⟩:=Y.cells;have aJ:=acts _ _ _ a8;have HE:=LH (KO Y.hi ha.wf Y.ns ha.c (Bc T x.tx) (AT x.a) (MI _) (CY x.val) (Z4 (qbh x.val)) (x.aX == 3));rw[show(⟨⟨(AT x.a).toArray⟩,CY x.val,x.aX == 3⟩:Pr)=Ow x from rfl]at HE;have k0:=R.cell 0;have k1:=R.cell 1;have k2:=R.cell 2;have kl:=R.lt;simp only[NW,Ft,O0]at k0 k1 k2;have aC:=LH Y;have ay:=LH ao;have S:=LH (show Ae W.drew n _ _/\own n=B0/\¬F2 n/\Ae W.drew G _ _/\own G=B0/\¬F2 G from⟨a8,aj,ar,R,ai,X⟩);obtain⟨u,hu,rfl⟩:=h0;clear Y ao a8 aj ar R ai X hQ aJ hp ha gl;unfold FP at HE;unfold pw ET at *;generalize al:(x.aX == 3)=gb at *;generalize Bc T x.tx=aF at *;generalize ah:H.put aF (Ow x)=aE at *;have b0:=LH al;clear al ah;obtain⟨er,H3⟩:=aE;rw[hu];simp only[wy,C6,CV,CW,GC,EY,FK,GD,FA,GE,FL,BO,Gz,Ip,cL,cR,cT,cE,cB,Tryz.f10,Xl]at aI ⊢;go_upto_region 21 with (fail)
 refine nW ?_;refine CR (λW=>W.cell? ⟨g,0,B0⟩=Bs (ZW (Bs ⟨P.g,0,B0⟩))/\W.cell? ⟨G,0,B0⟩=Bs (.string ⟨(AT x.a).toArray⟩)/\W.cell? ⟨G,1,B0⟩=Bs (.string (CY x.val))/\W.cell? ⟨G,2,B0⟩=Bs (ZX gb)/\G<W.heap.size) 6 ap (λh=>?_);have f:(λW=>W.cell? ⟨g,0,B0⟩=Bs (ZW (Bs ⟨P.g,0,B0⟩))/\W.cell? ⟨G,0,B0⟩=Bs (.string ⟨(AT x.a).toArray⟩)/\W.cell? ⟨G,1,B0⟩=Bs (.string (CY x.val))/\W.cell? ⟨G,2,B0⟩=Bs (ZX gb)/\G<W.heap.size) W.drew:=⟨c0,k0,k1,k2,kl⟩
 refine nD 0 [1,2,3,6,7,8,9,10,11] h f ?_;refine nD 1 [2,3,6,7,8,9,10,11] h f ?_;refine nD 2 [3,6,7,8,9,10,11] h f ?_;refine nA 3 [6,7,8,9,10,11] rfl rfl h f (λw' t=>by obtain⟨p0,p1,p2,p3,pl⟩:=t;go_simp;rfl) ?_;refine nD 4 [6,7,8,9,10,11] h f ?_;refine nA 5 [6,7,8,9,10,11] rfl rfl h f (λw' t=>by obtain⟨p0,p1,p2,p3,pl⟩:=t;go_simp;rfl) ?_;clear f;refine nG 6 (λs j=>?_);go_simp;refine HE.o.mono ?_;rintro e Z ⟨rfl,aq⟩;obtain⟨a5,a4,a2⟩:=aC.o.dE aq;have aB:=LH a4;have aD:=LH (a2.fr.al S.o.1 (λe=>e.elim (λe=>e S.o.2.1) S.o.2.2.1));have ae:=LH (a2.fr.al S.o.2.2.2.1 (λe=>e.elim (λe=>e S.o.2.2.2.2.1) S.o.2.2.2.2.2));have ax:=LH (ay.o.trans a2);clear aq a2 HE aC ay c0 k0 k1 k2 kl;by_cases he:er=0
 ·subst he;obtain⟨i,hi,aU⟩:=a9.o rfl;have aM:=LH (ad.o rfl);subst hi;have aW:decide ((0:Int)<(i:Int)+1)=VD:=ZA Z0;simp only[C0,Z8];go_simp;refine j _ _ nZ ?_;clear j s;refine nG 7 (λs j=>?_);go_simp;refine j _ _ nZ ?_;clear j s;refine nG 8 (λs j=>?_);go_simp;refine j _ _ nZ ?_;clear j s;refine nG 9 (λs j=>?_);go_simp;refine j _ _ nZ ?_;clear j s;refine nG 10 (λs j=>?_);go_simp;refine j _ _ nZ ?_;clear j s;refine nG 11 (λs j=>?_);go_simp;refine j _ _ nZ ?_;clear j s;refine nX ?_;obtain⟨V3,L3,z,a7,X,_,c1,_,_,_,av⟩:=a4.cells;have aO:L3.length=T.length:=by rw[<- a7,V0]
  have ak:i<L3.length:=by omega
  obtain⟨y,hy⟩:∃y,L3[i]? = Bs y:=⟨_,K0 ak⟩
  have I:=N2 hy;obtain⟨gV,cap,a3,aX,am⟩:=q5w z.row (show 0<L3.length by omega);obtain⟨A3,k3,a1,_,_⟩:=AM (z.bh y I).1;obtain⟨d0,_⟩:=Ib z hy a3;rw[a1]at d0;rw[a3]at c1;have aR:=(z.bh y I).2.1;have U:=(z.bh y I).1;rw[a1]at U;have az:=LH U;have E:=LH z;have aL:=LH a7;have aN:=LH X;have HY:=LH hy;have aK:=LH a1;have aa:=LH a3;have aT:IntKind.i64.wrap ((i:Int)+1-1)=i:=by rw[show(i:Int)+1-1=i by omega];exact V4 _ ⟨Z0,Z0⟩
  have aS:IntKind.i64.wrap (i:Int)=i:=V4 _ ⟨Z0,Z0⟩;obtain⟨w0,_,_,_,aw⟩:=acts _ _ _ aD.o;have af:=ae.o.lt;have q1:Z.cell? ⟨G,1,B0⟩=Bs (.string (CY x.val)):=ae.o.cell 1;clear z a7 X hy a1 a3 U a4 a9 ad ac;have aV:(i:Int)<L3.length:=by omega
  go_upto_region 22 with (fail)
  refine nW ?_;refine CR (λW=>W.cell? ⟨g,1,B0⟩=Bs (WK (Bs ⟨gV,0,B0⟩) L3.length cap)/\W.cell? ⟨gV,i*3,B0⟩=Bs (WK A3 y.t.bh.length k3)/\W.cell? ⟨n,0,B0⟩=Bs (.int eQ x.aX)/\W.cell? ⟨G,1,B0⟩=Bs (.string (CY x.val))) 23 ap (λh=>?_);have f:(λW=>W.cell? ⟨g,1,B0⟩=Bs (WK (Bs ⟨gV,0,B0⟩) L3.length cap)/\W.cell? ⟨gV,i*3,B0⟩=Bs (WK A3 y.t.bh.length k3)/\W.cell? ⟨n,0,B0⟩=Bs (.int eQ x.aX)/\W.cell? ⟨G,1,B0⟩=Bs (.string (CY x.val))) Z.drew:=⟨c1,d0,w0,q1⟩
  refine nD 0 [1,2,3,23,24,25] h f ?_;refine nD 1 [2,3,23,24,25] h f ?_;refine nD 2 [3,23,24,25] h f ?_;refine nA 3 [23,24,25] rfl rfl h f (λw' t=>by obtain⟨p0,p1,p2,p3⟩:=t;go_simp;rfl) ?_;refine nD 4 [5,23,24,25] h f ?_;refine nD 5 [23,24,25] h f ?_;refine nD 6 [7,8,9,12,13,14,22,23,24,25] h f ?_;refine nD 7 [8,9,12,13,14,22,23,24,25] h f ?_;refine nD 8 [9,12,13,14,22,23,24,25] h f ?_;refine nA 9 [12,13,14,22,23,24,25] rfl rfl h f (λw' t=>by obtain⟨p0,p1,p2,p3⟩:=t;go_simp;rfl) ?_;refine nD 10 [11,12,13,14,22,23,24,25] h f ?_;refine nD 11 [12,13,14,22,23,24,25] h f ?_;refine nD 12 [13,14,22,23,24,25] h f ?_;refine nD 13 [14,22,23,24,25] h f ?_;refine nA 14 [22,23,24,25] rfl rfl h f (λw' t=>by obtain⟨p0,p1,p2,p3⟩:=t;go_simp;rfl) ?_;refine nD 15 [16,20,21,22,23,24,25] h f ?_;refine nA 16 [20,21,22,23,24,25] rfl rfl h f (λw' t=>by obtain⟨p0,p1,p2,p3⟩:=t;go_simp;rfl) ?_;refine nD 17 [20,21,22,23,24,25] h f ?_;refine nD 18 [19,20,21,22,23,24,25] h f ?_;refine nA 19 [20,21,22,23,24,25] rfl rfl h f (λw' t=>by obtain⟨p0,p1,p2,p3⟩:=t;go_simp;rfl) ?_;refine nD 20 [21,22,23,24,25] h f ?_;have D:∀o q p,q<Z.heap.size->(Z.alloc o).cell? ⟨q,p,B0⟩=Z.cell? ⟨q,p,B0⟩:=λo q p hq=>WT Z o ⟨q,p,B0⟩ hq
  refine nG 21 (λs j=>?_);go_simp;refine j _ _ (λ_=>⟨(D _ _ _ av).trans f.1,(D _ _ _ am).trans f.2.1,(D _ _ _ aw).trans f.2.2.1,(D _ _ _ af).trans f.2.2.2⟩) ?_;clear j s f D;refine nG 22 (λs j=>?_);refine SX Z.drew Z.heap.size rfl _ (.tmp 175) (.tmp 182) 50 rfl 0 56 _ 4 48 Tryz.underlying50 If rfl Z2 _ _ _ #[.int eQ x.aX,.string ⟨(AT x.a).toArray⟩,.string (CY x.val),ZX L1] rfl az.o 1 rfl _ rfl rfl (by simp[Wx]) Zx Z0 (VG _) ?_;intro V6 w6 M O;have A:Am Z w6 y.V.ownBlock V6.ownBlock:=by rw[aK.o];exact⟨⟨O.1.os,O.1.tape,O.1.output,O.1.size,O.1.block⟩,O.2⟩
  obtain⟨F6,au,an⟩:=Dg.dx (op:=opP x) aB.o E.o aL.o aN.o HY.o aa.o trivial A M;have HX:=LH (show DA w own F g r o k H T now safe nodes B x (w6.setCell ⟨gV,i*3,B0⟩ V6)from⟨a5,P,F6,H3,_,B+1,au,ax.o.trans an,aM.o,Hi _⟩);have ag:=A.1.own E.o.row (λb hb e=>EX E.o.row (E.o.bh y I).1 Z2 hb e.symm);obtain⟨aZ,aQ,J,a6,aP⟩:=q5w ag (show 0<L3.length by omega);rw[aa.o]at J;injection J with J _ _;injection J with J;injection J with J _ _;subst J;have aY:=a6 (i*3);have aA:=LH (show(λW=>W.cell? ⟨g,1,B0⟩=Bs (WK (Bs ⟨gV,0,B0⟩) L3.length cap)/\W.cell? ⟨gV,i*3,B0⟩=Bs (WK A3 y.t.bh.length k3)/\W.cell? ⟨n,0,B0⟩=Bs (.int eQ x.aX)/\W.cell? ⟨G,1,B0⟩=Bs (.string (CY x.val))) w6 from⟨(A.1.cell (p:=⟨g,1,B0⟩) av (λe=>Bh (E.o.bh y I).1 E.o.al Z2 e.symm)).trans c1,(A.1.cell (p:=⟨gV,i*3,B0⟩) am (λe=>EX E.o.row (E.o.bh y I).1 Z2 (by rw[aa.o];rfl) e.symm)).trans d0,(A.1.cell (p:=⟨n,0,B0⟩) aw (λe=>Bh (E.o.bh y I).1 aD.o Z2 e.symm)).trans w0,(A.1.cell (p:=⟨G,1,B0⟩) af (λe=>Bh (E.o.bh y I).1 ae.o Z2 e.symm)).trans q1⟩);have y0:=aA.o.2.1;obtain⟨A7,c7,aH,_,_⟩:=AM M;subst aH;clear O A M ag au an a6;go_simp;refine j _ _ (λ_=>aA.o) ?_;clear j s;refine nG 23 (λs j=>?_);go_simp;refine j _ _ nZ ?_;clear j s;refine nG 24 (λs j=>?_);go_simp;refine j _ _ nZ ?_;clear j s;refine nG 25 (λs j=>?_);go_simp;refine j _ _ nZ ?_;clear j s;refine nX ?_;clear h;go_wp2_with fail;exact HQ.o _ _ (Aw.mk' _ rfl) HX.o
 have HX:=LH (show DA w own F g r o k H T now safe nodes B x Z from⟨a5,P,F2,H3,T,B,aB.o,ax.o,ac.o he,WX _⟩);have aG:C0 er=.iface 79 (.int eQ er):=Z7 he;simp only[aG];clear a4 a9 ad ac;go_simp;refine j _ _ nZ ?_;clear j s;refine nG 7 (λs j=>?_);go_simp;refine j _ _ nZ ?_;clear j s;refine nG 8 (λs j=>?_);go_simp;refine j _ _ nZ ?_;clear j s;refine Tf 9 Z1 rfl Z1 nZ ?_;refine Tf 10 Z1 rfl Z1 nZ ?_;refine nG 11 (λs j=>?_);go_simp;refine j _ _ nZ ?_;clear j s;refine nX ?_;clear h;go_wp2_with fail;exact HQ.o _ _ (Aw.mk' _ rfl) HX.o
def Oe{x:ActX}{s5:S2}{X:Act}(J:Es w own P F g r o k H T now safe nodes B i x W)(M:Ac H Bd)(a1:Bd<=999000)(I:x.aX=2\/x.aX=3)(K:H.m=T.length)(U:T.length<=7)(R:B<=1000)(j:∀c a d v W,Q (.panic c) (Xq a (Bs d) v) W->Q (.panic c) a W)
  (h0:Aw (pw g) s1 (pw i) (Wm eQ (Bc T x.tx)) (ZV ⟨(AT x.a).toArray⟩) X) (O:∀Y Z,Aw (pw g) s1 (pw i) (Wm eQ (Bc T x.tx)) (ZV ⟨(AT x.a).toArray⟩) Y->DA w own F g r o k H T now safe nodes B x Z->Q .normal Y Z):Yq Tryz.prog (wy FA) Q X W:=by
 have t:=LH J;obtain⟨F2,b,h,p,y,D⟩:=J;obtain⟨V2,L2,f,z,A,c0,c1,c2,_,c4,gl⟩:=b.cells;obtain⟨x0,x1,x2,x3,xl⟩:=acts _ _ _ p;have a2:=LH b;have s:=LH h;have HA:=LH M;have HQ:=LH O;clear x1 x2 c0 c1 c2 c4;obtain⟨u,rfl⟩:=h0;clear b h p y D O M f z A;unfold pw ET at *;simp only[wy,C6,CV,CW,GC,EY,FK,GD,FA,GE,FL,BO,Gz,Ip,cL,cR,cT,cE,cB,Tryz.f10,Xl];by_cases S:9<x.val.size
 ·have E:(9:Int)<x.val.size:=by omega
  have e:=LH (t.o.put0 s.o.fr.size (v:=x.val.extract 0 9) (by unfold CY;rw[Z8 S]));go_upto_region 21 with (fail)
  refine Jq ?_ e.o HA.o I K U R j ?_ HQ.o
  rotate_left
  exact LJ.mk' _ rfl rfl
  assumption
 have E:¬(9:Int)<x.val.size:=by omega
 have e:=LH (t.o.put0 s.o.fr.size (v:=x.val) (by unfold CY;rw[Z7 S]));go_upto_region 21 with (fail)
 refine Jq ?_ e.o HA.o I K U R j ?_ HQ.o
 rotate_left
 exact LJ.mk' _ rfl rfl
 assumption
end
end
end Go.Proofs.YtccahlhdifadfaaGreatDoor
