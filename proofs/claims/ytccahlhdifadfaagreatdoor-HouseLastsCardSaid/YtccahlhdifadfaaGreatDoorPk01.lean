import Derived.Test.YtccahlhdifadfaaGreatDoorPk00
import Derived.Deep.CutBlock
import Derived.Test.YtccahlhdifadfaaGreatDoorRows
import Derived.Lib.Hide
import Derived.Deep.QuietTactic
import Derived.BigQuiet
import Derived.Deep.DeepCutAuto
import Derived.StillTailTactics
import Derived.Sort.OwnSortedInts
namespace Go.Proofs.YtccahlhdifadfaaGreatDoor
noncomputable section
open Go.RowKit
open _root_.Go.Obj renaming cells->eT
open _root_.Or renaming inl->eR,inr->eS
open _root_.Go.IntKind renaming i64->eQ
open _root_.Go.Ending renaming returned->ZY
open _root_.And renaming intro->Wo
open _root_.Array renaming length_toList->Wz,getElem?_eq_none->Xa
open _root_.Bool renaming false->L1,true->VD,and_eq_true->Wl,eq_iff_iff->XW,not_eq_true->Yc,false_eq_true->Yd,true_and->YQ
open _root_.Go renaming World->D0,Value->S2,TypeId->VR,Calls->VX,maxLen->VY,Ending->WE,Program->Xh,Addr->Xo,size_zeroCells->Xz,wp_region_still_tail->X2,callFunc->X4,zeroValue->Yh,info_parts->YM,wpStill_nil->Zm
open _root_.Go.Act renaming eval->Xm,put->Xq
open _root_.Go.Addr renaming add_lit->WM
open _root_.Go.Addr.mk renaming injEq->Xe
open _root_.Go.Builtin renaming zeroCells->WI,append_->XC,firstCells->Yb
open _root_.Go.Instr renaming lookup->XV
open _root_.Go.IntWalk renaming i64_in->V4
open _root_.Go.RowKit renaming Below->VI,run_makeMap->YX
open _root_.Go.RowKit.Below renaming refl->VC
open _root_.Go.Value renaming ownBlock->Wa,int->Wm,oneCell'->Wx,slice->WK,nilIface->ZS,string->ZV,pointer->ZW,bool->ZX,tuple->ZZ
open _root_.Go.World renaming ownsRow_nil->VW,block_lt_of_cell?->V5,setCell_alloc_past->YA,drew->YC
open _root_.List renaming getElem?_cons_zero->Ft,getElem?_eq_getElem->K0,getElem?_toArray->NW,mem_of_getElem?->N2,getElem?_cons_succ->O0,mem_cons_self->VB,mem_cons_of_mem->VE,flatMap_cons->VH,length_append->VJ,findIdx?_eq_some_iff_getElem->VP,getElem?_map->VQ,take_of_length_le->VS,mem_singleton->VU,take_add_one->VV,getElem?_append_left->VZ,length_map->V0,eq_nil_of_length_eq_zero->We,getElem?_append_right->Wg,range'->Wh,length_cons->Wi,findIdx?_eq_none_iff->Wp,flatMap_append->Wq,range->Ww,getElem_mem->Wy,append_nil->WB,length_filter_le->WC,length_take->WD,map_cons->WJ,map_append->WQ,take_length->WU,take_succ_cons->WZ,pairwise_map->Xb,length_drop->Xf,drop_succ_cons->Xj,drop_drop->Xp,takeWhile_prefix->Xs,size_toArray->Xu,any_eq_false->Xw,mem_append->XA,mem_take_iff_getElem->XF,drop_eq_getElem_cons->XG,filter_congr->XK,append_assoc->XM,length_set->XU,set_cons_succ->XY,filter_append->XZ,any_eq_true->X1,take_zero->X3,not_mem_nil->X9,mem_cons->Ye,mem_of_mem_drop->Yf,drop_of_length_le->Yj,getElem?_drop->Yo,Nodup->Yz,drop_zero->YG,getElem?_set_self->YK,length_mergeSort->YS,set_eq_of_length_le->Ze,getElem?_eq_some_iff->ZC,mem_map->ZE,mem_filter->ZG,mem_range->ZH,mem_flatMap->ZK,filter_eq_self->ZN,pairwise_iff_getElem->ZO
open _root_.List.Nodup renaming length_le_of_subset->WL
open _root_.List.Pairwise renaming nil->Yv
open _root_.List.Sublist renaming refl->XN
open _root_.Nat renaming le_refl->Hi,lt_of_lt_of_le->VF,zero_le->VG,le_trans->VK,zero_add->Wk,le_succ->WX,add_sub_cancel->Xc,lt_or_ge->Xd,add_mul->Xi,sub_mul->YW,add_right_comm->Zh
open _root_.Option renaming some->Bs,none->B0,map_some->WA,ne_none_iff_exists'->ZJ
open _root_.Option.some renaming injEq->VN,inj->Wn
variable {X:Array S2}{q tx:Int}{y:Int×Int}{h:Int->Option Int}{A z:Kp}{k k':Kx}{L lf:List (Int×Int)}{l':List (Sx×Int)}{gs:List Ak}{ks:List Sx}{xs:List S2}{B a b c i j n' s:Nat}{gn:Nat->Nat}{S:Nat->Prop}{D:Option Nat}{x:Sx}{p:Sx×Int->Bool}{T T':Tb}{α:Type}{e kt:VR}{V V':S2}{W w':D0}
set_option linter.all false
set_option maxRecDepth 100000
set_option maxHeartbeats 16000000
def VCmpW(F:Nat)(a:VxR->Int)(t:Int)(w:D0):Prop:=
 ∀(W:D0)(x:VxR),VI w.heap.size w W->(True)->VX Tryz.prog F #[vxV x,Wm eQ t] W λe w'=>e=ZY (Wm eQ (a x))/\VI W.heap.size W w'
def N4(a:VxR->Int)(L:List VxR)(n:Nat)(w:D0)(u v:S2)(wr:D0):Prop:=
 ∃i j:Nat,u=Wm eQ i/\v=Wm eQ j/\i<=j/\j<=n/\(∀k (h:k<L.length),k<i->a L[k]<0)/\(∀k (h:k<L.length),j<=k->0<=a L[k])/\VI w.heap.size w wr
def I1(a:VxR->Int)(L:List VxR)(n:Nat)(w:D0)(e:WE)(w':D0):Prop:=
 ∃(i:Nat)(f:Bool),e=ZY (ZZ #[Wm eQ i,ZX f])/\i<=n/\(∀k (h:k<L.length),k<i->a L[k]<0)/\(∀k (h:k<L.length),i<=k->0<=a L[k])/\(f=VD↔∃h:i<L.length,a L[i]=0)/\VI w.heap.size w w'
def Ju(F:Nat)(r:VxR->Int)(A:Option Xo)(n k:Nat)(L:List VxR)(t:Int)(w:D0)(eg:∀args w,(X4 F args).run Tryz.prog w=.ok (.enter F args) w)
  (hp:VCmpW F r t w) (hr:Rd w w.heap.size 3 A n (L.flatMap Dk)) (hl:L.length=n) (hn:n<=100000) (R:∀x∈L,True)
  (y:∀(i j:Nat)(hi:i<L.length)(hj:j<L.length),i<=j->r L[i]<=r L[j]) :
  VX Tryz.prog 72 #[WK A n k,Wm eQ t,.func (.func F) #[] #[]] w (I1 r L n w):=by
 have HR:=LH hr;clear hr;have HP:=LH hp;clear hp;have HM:=LH y;clear y;have W:=LH R;clear R;have Z:=LH hl;clear hl;go_enter Tryz.func72,Tryz.ntmps72;go_wp2_with fail;go_loopw [9,10] (N4 r L n w) (λu v _=>(intOf v).toNat-(intOf u).toNat)
 case atStart=>exact⟨0,n,rfl,rfl,VG _,Hi _,λk h G=>ZB G Z0,λk h G=>ZB G (Z4 Z.o),VC _ _⟩
 obtain⟨i,j,rfl,rfl,a6,a0,S,U,d⟩:=hrel;have B:=LH d;have N:=LH S;clear S;have O:=LH U;clear U;by_cases a4:(i:Int)<j
 ·have a3:i<=(i+j) / 2:=by omega
  have a2:(i+j) / 2<j:=by omega
  obtain⟨g',o',x,rfl,J,I,h0,h1,G⟩:=(HR.o.below d).d6 Z.o (j:=(i+j) / 2) Z0;have a1:g'<wr.heap.size:=VF J d.size;have Q:=W.o x (N2 I);have c:=HP.o wr x d Q;have X:=LH c;clear c;have HX:=LH I;clear I d;go_wp2_with fail;refine X.o.mono ?_;rintro e w2 ⟨rfl,z⟩;have p:=B.o.trans (z.mono B.o.size);have E:=LH p;clear p z X;obtain⟨D,s⟩:=ZC.1 HX.o;have V:=LH s;clear s;by_cases Y:r x<0
  ·have d1:decide (r x<0)=VD:=ZA Y;have a:N4 r L n w (Wm eQ (((i+j) / 2+1:Nat):Int)) (Wm eQ j) w2:=by
    refine⟨(i+j) / 2+1,j,rfl,rfl,Z0,a0,λq hq G=>?_,O.o,E.o⟩;have:=HM.o q ((i+j) / 2) hq D Z0;rw[V.o]at this;omega
   have M:=LH a;clear a Y;go_wp2_with fail;go_roundw;exact M.o;simp[intOf];omega
  have d1:decide (r x<0)=L1:=Z9 Y;have a:N4 r L n w (Wm eQ i) (Wm eQ (((i+j) / 2:Nat):Int)) w2:=by
   refine⟨i,(i+j) / 2,rfl,rfl,Z0,Z0,N.o,λq hq G=>?_,E.o⟩;have:=HM.o ((i+j) / 2) q D hq G;rw[V.o]at this;omega
  have M:=LH a;clear a Y;go_wp2_with fail;go_roundw;exact M.o;simp[intOf];omega
 obtain rfl:j=i:=by omega
 by_cases a5:(j:Int)<n
 ·obtain⟨g',o',x,rfl,J,I,h0,h1,G⟩:=(HR.o.below d).d6 Z.o (j:=j) Z0;have a1:g'<wr.heap.size:=VF J d.size;have c:=HP.o wr x d (W.o x (N2 I));have X:=LH c;clear c;have HX:=LH I;clear I d;go_wp2_with fail;refine X.o.mono ?_;rintro e w2 ⟨rfl,z⟩;have p:=B.o.trans (z.mono B.o.size);have E:=LH p;clear p z X;have f:I1 r L n w (ZY (ZZ #[Wm eQ j,ZX (r x == 0)])) w2:=by
   obtain⟨D,s⟩:=ZC.1 HX.o;refine⟨j,_,rfl,Z0,N.o,O.o,?_,E.o⟩;rw[beq_iff_eq];exact⟨λh=>⟨D,by rw[s];exact h⟩,λ⟨_,h⟩=>by rw[s]at h;exact h⟩
  have HF:=LH f;clear f;go_wp2_with fail;go_ret2;exact HF.o
 have f:I1 r L n w (ZY (ZZ #[Wm eQ j,ZX L1])) wr:=
  ⟨j,L1,rfl,Z0,N.o,O.o,⟨λh=>(by cases h),λ⟨h,_⟩=>ZB h (Z4 Z.o)⟩,B.o⟩
 have HF:=LH f;clear f d;go_wp2_with fail;go_ret2;exact HF.o
noncomputable abbrev kI:Da Tryz.prog 3 Int:=keyI Tryz.underlying3
noncomputable abbrev kS:Da Tryz.prog 9 ByteArray:=keyS Tryz.underlying9
abbrev CN(i:Int):Prop:=(Lit.int eQ i).wf=VD
def CM(x:Int×Int):List S2:=[Wm eQ x.1,Wm eQ x.2]
def hM(h:Int->Option Int):Int->Option S2:=λi=>(h i).map (Wm eQ)
structure Ax where
 g:Nat
 hb:Nat
 V:S2
structure Bg(w:D0)(base n:Nat)(L:Ax)(k:Kx):Prop where
 al:Ae w L.g 168 #[.map (Bs L.hb),L.V]
 holds:Ab kI w L.hb n (hM k.h)
 row:w.ownsRow base 166 2 L.V k.ws.length (k.ws.flatMap CM)
 a4:base<=L.g
 loh:base<=L.hb
 eg:∀o m,k.h o=Bs m->CN o/\CN m
 okw:∀x∈k.ws,CN x.1/\CN x.2
 len:k.ws.length<=50
def AV(L:Ax)(b:Nat):Prop:=b=L.g\/b=L.hb\/L.V.ownBlock=Bs b
def Bg.fr{S:Nat->Prop}{w w':D0}{base n:Nat}{L:Ax}{k:Kx}(h:Bg w base n L k)(c:Fr S w w')(a:∀b,AV L b->¬S b):Bg w' base n L k:=
 ⟨c.al h.al (a _ (eR rfl)),h.holds.fr c (a _ (eS (eR rfl))),c.own h.row (λg d=>a g (eS (eS d))),h.a4,h.loh,h.eg,h.okw,h.len⟩
def Bg.a9{w:D0}{base n:Nat}{L:Ax}(h:Bg w base n L k)(a:AV L b):base<=b/\b<w.heap.size:=by obtain rfl|rfl|a:=a;exact⟨h.a4,h.al.lt⟩;exact⟨h.loh,h.holds.lt⟩;exact h.row.lt b a
def Bg.aW{w:D0}{base n:Nat}{L:Ax}(h:Bg w base n L k)(a:VI w.heap.size w w'):Bg w' base n L k:=
 h.fr (S:=λb=>w.heap.size<=b) ⟨a.os,a.tape,a.output,a.size,λi _ d=>a.block i Z0⟩ (λb c f=>Z4 ((h.a9 c).2))
def Bg.mono{w:D0}{base n n':Nat}{L:Ax}{k:Kx}(h:Bg w base n L k)(a:n<=n'):Bg w base n' L k:=
 ⟨h.al,h.holds.mono a,h.row,h.a4,h.loh,h.eg,h.okw,h.len⟩
def So{left:α->Bool}{p o:α}{_:Decidable (p=o)}(h:(left p && !decide (p=o))=L1):left p=L1\/p=o:=by by_cases e:p=o;exact eS e;left;simpa [e]using h
def FtRel(g c n:Nat)(h:Int->Option Int)(tx mode:Int)(w:D0)(wr:D0):Prop:=
 ∃(left:Int->Bool)(a:Nat),Ed kI wr c w.heap.size n (hM h) left a/\(∀o m,h o=Bs m->left o=L1->o≠tx->AN m mode=L1)/\VI w.heap.size w wr
def FtPost(h:Int->Option Int)(tx mode:Int)(w:D0)(e:WE)(w':D0):Prop:=∃b:Bool,e=ZY (ZX b)/\(b=VD↔Pk h tx mode)/\VI w.heap.size w w'
def TS(g I n:Nat)(V:S2)(h:Int->Option Int)(tx mode:Int)(w:D0)(z:Ae w g 168 #[.map (Bs I),V])(R:Ab kI w I n (hM h))(N:∀o m,h o=Bs m->CN o/\CN m) :
  VX Tryz.prog 112 #[ZW (Bs ⟨g,0,B0⟩),Wm eQ tx,Wm eQ mode] w (FtPost h tx mode w):=by
 have c0:=z.cell 0;simp only[NW,Ft]at c0;have aa:=z.lt;have a8:=LH N;clear N;have HM:=LH R;clear R;go_enter Tryz.func112,Tryz.ntmps112;go_wp2_with (at_range;refine q32 rfl _ 61 3 rfl Tryz.underlying61 rfl HM.o ?_;intro w0 Y y U BJ)
 go_frame
 go_loopw [7] (λ_ wr=>FtRel g I n h tx mode w wr) (λ_ wr=>wr.rangeLeft I w.heap.size)
 case atStart=>
  refine⟨_,Y,y,λo m ho hl=>?_,U.bH⟩;simp[hM,ho]at hl
 obtain⟨left,ab,M,O,W⟩:=hrel;have a0:=LH M;have a1:=LH O;clear O;have G:=LH W;clear W;clear M;go_wp2_with (at_next;refine q3m rfl _ rfl rfl a0.o ?_ ?_)
 ·intro a5;go_wp2_with fail;go_ret;exact⟨VD,rfl,by
   simp only[true_iff];exact λo m ho c=>a1.o o m ho (a5 o (a8.o o m ho).1) c,G.o⟩
 intro o v w1 A a9 a4 a u S a6 a3 a7;obtain⟨m,R,rfl⟩:∃m,h o=Bs m/\v=Wm eQ m:=by
  unfold hM at a;cases e:h o with
  |none=>rw[e]at a;cases a
  |some m=>rw[e]at a;injection a with a;exact⟨m,rfl,a.symm⟩
 have X:VI w.heap.size w w1:=G.o.trans (a6.below (λi (hi:i=_)=>Z0) G.o.size);have s:=LH X;clear X;have D:=LH R;clear R;have f:=LH u;clear u a a4;rw[show kI.val o=Wm eQ o from rfl]at a7 ⊢;have d:(o≠tx->AN m mode=L1)->∀p m,h p=Bs m->(left p=L1\/p=o)->p≠tx->AN m mode=L1:=λhc p L q hl c=>by
  obtain hl|e:=hl;exact a1.o p L q hl c;subst e;rw[D.o]at q;injection q with q;rw[<- q];exact hc c
 have Z:=LH d;clear d;have Q:w1.rangeLeft I w.heap.size<wr.rangeLeft I w.heap.size:=by
  rw[f.o.left_eq,a0.o.left_eq];exact S
 have a2:=LH Q;clear Q S a3 BJ U y;by_cases r:o=tx
 ·have d1:(o != tx)=L1:=Z6 r;have E:=LH (Z.o (λc=>ZB r c));clear r;go_wp2_with fail;go_roundw
  case rel=>exact⟨_,A,f.o,λp L q hl=>E.o p L q (So hl),s.o⟩
  case measure=>exact a2.o
 have d1:(o != tx)=VD:=Z6 r;by_cases B:m=2
 ·have d2:(m == 2)=VD:=Z6 B;have E:=LH (show ¬Pk h tx mode from λhf=>by have:=hf o m D.o r;rw[B]at this;simp[AN]at this);clear r;clear B;go_wp2_with fail;go_ret;exact⟨L1,rfl,by simp only[Yd,false_iff];exact E.o,s.o⟩
 have d2:(m == 2)=L1:=Z6 B;by_cases J:mode=2
 ·have d3:(mode == 2)=VD:=Z6 J;have E:=LH (show ¬Pk h tx mode from λhf=>by have:=hf o m D.o r;rw[J]at this;simp[AN]at this);clear r B J;go_wp2_with fail;go_ret;exact⟨L1,rfl,by simp only[Yd,false_iff];exact E.o,s.o⟩
 have d3:(mode == 2)=L1:=Z6 J;have E:=LH (Z.o (λ_=>by simp[AN,B,J]));clear r B J;go_wp2_with fail;go_roundw
 case rel=>exact⟨_,A,f.o,λp L q hl=>E.o p L q (So hl),s.o⟩
 case measure=>exact a2.o
def flat2:∀(l:List (Int×Int)) (j:Nat) (x:Int×Int),l[j]? = Bs x->∀i,i<2->(l.flatMap CM)[j*2+i]? = (CM x)[i]?
 |[],j,p,h,i,a=>by simp at h
 |q::l,0,p,h,i,a=>by
  simp at h;subst h;rw[VH,VZ (by show _<2;omega)];simp
 |q::l,j+1,p,h,i,a=>by
  have d:l[j]? = Bs p:=Z6 h;have e:(j+1)*2+i=(j*2+i)+2:=by omega
  have c:(CM q).length=2:=rfl;rw[e,VH,Wg (by rw[c];omega),c,Xc];exact flat2 l j p d i a
def Rd.cP{w:D0}{n:Nat}{A:Option Xo}{l:List (Int×Int)}(h:Rd w B 2 A n (l.flatMap CM))(hl:l.length=n)(p:j<n):∃g off x,A=Bs ⟨g,off,B0⟩/\g<B/\l[j]? = Bs x/\
  w.cell? ⟨g,off+j*2,B0⟩=Bs (Wm eQ x.1)/\w.cell? ⟨g,off+j*2+1,B0⟩=Bs (Wm eQ x.2):=by
 obtain⟨g,off,e,f,d⟩:=h.2 Z0;have a:l[j]? = Bs l[j]:=K0 Z0;have c:=flat2 l j _ a;exact⟨g,off,l[j],e,f,a,d (j*2) _ (c 0 Z0),d (j*2+1) _ (c 1 Z0)⟩
def wtV(x:Int×Int):S2:=.agg #[Wm eQ x.1,Wm eQ x.2]
def LG(F:Nat)(lb:Array S2)(p:Int×Int->Bool)(w:D0):Prop:=
 ∀(W:D0)(x:Int×Int),VI w.heap.size w W->VX Tryz.prog F (#[wtV x]++lb) W λe w'=>e=ZY (ZX (p x))/\VI W.heap.size W w'
def C4(p:Int×Int->Bool)(L:List (Int×Int)):Int:=match L.findIdx? p with|some i=>(i:Int)|none=>-1
def R1(p:Int×Int->Bool)(L:List (Int×Int)):decide (0<=C4 p L)=L.any p:=by
 unfold C4;rcases h:L.findIdx? p with _|i;rw[Wp]at h;have:L.any p=L1:=by rw[Xw];intro x a;simp[h x a]
 rw[this];rfl;rw[VP]at h;obtain⟨hl,c,_⟩:=h;have:L.any p=VD:=by rw[X1];exact⟨L[i],Wy hl,c⟩
 rw[this];simp
def Vl(p:Int×Int->Bool)(L:List (Int×Int)):-1<=C4 p L/\C4 p L<=L.length:=by unfold C4;rcases h:L.findIdx? p with _|i;simp only;omega;rw[VP]at h;obtain⟨hl,a,_⟩:=h;simp only;omega
def WiRel(p:Int×Int->Bool)(L:List (Int×Int))(n:Nat)(w:D0)(v:S2)(wr:D0):Prop:=∃j:Nat,v=Wm eQ j/\j<=n/\(∀x∈L.take j,p x=L1)/\VI w.heap.size w wr
def q8c(F:Nat)(lb:Array S2)(p:Int×Int->Bool)(A:Option Xo)(n k:Nat)(L:List (Int×Int))(w:D0)(eg:∀args w,(X4 F args).run Tryz.prog w=.ok (.enter F args) w)
  (d:LG F lb p w) (O:Rd w w.heap.size 2 A n (L.flatMap CM)) (hl:L.length=n) (Z:n<=100000) :
  VX Tryz.prog 111 #[WK A n k,.func (.func F) #[] lb] w λe w'=>e=ZY (Wm eQ (C4 p L))/\VI w.heap.size w w':=by
 have U:=LH O;clear O;have V:=LH d;clear d;go_enter Tryz.func111,Tryz.ntmps111;go_wp2_with fail;go_loopw [8] (WiRel p L n w) (λv _=>n-(intOf v).toNat)
 case atStart=>exact⟨0,rfl,VG _,(λx z=>by simp at z),VC _ _⟩
 obtain⟨j,rfl,hj,f,c⟩:=hrel;by_cases Q:(j:Int)<n
 ·obtain⟨S,Y,x,rfl,N,z,h0,h1⟩:=(U.o.below c).cP hl (j:=j) Z0;have R:S<wr.heap.size:=VF N c.size;have a:=V.o wr x c;have I:j<L.length:=by omega
  have u:p x=VD->C4 p L=j:=λd=>by
   have:L.findIdx? p=Bs j:=by
    rw[VP];refine⟨I,?_,λi hi=>?_⟩;rw[<- Wn ((K0 I).symm.trans z)]at d;exact d;simp only[Yc];exact f _ (by rw[XF];exact⟨i,Z0,rfl⟩)
   unfold C4;rw[this]
  have q:p x=L1->∀y∈L.take (j+1),p y=L1:=λd y B=>by
   rw[VV,z]at B;obtain B|B:=XA.1 B;exact f y B;simp at B;rw[B];exact d
  have J:=LH u;clear u;have D:=LH q;clear q;have W:=LH f;clear f;have HX:=LH z;clear z;unfold wtV at a;rcases d:p x with _|_
  ·rw[d]at a;have E:=LH d;clear d;have M:=LH a;clear a;go_wp2_with fail;refine M.o.mono ?_;rintro e w2 ⟨rfl,s⟩;clear M;have G:=LH (c.trans (s.mono c.size));clear s;go_wp2_with fail;go_roundw
   case rel=>exact⟨j+1,rfl,Z0,D.o E.o,G.o⟩
   case measure=>simp[intOf];omega
  rw[d]at a;have E:=LH d;clear d;have M:=LH a;clear a;go_wp2_with fail;refine M.o.mono ?_;rintro e w2 ⟨rfl,s⟩;clear M;have G:=LH (c.trans (s.mono c.size));clear s;go_wp2_with fail;go_ret;exact⟨by rw[J.o E.o];rfl,G.o⟩
 obtain rfl:j=n:=by omega
 have r:C4 p L = -1:=by
  have:L.findIdx? p=B0:=by
   rw[Wp];intro x z;exact f x (by rw[VS Z0];exact z)
  unfold C4;rw[this]
 have X:=LH r;clear r f;go_wp2_with fail;go_ret;rw[X.o];exact⟨rfl,c⟩
def q3v(F:Nat)(lb:Array S2)(p:Int×Int->Bool)(A:Option Xo)(n k:Nat)(L:List (Int×Int))(w:D0)(y:∀args w,(X4 F args).run Tryz.prog w=.ok (.enter F args) w)
  (q:LG F lb p w) (f:Rd w w.heap.size 2 A n (L.flatMap CM)) (hl:L.length=n) (s:n<=100000) :
  VX Tryz.prog 86 #[WK A n k,.func (.func F) #[] lb] w λe w'=>e=ZY (ZX (L.any p))/\VI w.heap.size w w':=by
 have a:=q8c F lb p A n k L w y q f hl s;have r:=R1 p L;have d:=LH a;clear a q f;have B:=LH r;clear r;have u:=Vl p L;generalize C4 p L=z at *;go_enter Tryz.func86,Tryz.ntmps86;go_wp2_with fail;refine d.o.mono ?_;rintro e w2 ⟨rfl,c⟩;go_wp2_with fail;go_ret;rw[<- B.o];exact⟨rfl,c⟩
def Q8(tx mode:Int)(x:Int×Int):Bool:=decide (x.1<tx) && AN x.2 mode
def Rj(a:List (Int×Int))(tx mode:Int):q6x a tx mode=a.any (Q8 tx mode):=rfl
def q5l{w:D0}(h:VI w.heap.size w W){p:Xo}{v:S2}(a:w.cell? p=Bs v):W.cell? p=Bs v:=(h.cell (p:=p) (V5 w _ a)).trans a
def qb1(b:Nat)(tx:Int)(w:D0)(c:w.cell? ⟨b,0,B0⟩=Bs (Wm eQ tx)):LG 87 #[ZW (Bs ⟨b,0,B0⟩)] (λx=>decide (x.1=tx)) w:=by
 intro W x p;have c:=q5l p c;have f:=V5 W _ c;have a:∀o,VI W.heap.size W (W.alloc o):=λo=>(VC _ _).alloc (Hi _) _
 have d:=LH a;clear a;unfold wtV;show VX _ _ #[_,_] _ _;go_enter Tryz.func87,Tryz.ntmps87;go_wp2_with fail;go_ret;exact⟨rfl,d.o _⟩
def q5x(b:Nat)(tx:Int)(w:D0)(c:w.cell? ⟨b,0,B0⟩=Bs (Wm eQ tx)):LG 103 #[ZW (Bs ⟨b,0,B0⟩)] (λx=>decide (x.1=tx)) w:=by
 intro W x p;have c:=q5l p c;have f:=V5 W _ c;have a:∀o,VI W.heap.size W (W.alloc o):=λo=>(VC _ _).alloc (Hi _) _
 have d:=LH a;clear a;unfold wtV;show VX _ _ #[_,_] _ _;go_enter Tryz.func103,Tryz.ntmps103;go_wp2_with fail;go_ret;exact⟨rfl,d.o _⟩
def QW(b c:Nat)(tx mode:Int)(w:D0)(s:w.cell? ⟨b,0,B0⟩=Bs (Wm eQ tx))(r:w.cell? ⟨c,0,B0⟩=Bs (Wm eQ mode)) :
  LG 113 #[ZW (Bs ⟨b,0,B0⟩),ZW (Bs ⟨c,0,B0⟩)] (Q8 tx mode) w:=by
 intro W x y;have s:=q5l y s;have r:=q5l y r;have z:=V5 W _ s;have u:=V5 W _ r;have p:∀o,VI W.heap.size W (W.alloc o):=λo=>(VC _ _).alloc (Hi _) _
 have d:=LH p;clear p;unfold wtV;show VX _ _ #[_,_,_] _ _;by_cases a:x.1<tx
 ·have B:decide (x.1<tx)=VD:=ZA a;by_cases f:x.2=2
  ·have A:(x.2 == 2)=VD:=Z6 f;have q:=LH (show Q8 tx mode x=VD by simp[Q8,AN,a,f]);clear a f;go_enter Tryz.func113,Tryz.ntmps113;go_wp2_with fail;go_ret;rw[q.o];exact⟨rfl,d.o _⟩
  have A:(x.2 == 2)=L1:=Z6 f;have q:=LH (show Q8 tx mode x=(mode == 2) by rw[XW];simp[Q8,AN,a,f]);clear a f;go_enter Tryz.func113,Tryz.ntmps113;go_wp2_with fail;go_ret;rw[q.o];exact⟨rfl,d.o _⟩
 have B:decide (x.1<tx)=L1:=Z9 a;have q:=LH (show Q8 tx mode x=L1 by simp[Q8,a]);clear a;go_enter Tryz.func113,Tryz.ntmps113;go_wp2_with fail;go_ret;rw[q.o];exact⟨rfl,d.o _⟩
def Rz{P:Xh}{f:FuncId}{d:Func}{c:Code}(p:P.funcs[f]? = Bs d)(a:(d.name == "runtime.NumGoroutine")=L1) (q:d.body=Bs c):∀(args:Array S2)(w:D0),(X4 f args).run P w=.ok (.enter f args) w:=by
 intro args w;have r:d.name ≠ "runtime.NumGoroutine" := by simpa using a
 simp[X4,p,r,q,mark]
def qe0{w:D0}{n:Nat}(f:Ab kI w a n (hM h))(d:CN tx):(XV 61 (.map (Bs a)) (Wm eQ tx) L1).run Tryz.prog w=.ok (Wm eQ (AE h tx)) w:=by
 have c:(Yh 3).run Tryz.prog w=.ok (Wm eQ 0) w:=by kernel_rfl
 have:=(f.cn Tryz.underlying61 c (x:=tx) d).2;rw[show kI.val tx=Wm eQ tx from rfl]at this;rw[this];unfold hM AE;cases h tx<;>rfl
def qe1(g N n Z kk:Nat)(V:S2)(h:Int->Option Int)(tx mode:Int)(A:Option Xo)(B:List (Int×Int))(w:D0)(r:Ae w g 168 #[.map (Bs N),V])(Y:Ab kI w N n (hM h))(a1:∀o m,h o=Bs m->CN o/\CN m)
  (a0:CN tx) (hr:Rd w w.heap.size 2 A Z (B.flatMap CM)) (hl:B.length=Z) (hn:Z<=100000) :
  VX Tryz.prog 88 #[ZW (Bs ⟨g,0,B0⟩),Wm eQ tx,Wm eQ mode,WK A Z kk] w λe w'=>e=ZY (ZX (Ai h tx mode B))/\VI w.heap.size w w':=by
 have E:VI w.heap.size w ((w.alloc (eT #[Wm eQ tx] 3)).alloc (eT #[Wm eQ mode] 3)):=((VC _ _).alloc (Hi _) _).alloc Z3 _;have a8:Ae ((w.alloc (eT #[Wm eQ tx] 3)).alloc (eT #[Wm eQ mode] 3)) w.heap.size 3 #[Wm eQ tx]:=(Ae.b4 w _ _).alloc _;have D:Ae ((w.alloc (eT #[Wm eQ tx] 3)).alloc (eT #[Wm eQ mode] 3)) (w.heap.size+1) 3 #[Wm eQ mode]:=by
  have:=Ae.b4 (w.alloc (eT #[Wm eQ tx] 3)) 3 #[Wm eQ mode];simpa using this
 have M:w.heap.size+2=((w.alloc (eT #[Wm eQ tx] 3)).alloc (eT #[Wm eQ mode] 3)).heap.size:=by simp
 have S:=r.lt;have p:∀w',VI (w.heap.size+2) ((w.alloc (eT #[Wm eQ tx] 3)).alloc (eT #[Wm eQ mode] 3)) w'->
   w'.cell? ⟨g,0,B0⟩=Bs (.map (Bs N))/\w'.cell? ⟨w.heap.size,0,B0⟩=Bs (Wm eQ tx)/\w'.cell? ⟨w.heap.size+1,0,B0⟩=Bs (Wm eQ mode)/\Ab kI w' N n (hM h):=λw' d=>by
  have c0:=(((r.below E S).below d Z0).cell 0)
  have c1:=((a8.below d Z0).cell 0)
  have c2:=((D.below d Z0).cell 0)
  exact⟨c0,c1,c2,(Y.below E Y.lt).below d (Z4 Y.lt)⟩
 have a2:=λw' (d:VI w.heap.size w w')=>TS g N n V h tx mode w' (r.below d S) (Y.below d Y.lt) a1
 have s:∀w',VI (w.heap.size+2) ((w.alloc (eT #[Wm eQ tx] 3)).alloc (eT #[Wm eQ mode] 3)) w'->VI w.heap.size w w':=λw' d=>E.trans (d.mono Z0)
 have a4:=λw' (d:VI (w.heap.size+2) ((w.alloc (eT #[Wm eQ tx] 3)).alloc (eT #[Wm eQ mode] 3)) w')=>q3v 113 #[ZW (Bs ⟨w.heap.size,0,B0⟩),ZW (Bs ⟨w.heap.size+1,0,B0⟩)] (Q8 tx mode) A Z kk B w' (Rz Tryz.func113 Z1 rfl)
   (QW w.heap.size (w.heap.size+1) tx mode w' (p w' d).2.1 (p w' d).2.2.1) ((hr.below (s w' d)).more (s w' d).size) hl hn
 have y:=LH p;clear p;have ae:=LH a2;clear a2;have ag:=LH a4;clear a4;have z:=LH s;clear s;have a9:=LH a0;clear a0;clear r Y a1 hr a8 D S;have L:=LH (VC (w.heap.size+2) ((w.alloc (eT #[Wm eQ tx] 3)).alloc (eT #[Wm eQ mode] 3)));by_cases f:mode<=AE h tx
 ·have d1:decide (mode<=AE h tx)=VD:=ZA f;have HF:=LH (SU.2 (show Cx h tx mode B from eR f));clear f;go_enter Tryz.func88,Tryz.ntmps88;go_upto_region 1 with (fail)
  have HZ:=LH M;clear E M;generalize (w.alloc (eT #[Wm eQ tx] 3)).alloc (eT #[Wm eQ mode] 3)=X at *;refine nW ?_;refine UQ (λw'=>w'.cell? ⟨g,0,B0⟩=Bs (.map (Bs N))/\w'.cell? ⟨w.heap.size,0,B0⟩=Bs (Wm eQ tx)/\w'.cell? ⟨w.heap.size+1,0,B0⟩=Bs (Wm eQ mode)/\Ab kI w' N n (hM h)) 21 ?_;have a:=y.o X.drew L.o.drew;refine nE 0 a ?_;refine nE 1 a ?_;refine nE 2 a ?_;refine nC 3 rfl (λ_ _ _ h=>h) a (λw' c=>by obtain⟨Q,f,O,G⟩:=c;go_simp;rfl) ?_;refine nC 4 rfl (λ_ _ _ h=>h) a (λw' c=>by obtain⟨Q,f,O,G⟩:=c;go_simp;rfl) ?_;refine nC 5 rfl (λ_ _ _ h=>h) a (λw' c=>by obtain⟨Q,f,O,G⟩:=c;have ac:=qe0 G a9.o;go_simp;rfl) ?_;refine nC 6 rfl (λ_ _ _ h=>h) a (λw' c=>by obtain⟨Q,f,O,G⟩:=c;go_simp;rfl) ?_;refine nE 7 a ?_;refine nE 8 a ?_;refine Cr 9 rfl Z1 Z1 Z1 Z1 (λ_ _ _ h=>h) Z1 a ?_;refine Cr 10 rfl Z1 Z1 Z1 Z1 (λ_ _ _ h=>h) Z1 a ?_;refine Cr 11 rfl Z1 Z1 Z1 Z1 (λ_ _ _ h=>h) Z1 a ?_;refine Cr 12 rfl Z1 Z1 Z1 Z1 (λ_ _ _ h=>h) Z1 a ?_;refine Cr 13 rfl Z1 Z1 Z1 Z1 (λ_ _ _ h=>h) Z1 a ?_;refine Cr 14 rfl Z1 Z1 Z1 Z1 (λ_ _ _ h=>h) Z1 a ?_;refine Cr 15 rfl Z1 Z1 Z1 Z1 (λ_ _ _ h=>h) Z1 a ?_;refine Cr 16 rfl Z1 Z1 Z1 Z1 (λ_ _ _ h=>h) Z1 a ?_;refine Cr 17 rfl Z1 Z1 Z1 Z1 (λ_ _ _ h=>h) Z1 a ?_;refine Cr 18 rfl Z1 Z1 Z1 Z1 (λ_ _ _ h=>h) Z1 a ?_;refine nE 19 a ?_;refine nG 20 (λK u=>?_);go_simp;refine u _ _ (λ_=>a) ?_;clear u K;refine nX ?_;clear a;go_wp2_with fail;go_ret;rw[HF.o];exact⟨rfl,z.o _ L.o.drew⟩
 have d1:decide (mode<=AE h tx)=L1:=Z9 f;have HN:=LH f;clear f;go_enter Tryz.func88,Tryz.ntmps88;go_upto_region 1 with (fail)
 have HZ:=LH M;clear E M;generalize (w.alloc (eT #[Wm eQ tx] 3)).alloc (eT #[Wm eQ mode] 3)=X at *;refine nW ?_;refine UQ (λw'=>w'.cell? ⟨g,0,B0⟩=Bs (.map (Bs N))/\w'.cell? ⟨w.heap.size,0,B0⟩=Bs (Wm eQ tx)/\w'.cell? ⟨w.heap.size+1,0,B0⟩=Bs (Wm eQ mode)/\Ab kI w' N n (hM h)) 21 ?_;have a:=y.o X.drew L.o.drew;refine nE 0 a ?_;refine nE 1 a ?_;refine nE 2 a ?_;refine nC 3 rfl (λ_ _ _ h=>h) a (λw' c=>by obtain⟨Q,f,O,G⟩:=c;go_simp;rfl) ?_;refine nC 4 rfl (λ_ _ _ h=>h) a (λw' c=>by obtain⟨Q,f,O,G⟩:=c;go_simp;rfl) ?_;refine nC 5 rfl (λ_ _ _ h=>h) a (λw' c=>by obtain⟨Q,f,O,G⟩:=c;have ac:=qe0 G a9.o;go_simp;rfl) ?_;refine nC 6 rfl (λ_ _ _ h=>h) a (λw' c=>by obtain⟨Q,f,O,G⟩:=c;go_simp;rfl) ?_;refine nE 7 a ?_;refine nE 8 a ?_;refine nE 9 a ?_;refine nC 10 rfl (λ_ _ _ h=>h) a (λw' c=>by obtain⟨Q,f,O,G⟩:=c;go_simp;rfl) ?_;refine nC 11 rfl (λ_ _ _ h=>h) a (λw' c=>by obtain⟨Q,f,O,G⟩:=c;go_simp;rfl) ?_;refine nG 12 (λK u=>?_);go_simp;refine(ae.o X.drew (z.o _ L.o.drew)).mono ?_;rintro e w2 ⟨b,rfl,a5,a7⟩;have D:VI (w.heap.size+2) X w2:=L.o.drew.trans (a7.mono (by have:=HZ.o;simp;omega));have J:=y.o w2 D;have R:=LH D;clear D a7;have aa:=LH a5;clear a5;go_simp;refine u _ _ (λ_=>J) ?_;clear u K a;have a:=J;clear J;obtain _|_:=b
 ·have HF:Hid (Ai h tx mode B=L1):=LH (qb7.2 (λhf=>by
   obtain hf|hf:=hf;exact HN.o hf;exact ZB (aa.o.2 hf.1) Z3))
  refine nE 13 a ?_;refine Cr 14 rfl Z1 Z1 Z1 Z1 (λ_ _ _ h=>h) Z1 a ?_;refine Cr 15 rfl Z1 Z1 Z1 Z1 (λ_ _ _ h=>h) Z1 a ?_;refine Cr 16 rfl Z1 Z1 Z1 Z1 (λ_ _ _ h=>h) Z1 a ?_;refine Cr 17 rfl Z1 Z1 Z1 Z1 (λ_ _ _ h=>h) Z1 a ?_;refine nE 18 a ?_;refine nE 19 a ?_;refine nG 20 (λK u=>?_);go_simp;refine u _ _ (λ_=>a) ?_;clear u K;refine nX ?_;clear a;go_wp2_with fail;go_ret;rw[HF.o];exact⟨rfl,z.o _ R.o⟩
 have hF:Ai h tx mode B = !(B.any (Q8 tx mode)):=by
  rw[XW,SU];have a3:=aa.o.1 rfl;have ab:=HN.o;have ad:=Rj B tx mode;unfold Cx;rw[ad];cases B.any (Q8 tx mode)<;>simp[a3,ab]
 have HF:=LH hF;clear hF;refine nE 13 a ?_;refine nE 14 a ?_;refine nE 15 a ?_;refine nG 16 (λK u=>?_);go_simp;refine(ag.o w2 R.o).mono ?_;rintro e w3 ⟨rfl,a6⟩;have W:VI (w.heap.size+2) X w3:=R.o.trans (a6.mono (Z5 R.o.size HZ.o));have I:=y.o w3 W;have ah:=LH W;clear W a6;go_simp;refine u _ _ (λ_=>I) ?_;clear u K a;have a:=I;clear I;have U:Ai h tx mode B = !(B.any (Q8 tx mode)):=HF.o;generalize B.any (Q8 tx mode)=q at U ⊢;have af:=LH U;clear U;refine nE 17 a ?_;refine nE 18 a ?_;refine nE 19 a ?_;refine nG 20 (λK u=>?_);go_simp;refine u _ _ (λ_=>a) ?_;clear u K;refine nX ?_;clear a;go_wp2_with fail;go_ret;rw[af.o];exact⟨rfl,z.o _ ah.o⟩
abbrev sx(s:ByteArray):Sx:=s.data.toList
def Bk(loc:Sx->Ax)(T:Tb):ByteArray->Option S2:=λs=>(T (sx s)).map λ_=>ZW (Bs ⟨(loc (sx s)).g,0,B0⟩)
def LB(w:D0)(n:Nat)(mb:Option Nat)(loc:Sx->Ax)(T:Tb):Prop:=
 match mb with
 |none=>∀x,T x=B0
 |some b=>Ab kS w b n (Bk loc T)
structure AF(w:D0)(base n g off:Nat)(ty:VR)(cs:Array S2)(mb:Option Nat)(loc:Sx->Ax)(T:Tb):Prop where
 al:Ae w g ty cs
 c0:cs[off]? = Bs (.map mb)
 map:LB w n mb loc T
 bO:∀x k,T x=Bs k->Bg w base n (loc x) k
 apart:∀x y,x≠y->T x≠B0->T y≠B0->∀b,AV (loc x) b->¬AV (loc y) b
 bJ:∀x,T x≠B0->x.length<=20
 ne:ty≠168/\ty≠166
 dU:∀b,mb=Bs b->base<=b
 dj:∀x,T x≠B0->Bs (loc x).hb≠mb
 bg:base<=w.heap.size
def AH(mb:Option Nat)(loc:Sx->Ax)(T:Tb)(b:Nat):Prop:=Bs b=mb\/∃x,T x≠B0/\AV (loc x) b
variable {w:D0}{base n g off:Nat}{ty:VR}{cs:Array S2}{mb:Option Nat}{loc:Sx->Ax}
def LB.fr{S:Nat->Prop}(h:LB w n mb loc T)(c:Fr S w w')(a:∀b,Bs b=mb->¬S b):LB w' n mb loc T:=by unfold LB at h ⊢;obtain _|b:=mb;exact h;exact h.fr c (a b rfl)
def AF.fr{S:Nat->Prop}(h:AF w base n g off ty cs mb loc T)(a:Fr S w w')(p:¬S g)(f:∀b,AH mb loc T b->¬S b):AF w' base n g off ty cs mb loc T:=
 ⟨a.al h.al p,h.c0,h.map.fr a (λb c=>f b (eR c)),λx k d=>(h.bO x k d).fr a (λb c=>f b (eS ⟨x,by rw[d];simp,c⟩)),h.apart,h.bJ,h.ne,h.dU,h.dj,VK h.bg a.size⟩
def AF.mono(h:AF w base n g off ty cs mb loc T){n':Nat}(a:n<=n'):AF w base n' g off ty cs mb loc T:=
 ⟨h.al,h.c0,by
  have:=h.map;unfold LB at this ⊢;obtain _|b:=mb;exact this;exact Ab.mono this a,λx k c=>(h.bO x k c).mono a,h.apart,h.bJ,h.ne,h.dU,h.dj,h.bg⟩
def AF.a9(h:AF w base n g off ty cs mb loc T)(a:AH mb loc T b):base<=b/\b<w.heap.size:=by obtain a|⟨x,c,a⟩:=a;refine⟨h.dU b a.symm,?_⟩;have:=h.map;rw[<- a]at this;exact Ab.lt (C:=kS) this;obtain⟨k,d⟩:=ZJ.1 c;exact(h.bO x k d).a9 a
def AF.aW(h:AF w base n g off ty cs mb loc T)(a:VI w.heap.size w w'):AF w' base n g off ty cs mb loc T:=
 h.fr (S:=λb=>w.heap.size<=b) ⟨a.os,a.tape,a.output,a.size,λi _ f=>a.block i Z0⟩ (λd=>Z4 h.al.lt) (λb c d=>Z4 ((h.a9 c).2))
def AF.e6(h:AF w base n g off ty cs mb loc T)(d:T x=Bs k)(c:AV (loc x) b):b≠g:=by have a:=h.bO x k d;obtain rfl|rfl|c:=c;exact a.al.ne_ h.al (λe=>h.ne.1 e.symm);exact a.holds.aV h.al;rintro rfl;exact Bh a.row h.al (λe=>h.ne.2 e.symm) c
def AF.cA(h:AF w base n g off ty cs mb loc T)(f:T x=Bs k)(q:mb=Bs c)(d:AV (loc x) b):b≠c:=by
 have p:=h.bO x k f;have a:=h.map;rw[q]at a;obtain rfl|rfl|d:=d;exact λe=>(Ab.aV (C:=kS) a p.al) e.symm
 have:=h.dj x (by rw[f];simp);rw[q]at this;exact λe=>this (by rw[e])
 rintro rfl;exact Ab.bn (C:=kS) a p.row d
def Ev{v:S2}(h:X[i]? = Bs v):X.setIfInBounds i v=X:=by apply Array.ext;simp;intro j c a;rw[Array.getElem_setIfInBounds];split;rename_i e;subst e;rw[Array.getElem?_eq_getElem a]at h;injection h with h;exact h.symm;rfl
def D6{P:Xh}(w:D0)(t k e:VR)(m:Option Nat)(h:P.underlying t=Bs (.map k e)):(binOp .eql t (.map m) (.map B0)).run P w=.ok (ZX m.isNone) w:=by simp only[binOp];simp[run_equal_map_nil w t k e m h]
def Sh{w:D0}{base n g:Nat}{loc:Sx->Ax}(h:AF w base n g i kt X B0 loc T) :
  AF ((w.alloc (.map #[] 0)).setCell ⟨g,i,B0⟩ (.map (Bs w.heap.size))) base n g i kt (X.setIfInBounds i (.map (Bs w.heap.size))) (Bs w.heap.size) loc T:=by
 have d:i<X.size:=by
  have:=h.c0;obtain h|h:=Xd i X.size;exact h;rw[Xa (Z6 h)]at this;cases this
 have c:∀x,T x=B0:=h.map;have p:Ab kS (w.alloc (.map #[] 0)) w.heap.size n (Bk loc T):=by
  have e:Bk loc T=λ_=>B0:=by funext s;unfold Bk;rw[c];rfl
  rw[e];exact(Ab.cT kS w).mono (VG _)
 have q:=h.al.lt;refine⟨(h.al.alloc _).aZ _ _,by simp[d],p.fr (Fr.aL g (w.alloc (.map #[] 0)) i (.map (Bs w.heap.size))) (λe=>Z0),λx k a=>(by rw[c]at a;cases a),λx y _ a=>ZB (c x) a,λx a=>ZB (c x) a,h.ne,λb f=>?_,λx a=>ZB (c x) a,?_⟩;injection f with f;rw[<- f];exact h.bg;have:=h.bg;simp;omega
def LS(w:D0):Ax:=⟨w.heap.size+1,w.heap.size,WK B0 0 0⟩
def AB(loc:Sx->Ax)(x:Sx)(L:Ax):Sx->Ax:=λy=>if y=x then L else loc y
def q8z{s t:ByteArray}(h:sx s=sx t):s=t:=by have:s.data=t.data:=Array.ext' h;cases s;cases t;simp_all
def Qx(loc:Sx->Ax)(T:Tb)(s:ByteArray)(L:Ax)(k:Kx):AY (Bk loc T) s (Bs (ZW (Bs ⟨L.g,0,B0⟩)))=Bk (AB loc (sx s) L) (Ar T (sx s) (Bs k)):=by
 funext t;unfold AY Bk AB Ar;by_cases e:t=s;subst e;simp;have:¬sx t=sx s:=λh=>e (q8z h)
 simp[e,this]
def tab_new{w:D0}{base n g:Nat}{loc:Sx->Ax}{s:ByteArray}(h:AF w base n g j kt X (Bs b) loc T)(V:T (sx s)=B0)(hs:(sx s).length<=20)
  (O:Ab kS w' b (n+1) (AY (Bk loc T) s (Bs (ZW (Bs ⟨w.heap.size+1,0,B0⟩)))))
  (L:Fr (λk=>k=b) ((w.alloc (.map #[] 0)).alloc (eT #[.map (Bs w.heap.size),WK B0 0 0] 168)) w') :
  AF w' base (n+1) g j kt X (Bs b) (AB loc (sx s) (LS w)) (Ar T (sx s) (Bs k0)):=by
 have U:=(h.a9 (eR rfl:AH (Bs b) loc T b))
 have r:Fr (λk=>k=b) w w':=(((Fr.refl _ w).alloc _).alloc _).trans L;have R:=h.al.lt;have J:g≠b:=by
  have I:=h.map;exact λe=>(Ab.aV (C:=kS) I h.al) e.symm
 have E:Bg w' base (n+1) (LS w) k0:=by
  have z:Ae ((w.alloc (.map #[] 0)).alloc (eT #[.map (Bs w.heap.size),WK B0 0 0] 168)) (w.heap.size+1) 168 #[.map (Bs w.heap.size),WK B0 0 0]:=by
   have:=Ae.b4 (w.alloc (.map #[] 0)) 168 #[.map (Bs w.heap.size),WK B0 0 0];simpa using this
  have G:Ab kI ((w.alloc (.map #[] 0)).alloc (eT #[.map (Bs w.heap.size),WK B0 0 0] 168)) w.heap.size (n+1) (hM k0.h):=by
   have e:hM k0.h=λ_=>B0:=by funext i;rfl
   rw[e];exact((Ab.cT kI w).mono (VG _)).alloc _
  exact⟨L.al z (by show ¬w.heap.size+1=b;omega),G.fr L (by show ¬w.heap.size=b;omega),VW _ _ _ _,by show base<=w.heap.size+1;have:=h.bg;omega,h.bg,λo m e=>(nomatch e),λx a=>(by cases a),VG _⟩
 have D:∀x k,x≠sx s->T x=Bs k->Bg w' base (n+1) (loc x) k:=λx k _ a=>((h.bO x k a).fr r (λc u=>h.cA a rfl u)).mono Z0
 have q:∀x,T x≠B0->∀c,AV (loc x) c->¬AV (LS w) c:=λx a c u A=>by
  obtain⟨k,Q⟩:=ZJ.1 a;have:=(h.bO x k Q).a9 u;obtain A|A|A:=A;simp only[LS]at A;omega;simp only[LS]at A;omega;simp[LS,Wa]at A
 have p:∀x,Ar T (sx s) (Bs k0) x≠B0->x=sx s\/(x≠sx s/\T x≠B0):=λx a=>by
  unfold Ar at a;split at a;rename_i e;exact eR e;rename_i e;exact eS ⟨e,a⟩
 have d:∀x,x≠sx s->AB loc (sx s) (LS w) x=loc x:=λx e=>by unfold AB;rw[Z7 e]
 have f:AB loc (sx s) (LS w) (sx s)=LS w:=by unfold AB;rw[Z8 rfl]
 refine⟨r.al h.al J,h.c0,?_,λx k a=>?_,λx y B a N c u=>?_,λx a=>?_,h.ne,h.dU,λx a=>?_,Z5 r.size h.bg⟩;show Ab kS w' b (n+1) _;have e:=Qx loc T s (LS w) k0;rw[show(LS w).g=w.heap.size+1 from rfl]at e;rw[e]at O;exact O;unfold Ar at a;split at a;rename_i e;subst e;injection a with a;rw[<- a,f];exact E;rename_i e;rw[d x e];exact D x k e a;obtain rfl|⟨e1,z⟩:=p x a;obtain rfl|⟨M,G⟩:=p y N;exact ZB rfl B;rw[d y M];rw[f]at u;exact λS=>q y G c S u
 rw[d x e1]at u;obtain rfl|⟨M,G⟩:=p y N;rw[f];exact q x z c u;rw[d y M];exact h.apart x y B z G c u;obtain rfl|⟨_,z⟩:=p x a;exact hs;exact h.bJ x z;obtain rfl|⟨e1,z⟩:=p x a;rw[f];simp only[LS,ne_eq,VN];omega;rw[d x e1];exact h.dj x z
def qd8{w:D0}{n:Nat}{loc:Sx->Ax}(c:Ab kS w b n (Bk loc T)){s:ByteArray}(hs:s.size<=VY) :
  (XV 98 (.map (Bs b)) (ZV s) L1).run Tryz.prog w=.ok (match T (sx s)with|none=>ZW B0|some _=>ZW (Bs ⟨(loc (sx s)).g,0,B0⟩)) w:=by
 have a:(Yh 161).run Tryz.prog w=.ok (ZW B0) w:=by kernel_rfl
 have:=(c.cn Tryz.underlying98 a (x:=s) hs).2;rw[show kS.val s=Value.string s from rfl]at this;rw[this];unfold Bk;cases T (sx s)<;>rfl
def J5(s:ByteArray):s.size=(sx s).length:=by unfold sx;rw[Wz];rfl
def qag(h:T x=Bs k):Ar T x (Bs (Ad T x))=T:=by funext y;unfold Ar Ad;by_cases e:y=x;rw[Z8 e,e,h];rfl;rw[Z7 e]
def GO(loc:Sx->Ax)(x:Sx):AB loc x (loc x)=loc:=by funext y;unfold AB;by_cases e:y=x;rw[Z8 e,e];rw[Z7 e]
def AtOr(mb:Option Nat)(w:D0)(a:Nat):Prop:=mb=Bs a\/(mb=B0/\w.heap.size<=a)
def I7(base n g off:Nat)(ty:VR)(cs:Array S2)(mb:Option Nat)(loc:Sx->Ax)(T:Tb)(x:Sx)(w:D0)(e:WE)(w':D0):Prop:=
 ∃(a:Nat)(L:Ax),e=ZY (ZW (Bs ⟨L.g,0,B0⟩))/\AF w' base (n+1) g off ty (cs.setIfInBounds off (.map (Bs a))) (Bs a) (AB loc x L) (Ar T x (Bs (Ad T x)))/\Fr (λk=>k=g\/Bs k=mb) w w'/\
  AtOr mb w a/\(T x≠B0->L=loc x)/\(T x=B0->∀b,AV L b->w.heap.size<=b)
def Ud(base n g off b:Nat)(ty:VR)(cs:Array S2)(loc:Sx->Ax)(T:Tb)(s:ByteArray)(k:Kx)(w:D0)(hI:AF w base n g off ty cs (Bs b) loc T)(c:T (sx s)=Bs k)(hs:(sx s).length<=20) :
  VX Tryz.prog 85 #[ZW (Bs ⟨g,off,B0⟩),ZV s] w (I7 base n g off ty cs (Bs b) loc T (sx s) w):=by
 have r:=(hI.al.cell off).trans hI.c0;have d:=qd8 hI.map (s:=s) (by rw[J5];unfold VY;omega);rw[c]at d;have a:I7 base n g off ty cs (Bs b) loc T (sx s) w (ZY (ZW (Bs ⟨(loc (sx s)).g,0,B0⟩))) w:=
  ⟨b,loc (sx s),rfl,by rw[Ev hI.c0,GO,qag c];exact hI.mono Z0,Fr.refl _ _,eR rfl,λ_=>rfl,λh=>by rw[c]at h;cases h⟩
 have q:=LH a;clear a;have p:=hI.al.lt;have f:=λW=>D6 W 98 _ _ (Bs b) Tryz.underlying98
 clear hI c;go_enter Tryz.func85,Tryz.ntmps85;go_wp2_with fail;go_ret;exact q.o
def at_new(base n g off:Nat)(ty:VR)(cs:Array S2)(mb:Option Nat)(loc:Sx->Ax)(T:Tb)(s:ByteArray)(w:D0)(hI:AF w base n g off ty cs mb loc T)(hT:T (sx s)=B0)(hs:(sx s).length<=20)(hn:n<1000000) :
  VX Tryz.prog 85 #[ZW (Bs ⟨g,off,B0⟩),ZV s] w (I7 base n g off ty cs mb loc T (sx s) w):=by
 have B:s.size<=VY:=by rw[J5];unfold VY;omega
 have U:=(hI.al.cell off).trans hI.c0;have f0:=hI.al.frozen off;have a1:=hI.al.lt;have S:=λW=>D6 W 98 _ _ mb Tryz.underlying98
 have HI:=LH hI;clear hI;have R:=LH hT;clear hT;obtain _|b:=mb
 case' none=>
  have q:=@YX Tryz.prog;have r:=Sh HI.o;have d:(w.alloc (.map #[] 0)).setCell ⟨g,off,B0⟩ (.map (Bs w.heap.size))=(w.setCell ⟨g,off,B0⟩ (.map (Bs w.heap.size))).alloc (.map #[] 0):=by
   rw[YA _ _ _ _ Z0]
  have u:Fr (λk=>k=g\/Bs k=B0) w ((w.alloc (.map #[] 0)).setCell ⟨g,off,B0⟩ (.map (Bs w.heap.size))):=((Fr.refl _ _).alloc _).setCell (p:=⟨g,off,B0⟩) (.inl (.inl rfl)) _;rw[d]at r u;clear d;have a:=LH r;clear r;have A:=LH u;clear u;have z:=LH (show AtOr B0 w w.heap.size from .inr ⟨rfl,Hi _⟩);have c1:=(a.o.al.cell off).trans a.o.c0;have J:w.heap.size<((w.setCell ⟨g,off,B0⟩ (.map (Bs w.heap.size))).alloc (.map #[] 0)).heap.size:=by simp
  go_enter Tryz.func85,Tryz.ntmps85;go_upto_region 3 with (fail)
  clear q U f0;have Q:=LH J;clear J;generalize hb:w.heap.size=b at *;generalize (w.setCell ⟨g,off,B0⟩ (.map (Bs b))).alloc (.map #[] 0)=f at *;have G:w.heap.size<=f.heap.size:=Z4 A.o.size;have O:=LH G;clear G;have a2:=LH hb;clear hb
 case' some=>
  have a:Hid (AF w base n g off ty (cs.setIfInBounds off (.map (Bs b))) (Bs b) loc T):=LH (by rw[Ev HI.o.c0];exact HI.o);have A:=LH (Fr.refl (λk=>k=g\/Bs k=Bs b) w);have z:=LH (show AtOr (Bs b) w b from eR rfl);have c1:=U;go_enter Tryz.func85,Tryz.ntmps85;go_upto_region 3 with (fail)
  clear U f0;have Q:=LH ((a.o.a9 (eR rfl:AH (Bs b) loc T b)).2);have O:=LH (Hi w.heap.size);obtain⟨f,rfl⟩:∃f:D0,f=w:=⟨w,rfl⟩
 all_goals
  clear HI S;have Z:=a.o.al.lt;have E:=qd8 a.o.map (s:=s) B;rw[R.o]at E;have q:=@YX Tryz.prog;have a0:=Q.o;go_wp2_with (at_mapUpdate;refine U1 (C:=kS) rfl 98 161 Tryz.underlying98 _ _ _ rfl rfl (show Ab kS _ b n (Bk loc T)from(a.o.map.alloc _).alloc _) Zx s (ZW (Bs ⟨f.heap.size+1,0,B0⟩)) rfl rfl B ?_;intro w3 D y)
  have M:=tab_new a.o R.o hs D y;have N:Fr (λk=>k=b) f w3:=(((Fr.refl _ f).alloc _).alloc _).trans y;have V:=LH M;clear M;have L:Ad T (sx s)=k0:=by unfold Ad;rw[R.o];rfl
  have Y:=LH L;clear L;have I:=A.o.trans' N (λi hi (e:i=b)=>by
   obtain h|⟨_,h⟩:=z.o;exact eS (by rw[h,e]);omega)
  have X:=LH I;clear I N y D E q;go_ret;refine⟨b,LS f,rfl,by rw[Y.o];exact V.o,X.o,z.o,λh=>ZB R.o h,λ_ c hc=>?_⟩;have:=O.o;obtain h|h|h:=hc;simp only[LS]at h;omega;simp only[LS]at h;omega;simp[LS,Wa]at h
def BD:Tryz.prog.underlying 164=Bs (.slice 166):=Tryz.underlying164
def PX:Tryz.prog.elem 164=166:=by kernel_rfl
def PY(w:D0):(sizeOf 166).run Tryz.prog w=.ok 2 w:=by kernel_rfl
def Mc:(Tryz.prog.info? 166).map (λi=>(i.zero,i.size,i.bytes))=Bs (Bs (.agg #[Wm eQ 0,Wm eQ 0]),2,16):=by kernel_rfl
def qd2:(Tryz.prog.info? 166).map (·.size)=Bs 2:=by kernel_rfl
def q5o(base n i:Nat)(V:S2)(a xs:List S2)(w:D0)(e:WE)(w':D0):Prop:=
 ∃V',e=ZY V'/\w'.ownsRow base 166 2 V' (n+1) (Cq 2 i a xs)/\Am w w' V.ownBlock V'.ownBlock
def Of{w:D0}{g:Nat}{t:VR}(h:w.heap[g]? = Bs (eT X t (0,0))):w.shape? g=Bs (t,X.size):=by unfold World.shape?;rw[h]
def Jt{w:D0}{g o:Nat}{t:VR}(h:w.heap[g]? = Bs (eT X t (0,0))):w.frozen? ⟨g,o,B0⟩=L1:=Ae.frozen (show Ae w g t X from h) o
def RQ(base n G L:Nat)(V:S2)(xs d:List S2)(w:D0)(a:w.ownsRow base 166 2 V n xs)(W:n<=100000)(r:d.length=2)(s:∀u∈d,u.oneCell'=VD)
  (q:Ae w G 166 d.toArray) (S:base<=w.heap.size) :
  VX Tryz.prog 91 #[V,Wm eQ n,WK (Bs ⟨G,0,B0⟩) 1 L] w (q5o base n n V d xs w):=by
 obtain⟨A,c,rfl,R,_⟩:=AM a;obtain⟨O,M⟩:=q1k 164 BD PX PY w A n c n (Hi _);have y:Eb w w.heap.size 2 (Bs ⟨G,0,B0⟩) 1 d:=⟨by rw[r],λ_=>⟨_,rfl,q.lt,λj u Q=>by
  rw[WM,Wk];exact(q.cell j).trans (Z6 Q)⟩⟩
 have f:Cq 2 n d xs=xs++d:=by
  unfold Cq;rw[VS (by rw[a.1];omega),Yj (by rw[a.1];omega),WB]
 have D:=LH a;clear a;have J:=LH y;clear y;have E:=LH f;clear f;have I:=LH s;clear s;clear q r;go_enter Tryz.func91,Tryz.ntmps91;go_wp2_with (at_builtin;refine q1o w rfl _ _ 164 rfl base 166 _ 2 16 BD Mc rfl Z2 _ n xs rfl D.o _ _ 1 L d rfl J.o I.o Zx Z0 S ?_;intro N w2 z B)
 have p:q5o base n n (WK A n c) d xs w (ZY N) w2:=⟨N,rfl,by rw[E.o];exact z,B⟩
 have U:=LH p;clear p z B;go_wp2_with fail;go_ret;exact U.o
def L6(base g n c i D M:Nat)(xs J:List S2)(w:D0)(d:w.ownsRow base 166 2 (WK (Bs ⟨g,0,B0⟩) n c) n xs)(hi:i<n)(s:n+1<=c)(hn:n<=100000)(L:∀u∈xs,u.oneCell'=VD)(N:J.length=2)(O:∀u∈J,u.oneCell'=VD)
  (p:Ae w D 166 J.toArray) (Q:D≠g) (hb:base<=w.heap.size) :
  VX Tryz.prog 91 #[WK (Bs ⟨g,0,B0⟩) n c,Wm eQ i,WK (Bs ⟨D,0,B0⟩) 1 M] w (q5o base n i (WK (Bs ⟨g,0,B0⟩) n c) J xs w):=by
 obtain⟨a5,a3⟩:=q1k 164 BD PX PY w (Bs ⟨g,0,B0⟩) n c i Z0;obtain⟨ex,V,z⟩:=GG d s;obtain⟨a0,q1,hg,q2,q3,X,q4⟩:=q4b d;clear q1 q2 q3 q4;have I:a0.size≠0:=by rw[X];have:0<c*2:=Nat.mul_pos Z0 Z2;omega
 have Y:∀lb cb,(X4 114 #[WK (Bs ⟨D,0,B0⟩) 1 M,WK (Bs ⟨g,(i+1)*2,B0⟩) lb cb]).run Tryz.prog w=.ok (.value (ZX L1)) w:=λlb cb=>by
  rw[run_callFunc_extern Tryz.func114 Z1 Z1 Z1 (e:=Extern.SlicesOverlaps.overlaps #[164,164] #[4]) Z1,
   Lib.run_overlaps_apart w 164 4 166 BD 2 PY ⟨D,0,B0⟩ ⟨g,(i+1)*2,B0⟩ 1 M lb cb Q _ _ _ _ (Of p) (Of hg) I (Jt p) (Jt p)]
  rfl
 have B:=d.1;obtain⟨w2,r,y,U⟩:=UY (w:=w.drew) 164 164 166 BD qd2 (show w.drew.ownsRow base 166 2 (WK (Bs ⟨g,0,B0⟩) (n+1) c) (n+1) (xs++ex)from z) (i:=i+1) (m:=n-i) Z0 (xs.drop (i*2))
  (by rw[Xf,B,YW]) ⟨g,i*2,B0⟩ (λj v R=>by
   rw[WM];rw[Yo]at R;have Z:i*2+j<n*2:=by rw[<- B];exact(ZC.1 R).1
   show w.cell? _=_;exact(d.cellAt _ Z).trans R) (λu hu=>L u (Yf hu)) (n-i) (c-(i+1)) (n+1-i) (c-i) (by show min _ _=_;omega)
 have A:Fr (λk=>k=g) w w2:=(Fr.refl _ w).drew.trans U;have E:Ae w2 D 166 J.toArray:=A.al p Q;obtain⟨w3,q,f,S⟩:=UY (w:=w2) 164 164 166 BD qd2 y (i:=i) (m:=1) Z0 J (by rw[N]) ⟨D,0,B0⟩ (λj v R=>by
   rw[WM,Wk];exact(E.cell j).trans (Z6 R)) O (n+1-i) (c-i) 1 M (by show min _ _=_;omega)
 have a4:=(q3w d).2;rw[qaj B hi V]at f;have G:q5o base n i (WK (Bs ⟨g,0,B0⟩) n c) J xs w (ZY (WK (Bs ⟨g,0,B0⟩) (n+1) c)) w3:=
  ⟨_,rfl,f,(A.trans S).mono (λk _ h=>by rw[h];rfl),eR rfl⟩
 have s1:=q47 164 BD PX PY w g n c (n+1) ((n:Int)+1) Z0 s;have s2:=λW=>RF 164 BD PX PY W g (n+1) c (i+1) ((i:Int)+1) Z0 Z0 Z0
 rw[show n+1-(i+1)=n-i by omega]at s2;have s3:=λW=>RF 164 BD PX PY W g (n+1) c i (i:Int) rfl Z0 Z0
 have HF:=LH G;clear G z y f U S A d p E hg X I V;have a7:IntKind.i64.wrap ((i:Int)+1)=(i:Int)+1:=V4 _ Z0;have a6:IntKind.i64.wrap ((n:Int)+1)=(n:Int)+1:=V4 _ Z0;have a2:=LH r;clear r;have a1:=LH q;clear q;have a8:=LH L;clear L;clear O N B;have d1:((i:Int) == (n:Int))=L1:=by rw[beq_eq_false_iff_ne];omega
 have d2:decide ((c:Int)<(n:Int)+1)=L1:=by rw[decide_eq_false_iff_not];omega
 go_enter Tryz.func91,Tryz.ntmps91;go_wp2_with (simp only[Y])
 refine nW ?_;refine UQ (λ_=>True) 9 ?_;have a:True:=trivial;refine nE 0 a ?_;refine nE 1 a ?_;refine nE 2 a ?_;refine nE 3 a ?_;refine nE 4 a ?_;refine nE 5 a ?_;refine nE 6 a ?_;refine nE 7 a ?_;refine nG 8 (λK hK=>?_);refine q2y (.tmp 73) (.tmp 76) 164 164 rfl (WK (Bs ⟨g,(i+1)*2,B0⟩) (n-i) (c-(i+1))) (WK (Bs ⟨g,i*2,B0⟩) (n+1-i) (c-i)) _ (by simp[Xm,Xq]) (by simp[Xm,Xq]) (a2.o _) ?_;go_simp;refine hK _ _ (λ_=>a) ?_;clear hK K;refine nX ?_;clear a;go_wp2_with (refine q25 rfl (.tmp 80) (.tmp 81) 164 164 rfl (WK (Bs ⟨g,i*2,B0⟩) (n+1-i) (c-i)) (WK (Bs ⟨D,0,B0⟩) 1 M) _ rfl rfl (a1.o _) ?_)
 go_ret;exact HF.o
def Pt(base g n c i S vc:Nat)(xs N:List S2)(w:D0)(d:w.ownsRow base 166 2 (WK (Bs ⟨g,0,B0⟩) n c) n xs)(hi:i<n)(a3:c<n+1)(hn:n<=100000)(B:∀u∈xs,u.oneCell'=VD)(O:N.length=2)(V:∀u∈N,u.oneCell'=VD)
  (Q:Ae w S 166 N.toArray) (hb:base<=w.heap.size) :
  VX Tryz.prog 91 #[WK (Bs ⟨g,0,B0⟩) n c,Wm eQ i,WK (Bs ⟨S,0,B0⟩) 1 vc] w (q5o base n i (WK (Bs ⟨g,0,B0⟩) n c) N xs w):=by
 obtain⟨aa,a9⟩:=q1k 164 BD PX PY w (Bs ⟨g,0,B0⟩) n c i Z0;have hc:=q3w d;have D:=d.1;obtain⟨i0,Z,U,I,L⟩:=YM Mc;have ad:g<w.heap.size:=(d.lt g rfl).2;obtain⟨M,w1,f,p,E,a2⟩:=qce (w:=w) 164 3 i0 _ eQ eQ BD Tryz.underlying3 Z U I rfl Z2 (q5f d (i:=i) Z0) (k:=n+1-i) Z0 Z0 Z0 (by rw[L];decide) (λu hu=>B u (List.mem_of_mem_take hu)) hb;rw[show i+(n+1-i)=n+1 by omega]at f p;have ae:=(q3w p).1;have G:Ae w1 S 166 N.toArray:=E.al Q (λh=>h);have z:=E.own d (λ_ _ h=>h);have a8:=Q.lt;obtain⟨w2,s,A,R⟩:=UY (w:=w1) 164 164 166 BD qd2 p (i:=i) (m:=1) Z0 N (by rw[O]) ⟨S,0,B0⟩ (λj v Y=>by
   rw[WM,Wk];exact(G.cell j).trans (Z6 Y)) V (n+1-i) (M-i) 1 vc (by show min _ _=_;omega)
 have y:=R.own z (λk hk e=>by
   have:g=k:=by simpa [Wa]using hk
   omega)
 obtain⟨w3,r,q,a1⟩:=UY (w:=w2.drew) 164 164 166 BD qd2 (show w2.drew.ownsRow base 166 2 (WK (Bs ⟨w.heap.size,0,B0⟩) (n+1) M) (n+1) _ from A) (i:=i+1) (m:=n-i) Z0 (xs.drop (i*2))
  (by rw[Xf,D,YW]) ⟨g,i*2,B0⟩ (λj v Y=>by
   rw[WM];rw[Yo]at Y;have a4:i*2+j<n*2:=by rw[<- D];exact(ZC.1 Y).1
   show w2.cell? _=_;exact(y.cellAt _ a4).trans Y) (λu hu=>B u (Yf hu)) (n-i) (M-(i+1)) (n-i) (c-i) (by show min _ _=_;omega)
 rw[q8n D Z0 (by rw[Wz,Xz];rfl) O]at q;have a0:Fr (λk=>Bs k=Wa (WK (Bs ⟨g,0,B0⟩) n c)) w w3:=(((E.trans' R (λk hk (e:k=w.heap.size)=>Z0)).drew).trans' a1 (λk hk (e:k=w.heap.size)=>Z0)).mono (λk _ h=>h.elim);have J:q5o base n i (WK (Bs ⟨g,0,B0⟩) n c) N xs w (ZY (WK (Bs ⟨w.heap.size,0,B0⟩) (n+1) M)) w3:=
  ⟨_,rfl,q,a0,eS ⟨_,rfl,Hi _⟩⟩
 have X:(n:Int)+1-i=((n+1-i:Nat):Int):=by omega
 have s1:=q47 164 BD PX PY w g n c i (i:Int) rfl Z0;have s2:=λW=>RF 164 BD PX PY W w.heap.size (n+1) M i (i:Int) rfl Z0 Z0
 have s3:=λW=>RF 164 BD PX PY W w.heap.size (n+1) M (i+1) ((i:Int)+1) Z0 Z0 Z0
 rw[show n+1-(i+1)=n-i by omega]at s3;have s4:=λW=>RF 164 BD PX PY W g n c i (i:Int) rfl Z0 Z0
 have HF:=LH J;clear J p A q E R a1 d z y Q G Z U I L a0 a2;have ac:IntKind.i64.wrap ((i:Int)+1)=(i:Int)+1:=V4 _ Z0;have ab:IntKind.i64.wrap ((n:Int)+1)=(n:Int)+1:=V4 _ Z0;rw[<- X]at f;have a7:=LH f;clear f X;have a6:=LH s;clear s;have a5:=LH r;clear r;have af:=LH B;clear B;clear V O D;have d1:((i:Int) == (n:Int))=L1:=by rw[beq_eq_false_iff_ne];omega
 have d2:decide ((c:Int)<(n:Int)+1)=VD:=by rw[decide_eq_true_eq];omega
 go_enter Tryz.func91,Tryz.ntmps91;go_wp2_with (first|(refine q2c rfl (.tmp 34) (.tmp 39) 164 3 rfl (WK (Bs ⟨g,0,B0⟩) i c) (Wm eQ ((n:Int)+1-i)) _ rfl rfl (a7.o _) ?_)|(refine q25 rfl (.tmp 43) (.tmp 44) 164 164 rfl (WK (Bs ⟨w.heap.size,i*2,B0⟩) (n+1-i) (M-i)) (WK (Bs ⟨S,0,B0⟩) 1 vc) _ rfl rfl (a6.o _) ?_))
 refine nW ?_;refine UQ (λ_=>True) 9 ?_;have a:True:=trivial;refine nE 0 a ?_;refine nE 1 a ?_;refine nE 2 a ?_;refine nE 3 a ?_;refine nE 4 a ?_;refine nE 5 a ?_;refine nE 6 a ?_;refine nE 7 a ?_;refine nG 8 (λK hK=>?_);refine q2y (.tmp 50) (.tmp 53) 164 164 rfl (WK (Bs ⟨w.heap.size,(i+1)*2,B0⟩) (n-i) (M-(i+1))) (WK (Bs ⟨g,i*2,B0⟩) (n-i) (c-i)) _ (by simp[Xm,Xq]) (by simp[Xm,Xq]) (a5.o _) ?_;go_simp;refine hK _ _ (λ_=>a) ?_;clear hK K;refine nX ?_;clear a;go_wp2_with fail;go_ret;exact HF.o
def RR(base n i r y:Nat)(V:S2)(xs d:List S2)(w:D0)(a:w.ownsRow base 166 2 V n xs)(G:i<=n)(A:n<=100000)(s:∀u∈xs,u.oneCell'=VD)(f:d.length=2)(q:∀u∈d,u.oneCell'=VD)
  (p:Ae w r 166 d.toArray) (z:V.ownBlock≠Bs r) (B:base<=w.heap.size) :
  VX Tryz.prog 91 #[V,Wm eQ i,WK (Bs ⟨r,0,B0⟩) 1 y] w (q5o base n i V d xs w):=by
 by_cases e:i=n;subst e;exact RQ base i r y V xs d w a A f q p B;obtain⟨rfl,I⟩|⟨g,c,E,rfl,_,_,D,_⟩:=a.2;omega;by_cases h:n+1<=c;exact L6 base g n c i r y xs d w a Z0 h A s f q p (λe=>z (by rw[e];rfl)) B;exact Pt base g n c i r y xs d w a Z0 Z0 A s f q p B
def WCmpW(F:Nat)(a:(Int×Int)->Int)(t:Int)(w:D0):Prop:=
 ∀(W:D0) (x:(Int×Int)),VI w.heap.size w W->(True)->VX Tryz.prog F #[wtV x,Wm eQ t] W λe w'=>e=ZY (Wm eQ (a x))/\VI W.heap.size W w'
def N3(a:(Int×Int)->Int)(L:List (Int×Int))(n:Nat)(w:D0)(u v:S2)(wr:D0):Prop:=
 ∃i j:Nat,u=Wm eQ i/\v=Wm eQ j/\i<=j/\j<=n/\(∀k (h:k<L.length),k<i->a L[k]<0)/\(∀k (h:k<L.length),j<=k->0<=a L[k])/\VI w.heap.size w wr
def I0(a:(Int×Int)->Int)(L:List (Int×Int))(n:Nat)(w:D0)(e:WE)(w':D0):Prop:=
 ∃(i:Nat)(f:Bool),e=ZY (ZZ #[Wm eQ i,ZX f])/\i<=n/\(∀k (h:k<L.length),k<i->a L[k]<0)/\(∀k (h:k<L.length),i<=k->0<=a L[k])/\(f=VD↔∃h:i<L.length,a L[i]=0)/\VI w.heap.size w w'
def Jk(F:Nat)(r:(Int×Int)->Int)(A:Option Xo)(n k:Nat)(L:List (Int×Int))(t:Int)(w:D0)(eg:∀args w,(X4 F args).run Tryz.prog w=.ok (.enter F args) w)
  (hp:WCmpW F r t w) (hr:Rd w w.heap.size 2 A n (L.flatMap CM)) (hl:L.length=n) (hn:n<=100000) (R:∀x∈L,True)
  (y:∀(i j:Nat)(hi:i<L.length)(hj:j<L.length),i<=j->r L[i]<=r L[j]) :
  VX Tryz.prog 89 #[WK A n k,Wm eQ t,.func (.func F) #[] #[]] w (I0 r L n w):=by
 have HR:=LH hr;clear hr;have HP:=LH hp;clear hp;have HM:=LH y;clear y;have W:=LH R;clear R;have Z:=LH hl;clear hl;go_enter Tryz.func89,Tryz.ntmps89;go_wp2_with fail;go_loopw [9,10] (N3 r L n w) (λu v _=>(intOf v).toNat-(intOf u).toNat)
 case atStart=>exact⟨0,n,rfl,rfl,VG _,Hi _,λk h O=>ZB O Z0,λk h O=>ZB O (Z4 Z.o),VC _ _⟩
 obtain⟨i,j,rfl,rfl,a6,a0,S,U,d⟩:=hrel;have B:=LH d;have M:=LH S;clear S;have N:=LH U;clear U;by_cases a4:(i:Int)<j
 ·have a3:i<=(i+j) / 2:=by omega
  have a2:(i+j) / 2<j:=by omega
  obtain⟨g',o',x,rfl,I,G,h0,h1⟩:=(HR.o.below d).cP Z.o (j:=(i+j) / 2) Z0;have a1:g'<wr.heap.size:=VF I d.size;have Q:=W.o x (N2 G);have c:=HP.o wr x d Q;have X:=LH c;clear c;have HX:=LH G;clear G d;go_wp2_with fail;refine X.o.mono ?_;rintro e w2 ⟨rfl,z⟩;have p:=B.o.trans (z.mono B.o.size);have E:=LH p;clear p z X;obtain⟨D,s⟩:=ZC.1 HX.o;have V:=LH s;clear s;by_cases Y:r x<0
  ·have d1:decide (r x<0)=VD:=ZA Y;have a:N3 r L n w (Wm eQ (((i+j) / 2+1:Nat):Int)) (Wm eQ j) w2:=by
    refine⟨(i+j) / 2+1,j,rfl,rfl,Z0,a0,λq hq O=>?_,N.o,E.o⟩;have:=HM.o q ((i+j) / 2) hq D Z0;rw[V.o]at this;omega
   have J:=LH a;clear a Y;go_wp2_with fail;go_roundw;exact J.o;simp[intOf];omega
  have d1:decide (r x<0)=L1:=Z9 Y;have a:N3 r L n w (Wm eQ i) (Wm eQ (((i+j) / 2:Nat):Int)) w2:=by
   refine⟨i,(i+j) / 2,rfl,rfl,Z0,Z0,M.o,λq hq O=>?_,E.o⟩;have:=HM.o ((i+j) / 2) q D hq O;rw[V.o]at this;omega
  have J:=LH a;clear a Y;go_wp2_with fail;go_roundw;exact J.o;simp[intOf];omega
 obtain rfl:j=i:=by omega
 by_cases a5:(j:Int)<n
 ·obtain⟨g',o',x,rfl,I,G,h0,h1⟩:=(HR.o.below d).cP Z.o (j:=j) Z0;have a1:g'<wr.heap.size:=VF I d.size;have c:=HP.o wr x d (W.o x (N2 G));have X:=LH c;clear c;have HX:=LH G;clear G d;go_wp2_with fail;refine X.o.mono ?_;rintro e w2 ⟨rfl,z⟩;have p:=B.o.trans (z.mono B.o.size);have E:=LH p;clear p z X;have f:I0 r L n w (ZY (ZZ #[Wm eQ j,ZX (r x == 0)])) w2:=by
   obtain⟨D,s⟩:=ZC.1 HX.o;refine⟨j,_,rfl,Z0,M.o,N.o,?_,E.o⟩;rw[beq_iff_eq];exact⟨λh=>⟨D,by rw[s];exact h⟩,λ⟨_,h⟩=>by rw[s]at h;exact h⟩
  have HF:=LH f;clear f;go_wp2_with fail;go_ret2;exact HF.o
 have f:I0 r L n w (ZY (ZZ #[Wm eQ j,ZX L1])) wr:=
  ⟨j,L1,rfl,Z0,M.o,N.o,⟨λh=>(by cases h),λ⟨h,_⟩=>ZB h (Z4 Z.o)⟩,B.o⟩
 have HF:=LH f;clear f d;go_wp2_with fail;go_ret2;exact HF.o
def q2l{w:D0}(h:VI B w w'):Fr (λk=>B<=k) w w':=⟨h.os,h.tape,h.output,h.size,λk _ a=>h.block k Z0⟩
def C0(k:Int):S2:=if k=0 then ZS else .iface 79 (Wm eQ k)
def NO(base n g off:Nat)(ty:VR)(cs:Array S2)(mb:Option Nat)(loc:Sx->Ax)(T:Tb)(s:ByteArray)(w:D0)(hI:AF w base n g off ty cs mb loc T)(hs:(sx s).length<=20)(c:n<1000000) :
  VX Tryz.prog 85 #[ZW (Bs ⟨g,off,B0⟩),ZV s] w (I7 base n g off ty cs mb loc T (sx s) w):=by
 cases a:T (sx s)with
 |none=>exact at_new base n g off ty cs mb loc T s w hI a hs c
 |some k=>
  obtain _|b:=mb;have:=hI.map (sx s);rw[a]at this;cases this;exact Ud base n g off b ty cs loc T s k w hI a hs
def TFr(g:Nat)(mb:Option Nat)(loc:Sx->Ax)(T:Tb)(k:Nat):Prop:=k=g\/AH mb loc T k
def Ia(s:ByteArray):((s.size:Nat):Int)=(sx s).length:=by rw[J5]
def AF.d8{w:D0}{base n g:Nat}{cs:Array S2}{mb:Option Nat}{loc:Sx->Ax}(h:AF w base n g i kt cs mb loc T){L':Ax}(G:T x=Bs k)(U:n<=n')
  (J:Fr (λb=>AV (loc x) b) w w') (Y:Bg w' base n' L' k') (W:L'.g=(loc x).g) (V:L'.hb=(loc x).hb) (Z:∀b,L'.V.ownBlock=Bs b->(loc x).V.ownBlock=Bs b\/w.heap.size<=b) :
  AF w' base n' g i kt cs mb (AB loc x L') (Ar T x (Bs k')):=by
 have p:∀b,AV L' b->AV (loc x) b\/w.heap.size<=b:=λb a=>by
  obtain a|a|a:=a;exact eR (eR (by rw[a,W]));exact eR (eS (eR (by rw[a,V])));obtain h|h:=Z b a;exact eR (eS (eS h));exact eS h
 have f:∀y,Ar T x (Bs k') y≠B0->y=x\/(y≠x/\T y≠B0):=λy d=>by
  unfold Ar at d;split at d;rename_i e;exact eR e;rename_i e;exact eS ⟨e,d⟩
 have A:∀y,y≠x->AB loc x L' y=loc y:=λy e=>by unfold AB;rw[Z7 e]
 have D:AB loc x L' x=L':=by unfold AB;rw[Z8 rfl]
 have q:T x≠B0:=by rw[G];simp
 have s:∀y,y≠x->T y≠B0->∀b,AV (loc y) b->¬AV (loc x) b:=λy e d b a=>h.apart y x e d q b a
 refine⟨J.al h.al (λa=>h.e6 G a rfl),h.c0,?_,λy O d=>?_,λy z B d S b a=>?_,λy d=>?_,h.ne,h.dU,λy d=>?_,VK h.bg J.size⟩
 ·have I:=h.map;rcases r:mb with _|c;rw[r]at I;exact ZB (I x) q;rw[r]at I;have e:Bk (AB loc x L') (Ar T x (Bs k'))=Bk loc T:=by
   funext t;unfold Bk;by_cases e:sx t=x;rw[e,D,W];unfold Ar;rw[Z8 rfl,G];rfl;rw[A _ e];unfold Ar;rw[Z7 e]
  show Ab kS w' c n' _;rw[e];exact(Ab.fr (C:=kS) I J (λa=>h.cA G r a rfl)).mono U
 ·unfold Ar at d;split at d;rename_i e;subst e;injection d with d;rw[<- d,D];exact Y;rename_i e;rw[A y e];exact((h.bO y O d).fr J (λb a=>s y e (by rw[d];simp) b a)).mono U
 obtain rfl|⟨e1,u⟩:=f y d;obtain rfl|⟨N,M⟩:=f z S;exact ZB rfl B;rw[A z N];rw[D]at a;intro L;obtain E|E:=p b a;exact s z N M b L E;obtain⟨X,Q⟩:=ZJ.1 M;have:=((h.bO z X Q).a9 L).2;omega;rw[A y e1]at a;obtain rfl|⟨N,M⟩:=f z S;rw[D];intro L;obtain E|E:=p b L;exact s y e1 u b a E;obtain⟨O,R⟩:=ZJ.1 u;have:=((h.bO y O R).a9 a).2;omega;rw[A z N];exact h.apart y z B u M b a;obtain rfl|⟨_,u⟩:=f y d;exact h.bJ y q;exact h.bJ y u;obtain rfl|⟨e1,u⟩:=f y d;rw[D,V];exact h.dj y q;rw[A y e1];exact h.dj y u
def Rh(tx:Int)(x:Int×Int):Int:=if x.1<tx then -1 else 1
def QA(tx:Int)(w:D0):WCmpW 90 (Rh tx) tx w:=by
 intro W x q _;have c:∀o,VI W.heap.size W (W.alloc o):=λo=>(VC _ _).alloc (Hi _) _
 have d:=LH c;clear c;unfold wtV;by_cases a:x.1<tx
 ·have p:decide (x.1<tx)=VD:=ZA a;have f:=LH (show Rh tx x = -1 by unfold Rh;rw[Z8 a]);clear a;go_enter Tryz.func90,Tryz.ntmps90;go_wp2_with fail;go_ret;rw[f.o];exact⟨rfl,d.o _⟩
 have p:decide (x.1<tx)=L1:=Z9 a;have f:=LH (show Rh tx x=1 by unfold Rh;rw[Z7 a]);clear a;go_enter Tryz.func90,Tryz.ntmps90;go_wp2_with fail;go_ret;rw[f.o];exact⟨rfl,d.o _⟩
def Kc{tx:Int} : ∀{L:List (Int×Int)} {i:Nat},i<=L.length->(∀k (h:k<L.length),k<i->Rh tx L[k]<0)->(∀k (h:k<L.length),i<=k->0<=Rh tx L[k])->(L.takeWhile (λx=>decide (x.1<tx))).length=i
 |[],i,a,_,_=>by simp at a;simp[a]
 |x::L,0,_,_,h2=>by
  have:=h2 0 Z3 (Hi _);simp only[List.getElem_cons_zero,Rh]at this;have c:¬x.1<tx:=λh=>by rw[Z8 h]at this;omega
  simp[c]
 |x::L,i+1,a,h1,h2=>by
  have:=h1 0 Z3 Z0;simp only[List.getElem_cons_zero,Rh]at this;have c:x.1<tx:=by
   by_cases h:x.1<tx;exact h;rw[Z7 h]at this;omega
  have d:=Kc (tx:=tx) (L:=L) (i:=i) (Z6 a) (λk h f=>by have:=h1 (k+1) (Z6 h) Z0;rw[List.getElem_cons_succ]at this;exact this) (λk h f=>by have:=h2 (k+1) (Z6 h) Z0;rw[List.getElem_cons_succ]at this;exact this);simp[c,d]
def Nw(L:List (Int×Int))(i:Nat):(L.flatMap CM).take (i*2)=(L.take i).flatMap CM:=by
 induction L generalizing i with
 |nil=>simp
 |cons x L a=>
  cases i with
  |zero=>simp
  |succ i=>rw[show(i+1)*2=i*2+2 by omega,VH,WZ,VH,<- a];simp[CM]
def Nx(L:List (Int×Int))(i:Nat):(L.flatMap CM).drop (i*2)=(L.drop i).flatMap CM:=by
 induction L generalizing i with
 |nil=>simp
 |cons x L a=>
  cases i with
  |zero=>simp
  |succ i=>rw[show(i+1)*2=i*2+2 by omega,VH,Xj,<- a];simp[CM]
def Qe{mode:Int}(a:(L.takeWhile (λx=>decide (x.1<tx))).length=i):Cq 2 i (CM (tx,mode)) (L.flatMap CM)=(Cd L (tx,mode)).flatMap CM:=by
 unfold Cq Cd;rw[Nw,Nx,Wq,VH];have c:=List.takeWhile_append_dropWhile (p:=λx:Int×Int=>decide (x.1<tx)) (l:=L);have d:L.take i=L.takeWhile (λx=>decide (x.1<tx)):=by
  conv=>lhs;rw[<- c]
  rw[<- a,List.take_left]
 have f:L.drop i=L.dropWhile (λx=>decide (x.1<tx)):=by
  conv=>lhs;rw[<- c]
  rw[<- a,List.drop_left]
 rw[d,f,XM]
def T9(hs:L.Pairwise (·.1 < ·.1)):∀(i j:Nat)(c:i<L.length)(a:j<L.length),i<=j->Rh tx L[i]<=Rh tx L[j]:=λi j c a d=>by
 have:L[i].1<=L[j].1:=by
  obtain h|h:=Xd i j;have:=ZO.1 hs i j c a h;omega;obtain rfl:i=j:=by omega
  omega
 unfold Rh;split<;>split<;>omega
def DG(x:Sx):sx ⟨x.toArray⟩=x:=by simp[sx]
def q5t(s:ByteArray):s.toList=sx s:=by obtain⟨⟨l⟩⟩:=s;show(ByteArray.mk (List.toArray l)).toList=l;simp
def Lf{P:Xh}{f:FuncId}{d:Func}{c:Code}(p:P.funcs[f]? = Bs d)(a:(d.name == "runtime.NumGoroutine")=L1) (q:d.body=Bs c):∀(args:Array S2)(w:D0),(X4 f args).run P w=.ok (.enter f args) w:=by
 intro args w;have r:d.name ≠ "runtime.NumGoroutine" := by simpa using a
 simp[X4,p,r,q,mark]
def cfV(t:Int)(x:Vx):Int:=wrap64 (x.t-t)
def NH(t:Int)(x:Vx)(w:D0):VX Tryz.prog 107 #[vxV x,Wm eQ t] w λe w'=>e=ZY (Wm eQ (cfV t x))/\VI w.heap.size w w':=by have a:VI w.heap.size w (w.alloc (eT #[Wm eQ x.t,ZV ⟨x.v.toArray⟩,ZX x.g] 145)):=(VC _ _).alloc (Hi _) _;have c:=LH a;clear a;unfold vxV cfV;go_enter Tryz.func107,Tryz.ntmps107;go_wp2_with fail;go_ret;exact⟨rfl,c.o⟩
def NI(t:Int)(x:Vx)(w:D0):VX Tryz.prog 73 #[vxV x,Wm eQ t] w λe w'=>e=ZY (Wm eQ (cfV t x))/\VI w.heap.size w w':=by have a:VI w.heap.size w (w.alloc (eT #[Wm eQ x.t,ZV ⟨x.v.toArray⟩,ZX x.g] 145)):=(VC _ _).alloc (Hi _) _;have c:=LH a;clear a;unfold vxV cfV;go_enter Tryz.func73,Tryz.ntmps73;go_wp2_with fail;go_ret;exact⟨rfl,c.o⟩
def KC:∀{L:List Vx} {t:Int} {i:Nat},i<=L.length->(∀k (h:k<L.length),k<i->L[k].t<t)->(∀k (h:k<L.length),i<=k->t<=L[k].t)->(AD L t).length=i
 |[],t,i,a,_,_=>by simp at a;subst a;rfl
 |x::L,t,0,a,h1,h2=>by
  have:=h2 0 Z3 (Hi _);unfold AD;rw[List.takeWhile_cons_of_neg (by simpa using this)];rfl
 |x::L,t,i+1,a,h1,h2=>by
  have:=h1 0 Z3 Z0;have c:=KC (L:=L) (t:=t) (i:=i) (Z6 a) (λk h d=>by have:=h1 (k+1) (Z6 h) Z0;simpa using this) (λk h d=>by have:=h2 (k+1) (Z6 h) Z0;simpa using this);unfold AD at *;rw[List.takeWhile_cons_of_pos (by simpa using this),Wi,c]
def has_at{L:List Vx}{t:Int}(hs:Gs L)(q:∀k (h:k<L.length),k<i->L[k].t<t)(p:∀k (h:k<L.length),i<=k->t<=L[k].t):Dm L t=VD↔∃h:i<L.length,L[i].t=t:=by unfold Dm;rw[X1];constructor;rintro ⟨x,f,a⟩;have a:x.t=t:=of_decide_eq_true a;obtain⟨k,d,rfl⟩:=List.getElem_of_mem f;have c:i<=k:=Nat.le_of_not_lt (λh=>Z4 (q k d h));refine⟨Z0,?_⟩;have r:=p i Z0 (Hi _);obtain h|rfl:=Nat.lt_or_eq_of_le c;have:=ZO.1 hs i k Z0 d h;omega;exact a;rintro ⟨h,e⟩;exact⟨L[i],Wy h,Z6 e⟩
def TmOk(l:List Vx):Prop:=∀v∈l,0<=v.t/\v.t<=1099511627776
def cfV_eq{t:Int}{x:Vx}(f:0<=x.t)(d:x.t<=1099511627776)(c:0<=t)(a:t<9223372036854775808):cfV t x=x.t-t:=IntWalk.wrap64_in _ ⟨Z0,Z0⟩
def qcd(F:Nat)(base:Nat)(V:S2)(l:List Vx)(t:Int)(w:D0)(M:∀args w,(X4 F args).run Tryz.prog w=.ok (.enter F args) w)(I:∀W x,VX Tryz.prog F #[vxV x,Wm eQ t] W λe w'=>e=ZY (Wm eQ (cfV t x))/\VI W.heap.size W w')
  (B:DE w base V l) (hs:Gs l) (hl:l.length<=100000) (s:TmOk l) (D:0<=t) (r:t<9223372036854775808) :
  VX Tryz.prog 72 #[V,Wm eQ t,.func (.func F) #[] #[]] w λe w'=>e=ZY (ZZ #[Wm eQ ((AD l t).length:Nat),ZX (Dm l t)])/\VI w.heap.size w w':=by
 obtain⟨A,c,rfl,N⟩:=B.form;have a:∀k (h:k<l.length),cfV t l[k]=l[k].t-t:=λk h=>by
  have:=s _ (Wy h);exact cfV_eq this.1 this.2 D r
 refine(Ju F (cfV t) A l.length c l t w M (λW x _ _=>I W x) B.rd rfl hl (λ_ _=>trivial) (λi j q z y=>?_)).mono ?_;rw[a i q,a j z];obtain h|rfl:=Nat.lt_or_eq_of_le y;have:=ZO.1 hs i j q z h;omega;omega;rintro e w' ⟨i,f,rfl,q,L,J,E,G⟩;have p:∀k (h:k<l.length),k<i->l[k].t<t:=λk h u=>by have:=L k h u;rw[a k h]at this;omega
 have d:∀k (h:k<l.length),i<=k->t<=l[k].t:=λk h u=>by have:=J k h u;rw[a k h]at this;omega
 refine⟨?_,G⟩;rw[KC q p d];have:f=Dm l t:=by
  rw[XW,E,has_at hs p d];exact⟨λ⟨h,e⟩=>⟨h,by rw[a i h]at e;omega⟩,λ⟨h,e⟩=>⟨h,by rw[a i h];omega⟩⟩
 rw[this]
noncomputable abbrev kV:Da Tryz.prog 9 ByteArray:=keyS Tryz.underlying9
def ED(loc:Sx->S2)(K:Kp):ByteArray->Option S2:=λs=>if (K (sx s)).isEmpty then B0 else Bs (loc (sx s))
def StM(w:D0)(n:Nat)(mb:Option Nat)(loc:Sx->S2)(K:Kp):Prop:=match mb with
 |none=>∀x,K x=[]
 |some b=>Ab kV w b n (ED loc K)
structure Cl(w:D0)(base n g off:Nat)(ty:VR)(cs:Array S2)(mb:Option Nat)(loc:Sx->S2)(K:Kp)(low:Int):Prop where
 al:Ae w g ty cs
 c0:cs[off]? = Bs (.map mb)
 c1:cs[off+1]? = Bs (Wm eQ low)
 ne:ty≠145
 map:StM w n mb loc K
 cJ:∀x,K x≠[]->DE w base (loc x) (K x)
 apart:∀x y,x≠y->K x≠[]->K y≠[]->∀b,(loc x).ownBlock=Bs b->(loc y).ownBlock≠Bs b
 bJ:∀x,K x≠[]->x.length<=20
 cQ:∀x,TmOk (K x)
 aH:∀x,Gs (K x)
 len:∀x,(K x).length<=n
 eb:0<=low
 e1:low<=1099511627776
 dU:∀b,mb=Bs b->base<=b
 lo:base<=g
def DL(mb:Option Nat)(loc:Sx->S2)(K:Kp)(b:Nat):Prop:=mb=Bs b\/∃x,K x≠[]/\(loc x).ownBlock=Bs b
def FE(g:Nat)(mb:Option Nat)(loc:Sx->S2)(K:Kp)(b:Nat):Prop:=b=g\/DL mb loc K b
variable {K:Kp}{low:Int}
section
variable {loc:Sx->S2}
def StM.fr{S:Nat->Prop}(h:StM w n mb loc K)(c:Fr S w w')(a:∀b,mb=Bs b->¬S b):StM w' n mb loc K:=by unfold StM at h ⊢;obtain _|b:=mb;exact h;exact Ab.fr h c (a b rfl)
def Cl.fr{S:Nat->Prop}(h:Cl w base n g off ty cs mb loc K low)(c:Fr S w w')(a:∀b,FE g mb loc K b->¬S b):Cl w' base n g off ty cs mb loc K low:=
 ⟨c.al h.al (a g (eR rfl)),h.c0,h.c1,h.ne,h.map.fr c (λb d=>a b (eS (eR d))),λx f=>(h.cJ x f).fr c (λb d=>a b (eS (eS ⟨x,f,d⟩))),h.apart,h.bJ,h.cQ,h.aH,h.len,h.eb,h.e1,h.dU,h.lo⟩
def Cl.a9(h:Cl w base n g off ty cs mb loc K low)(a:FE g mb loc K b):base<=b/\b<w.heap.size:=by obtain rfl|a|⟨x,c,a⟩:=a;exact⟨h.lo,h.al.lt⟩;refine⟨h.dU b a,?_⟩;have:=h.map;rw[a]at this;exact Ab.lt (C:=kV) this;exact⟨((h.cJ x c).block a).1,((h.cJ x c).block a).2.1⟩
def Cl.aW(h:Cl w base n g off ty cs mb loc K low)(a:VI w.heap.size w w'):Cl w' base n g off ty cs mb loc K low:=
 h.fr (S:=λb=>w.heap.size<=b) ⟨a.os,a.tape,a.output,a.size,λi _ d=>a.block i Z0⟩ (λb c f=>Z4 ((h.a9 c).2))
def Cl.mono(h:Cl w base n g off ty cs mb loc K low){n':Nat}(a:n<=n'):Cl w' base n' g off ty cs mb loc K low\/Cl w base n' g off ty cs mb loc K low:=by refine eS ⟨h.al,h.c0,h.c1,h.ne,?_,h.cJ,h.apart,h.bJ,h.cQ,h.aH,λx=>VK (h.len x) a,h.eb,h.e1,h.dU,h.lo⟩;have:=h.map;unfold StM at this ⊢;obtain _|b:=mb;exact this;exact Ab.mono this a
def PM(loc:Sx->S2)(K:Kp)(x:Sx):S2:=if (K x).isEmpty then WK B0 0 0 else loc x
def Cl.row(h:Cl w base n g off ty cs mb loc K low)(x:Sx):DE w base (PM loc K x) (K x):=by
 unfold PM;rcases e:K x with _|⟨a,l⟩
 exact eR (VW _ _ _ _);rw[Z7 Z3,<- e];exact h.cJ x (by rw[e];simp)
def Qy(w:D0)(s:ByteArray):(XV 101 (.map B0) (ZV s) L1).run Tryz.prog w=.ok (WK B0 0 0) w:=by kernel_rfl
def Cl.cn(h:Cl w base n g off ty cs mb loc K low){s:ByteArray}(hs:s.size<=VY):(XV 101 (.map mb) (ZV s) L1).run Tryz.prog w=.ok (PM loc K (sx s)) w:=by
 have a:=h.map;unfold StM at a;obtain _|b:=mb;rw[Qy];unfold PM;rw[a (sx s)];rfl;have c:(Yh 142).run Tryz.prog w=.ok (WK B0 0 0) w:=by kernel_rfl
 have:=(Ab.cn (C:=kV) a Tryz.underlying101 c (x:=s) hs).2;rw[show kV.val s=Value.string s from rfl]at this;rw[this];unfold ED PM;cases (K (sx s)).isEmpty<;>rfl
end
def qbn(r:Sx×Bool)(w:D0)(e:WE)(w':D0):Prop:=e=ZY (ZZ #[ZV ⟨r.1.toArray⟩,ZX r.2,ZS])/\VI w.heap.size w w'
def get_any(base n g off:Nat)(ty:VR)(cs:Array S2)(mb:Option Nat)(loc:Sx->S2)(K:Kp)(low:Int)(s:ByteArray)(t:Int)(w:D0)(hI:Cl w base n g off ty cs mb loc K low)(Y:¬t<low)(R:t<9223372036854775808)(hs:s.size<=VY)(hn:n<=100000) :
  VX Tryz.prog 42 #[ZW (Bs ⟨g,off,B0⟩),ZV s,Wm eQ t] w (qbn (B8 (CB (K (sx s)) t)) w):=by
 have c0:=(hI.al.cell off).trans hI.c0;have c1:=(hI.al.cell (off+1)).trans hI.c1;have U:=hI.al.lt;have G:=hI.cn hs;have f:=hI.row (sx s);have y:=hI.aH (sx s);have I:=VK (hI.len (sx s)) hn;have z:=qcd 73 base _ (K (sx s)) t w (Lf Tryz.func73 Z1 rfl) (λW x=>NI t x W) f y I (hI.cQ _) (Z4 hI.eb) R;have d1:decide (t<low)=L1:=Z9 Y;obtain⟨A,c,hV,hc⟩:=f.form;rw[hV]at G z f;generalize K (sx s)=l at *;have E:(AD l t).length<=l.length:=(Xs _).length_le;have M:=LH z;clear z;have N:=LH f.rd;clear f hI hV;have X:=LH y;clear y;clear Y;go_enter Tryz.func42,Tryz.ntmps42;go_wp2_with fail;refine M.o.mono ?_;rintro e w2 ⟨rfl,J⟩;have d:=LH J;clear J M G c0 c1 U;rcases Z:Dm l t with _|_
 ·obtain⟨O,q1⟩:=Nu Z;rcases D:(AD l t).length with _|m
  ·have r:=LH (show qbn (B8 (CB l t)) w (ZY (ZZ #[ZV ⟨#[]⟩,ZX L1,ZS])) w2 by rw[O D];exact⟨rfl,d.o⟩);clear O q1 D E;go_wp2_with fail;go_ret3;exact r.o
  obtain⟨p,Q⟩:=q1 Z0;rw[D]at p Q E;simp only[Xc]at p Q;obtain⟨V,o',a,rfl,B,u,h0,h1,L⟩:=(N.o.below d.o).d6 rfl (j:=m) Z0;have S:V<w2.heap.size:=VF B d.o.size;rw[u]at p;have dk:decide (((m:Nat):Int)<0)=L1:=Z9 Z0;rcases q:a.g with _|_
  ·have r:=LH (show qbn (B8 (CB l t)) w (ZY (ZZ #[ZV ⟨a.v.toArray⟩,ZX VD,ZS])) w2 by rw[p];unfold B8;simp only[q];exact⟨rfl,d.o⟩);rw[q]at L;clear O q1 p D u q;go_wp2_with fail;go_ret3;exact r.o
  have r:=LH (show qbn (B8 (CB l t)) w (ZY (ZZ #[ZV ⟨#[]⟩,ZX L1,ZS])) w2 by rw[p];unfold B8;simp only[q];exact⟨rfl,d.o⟩);rw[q]at L;clear O q1 p D u q;go_wp2_with fail;go_ret3;exact r.o
 obtain⟨p,Q⟩:=Nv X.o Z;generalize (AD l t).length=m at *;obtain⟨V,o',a,rfl,B,u,h0,h1,L⟩:=(N.o.below d.o).d6 rfl (j:=m) Z0;have S:V<w2.heap.size:=VF B d.o.size;rw[u]at p;have dk:decide (((m:Nat):Int)<0)=L1:=Z9 Z0;rcases q:a.g with _|_
 ·have r:=LH (show qbn (B8 (CB l t)) w (ZY (ZZ #[ZV ⟨a.v.toArray⟩,ZX VD,ZS])) w2 by rw[p];unfold B8;simp only[q];exact⟨rfl,d.o⟩);rw[q]at L;clear p u q;go_wp2_with fail;go_ret3;exact r.o
 have r:=LH (show qbn (B8 (CB l t)) w (ZY (ZZ #[ZV ⟨#[]⟩,ZX L1,ZS])) w2 by rw[p];unfold B8;simp only[q];exact⟨rfl,d.o⟩);rw[q]at L;clear p u q;go_wp2_with fail;go_ret3;exact r.o
variable {size cap o:Nat}
section
variable {P:Xh}
def Mz(t A:VR)(a:TypeInfo)(z:S2)(I J:IntKind)(O:P.underlying t=Bs (.slice e))(D:P.underlying A=Bs (.int J))(S:P.info? e=Bs a)(N:a.zero=Bs z)(f:a.size=size)(d:z.cells.size=size)(BJ:0<size)
  (c:xs.length=n*size) (B:∀j u,xs[j]? = Bs u->w.cell? ⟨g,o+j,B0⟩=Bs u) {k:Nat} (V:0<k) (L:cap<n+k) (r:n+k<=1000000) (G:a.bytes<=1000000) (U:base<=w.heap.size) :
  ∃M w',(∀ty,(XC #[t,A] ty #[WK (Bs ⟨g,o,B0⟩) n cap,Wm I k]).run P w=.ok (WK (Bs ⟨w.heap.size,0,B0⟩) (n+k) M) w')/\
   w'.ownsRow base e size (WK (Bs ⟨w.heap.size,0,B0⟩) (n+k) M) (n+k) (xs++(WI z.cells k).toList)/\Fr (λ_=>False) w w'/\w'.heap.size=w.heap.size+1:=by
 have q:(Yb a.size n (WK (Bs ⟨g,o,B0⟩) n cap)).run P w.drew=.ok xs.toArray w.drew:=by
  have:=run_loadCells_list (P:=P) w.drew ⟨g,o,B0⟩ xs (λj v R=>by
   rw[WM];show w.cell? _=_;exact B j v R)
  rw[c]at this;unfold Yb;rw[f];exact this
 have y:(n+k)*a.bytes<=140737488355328:=by
  have:(n+k)*a.bytes<=1000000*1000000:=Nat.mul_le_mul r G;omega
 have Q:k*a.bytes<=(n+k)*a.bytes:=Nat.mul_le_mul_right _ Z0;have p:=λty=>Lib.run_append_grow_zeros (P:=P) w t A ty e a z I J O D S N (Bs ⟨g,o,B0⟩) n cap xs q k V (by rw[f];exact BJ) L Z0 Z0 (growslice_fits L y)
 have E:=grownCap_ge w (n+k) cap e;have s:grownCap w (n+k) cap e<=VY:=grownCap_le_maxLen w (n+k) cap e Zx;refine⟨_,_,p,⟨?_,eS ⟨w.heap.size,_,_,rfl,U,heap_alloc_new w.drew _,E,s,?_,?_⟩⟩,(Fr.refl _ w).drew.alloc _,Z3⟩;rw[VJ,c,Wz,Xz,d,Xi];simp only[Array.size_append,Xu,Xz,d,c,<- Xi];congr 1;omega;have hl:(xs++(WI z.cells k).toList).length=(n+k)*size:=by rw[VJ,c,Wz,Xz,d,Xi]
 simp only[Array.toList_append];rw[<- hl];exact List.take_left
def PT(t:VR)(d:TypeInfo)(z:S2)(Q:P.underlying t=Bs (.slice e))(R:P.info? e=Bs d)(O:d.zero=Bs z)(p:d.size=size)(B:z.cells.size=size)
  (a:xs.length=n*size) (D:∀j u,xs[j]? = Bs u->w.cell? ⟨g,o+j,B0⟩=Bs u) (f:List S2) (c:f.length=size) (A L:Nat) (E:∀j u,f[j]? = Bs u->w.cell? ⟨A,j,B0⟩=Bs u) (M:cap<n+1) (r:n+1<=1000000) (J:d.bytes<=1000000) (S:base<=w.heap.size) :
  ∃N w',(∀ty,(XC #[t,t] ty #[WK (Bs ⟨g,o,B0⟩) n cap,WK (Bs ⟨A,0,B0⟩) 1 L]).run P w=.ok (WK (Bs ⟨w.heap.size,0,B0⟩) (n+1) N) w')/\
   w'.ownsRow base e size (WK (Bs ⟨w.heap.size,0,B0⟩) (n+1) N) (n+1) (xs++f)/\Fr (λ_=>False) w w':=by
 have y:(n+1)*d.bytes<=140737488355328:=by
  have:(n+1)*d.bytes<=1000000*1000000:=Nat.mul_le_mul r J;omega
 have q:=λty=>run_append_grow (P:=P) (w:=w) t ty e d z Q R O ⟨g,o,B0⟩ n cap xs (by rw[p];exact a) (λj v G=>by rw[WM];exact D j v G) ⟨A,0,B0⟩ 1 L f (by rw[p,c];omega) (λj v G=>by rw[WM,Wk];exact E j v G) M Z0 (growslice_fits M y)
 have I:=grownCap_ge w (n+1) cap e;have s:grownCap w (n+1) cap e<=VY:=grownCap_le_maxLen w (n+1) cap e Zx;refine⟨_,_,q,⟨?_,eS ⟨w.heap.size,_,_,rfl,S,heap_alloc_new w.drew _,I,s,?_,?_⟩⟩,(Fr.refl _ w).drew.alloc _⟩;rw[VJ,a,c,Xi];omega;simp only[Array.size_append,Xu,Xz,B,a,c];have:n*size+size=(n+1)*size:=by rw[Xi];omega
 rw[this,<- Xi];congr 1;omega;have hl:(xs++f).length=(n+1)*size:=by rw[VJ,a,c,Xi];omega
 simp only[Array.toList_append];rw[<- hl];exact List.take_left
end
def R5(base g o n i U vc:Nat)(cs:Array S2)(xs M:List S2)(w:D0)(z:Ae w g 145 cs)(s:xs.length=n*3)(Y:∀j u,xs[j]? = Bs u->cs[o+j]? = Bs u)(hi:i<n)(hn:n<=100000)(N:∀u∈xs,u.oneCell'=VD)(O:M.length=3)(X:∀u∈M,u.oneCell'=VD)
  (Q:Ae w U 145 M.toArray) (hb:base<=w.heap.size) :
  VX Tryz.prog 108 #[WK (Bs ⟨g,o,B0⟩) n n,Wm eQ i,WK (Bs ⟨U,0,B0⟩) 1 vc] w (Ry base n i (WK (Bs ⟨g,o,B0⟩) n n) M xs w):=by
 obtain⟨a9,a8⟩:=q1k 142 Bb LU J4 w (Bs ⟨g,o,B0⟩) n n i Z0;obtain⟨i0,a0,V,D,J⟩:=YM Hz;have ac:g<w.heap.size:=z.lt;have S:∀(w':D0),Ae w' g 145 cs->∀j u,xs[j]? = Bs u->w'.cell? ⟨g,o+j,B0⟩=Bs u:=λw' hk j u B=>(hk.cell (o+j)).trans (Y j u B)
 obtain⟨L,w1,c,d,y,a3⟩:=Mz (base:=base) (w:=w) (g:=g) (o:=o) (n:=i) (cap:=n) (xs:=xs.take (i*3)) 142 3 i0 _ eQ eQ Bb Tryz.underlying3 a0 V D rfl Z2 (by rw[WD,s];omega) (λj u B=>by
  rw[List.getElem?_take]at B;split at B;exact S w z j u B;cases B) (k:=n+1-i) Z0 Z0 Z0 (by rw[J];decide) hb
 rw[show i+(n+1-i)=n+1 by omega]at c d;have ad:=(q3w d).1;have A:Ae w1 U 145 M.toArray:=y.al Q (λh=>h);have I:=y.al z (λh=>h);have a7:=Q.lt;obtain⟨w2,q,r,R⟩:=UY (w:=w1) 142 142 145 Bb q8d d (i:=i) (m:=1) Z0 M (by rw[O]) ⟨U,0,B0⟩ (λj v hj=>by
   rw[WM,Wk];exact(A.cell j).trans (Z6 hj)) X (n+1-i) (L-i) 1 vc (by show min _ _=_;omega)
 have G:=R.al I (λe:g=w.heap.size=>Z0);obtain⟨w3,p,f,a2⟩:=UY (w:=w2.drew) 142 142 145 Bb q8d (show w2.drew.ownsRow base 145 3 (WK (Bs ⟨w.heap.size,0,B0⟩) (n+1) L) (n+1) _ from r) (i:=i+1) (m:=n-i) Z0 (xs.drop (i*3))
  (by rw[Xf,s,YW]) ⟨g,o+i*3,B0⟩ (λj v hj=>by
   rw[WM];rw[Yo]at hj;show w2.cell? _=_;rw[Nat.add_assoc];exact S w2 G _ _ hj) (λu B=>N u (Yf B)) (n-i) (L-(i+1)) (n-i) (n-i) (by show min _ _=_;omega)
 rw[q8n s Z0 (by rw[Wz,Xz];rfl) O]at f;have a1:Fr (λk=>Bs k=Wa (WK (Bs ⟨g,o,B0⟩) n n)) w w3:=(((y.trans' R (λk hk (e:k=w.heap.size)=>Z0)).drew).trans' a2 (λk hk (e:k=w.heap.size)=>Z0)).mono (λk _ h=>h.elim);have E:Ry base n i (WK (Bs ⟨g,o,B0⟩) n n) M xs w (ZY (WK (Bs ⟨w.heap.size,0,B0⟩) (n+1) L)) w3:=
  ⟨_,rfl,f,a1,eS ⟨_,rfl,Hi _⟩⟩
 have Z:(n:Int)+1-i=((n+1-i:Nat):Int):=by omega
 have s1:=PP 142 Bb LU J4 w g o n n i (i:Int) rfl Z0;have s2:=λW=>RF 142 Bb LU J4 W w.heap.size (n+1) L i (i:Int) rfl Z0 Z0
 have s3:=λW=>RF 142 Bb LU J4 W w.heap.size (n+1) L (i+1) ((i:Int)+1) Z0 Z0 Z0
 rw[show n+1-(i+1)=n-i by omega]at s3;have s4:=λW=>JV 142 Bb LU J4 W g o n n i (i:Int) rfl Z0
 rw[Z7 Z0]at s4;have HF:=LH E;clear E d r f y R a2 z I G S Y Q A a0 V D J a1 a3;have ab:IntKind.i64.wrap ((i:Int)+1)=(i:Int)+1:=V4 _ Z0;have aa:IntKind.i64.wrap ((n:Int)+1)=(n:Int)+1:=V4 _ Z0;rw[<- Z]at c;have a6:=LH c;clear c Z;have a5:=LH q;clear q;have a4:=LH p;clear p;have ae:=LH N;clear N;clear X O s;have d1:((i:Int) == (n:Int))=L1:=by rw[beq_eq_false_iff_ne];omega
 have d2:decide ((n:Int)<(n:Int)+1)=VD:=by rw[decide_eq_true_eq];omega
 go_enter Tryz.func108,Tryz.ntmps108;go_wp2_with (first|(refine q2c rfl (.tmp 34) (.tmp 39) 142 3 rfl (WK (Bs ⟨g,o,B0⟩) i n) (Wm eQ ((n:Int)+1-i)) _ rfl rfl (a6.o _) ?_)|(refine q25 rfl (.tmp 43) (.tmp 44) 142 142 rfl (WK (Bs ⟨w.heap.size,i*3,B0⟩) (n+1-i) (L-i)) (WK (Bs ⟨U,0,B0⟩) 1 vc) _ rfl rfl (a5.o _) ?_))
 refine nW ?_;refine UQ (λ_=>True) 9 ?_;have a:True:=trivial;refine nE 0 a ?_;refine nE 1 a ?_;refine nE 2 a ?_;refine nE 3 a ?_;refine nE 4 a ?_;refine nE 5 a ?_;refine nE 6 a ?_;refine nE 7 a ?_;refine nG 8 (λK hK=>?_);refine q2y (.tmp 50) (.tmp 53) 142 142 rfl (WK (Bs ⟨w.heap.size,(i+1)*3,B0⟩) (n-i) (L-(i+1))) (WK (Bs ⟨g,o+i*3,B0⟩) (n-i) (n-i)) _ (by simp[Xm,Xq]) (by simp[Xm,Xq]) (a4.o _) ?_;go_simp;refine hK _ _ (λ_=>a) ?_;clear hK K;refine nX ?_;clear a;go_wp2_with fail;go_ret;exact HF.o
def Jv(base g o n I J:Nat)(cs:Array S2)(xs s:List S2)(w:D0)(G:Ae w g 145 cs)(d:xs.length=n*3)(B:∀j u,xs[j]? = Bs u->cs[o+j]? = Bs u)(W:n<=100000)(z:s.length=3)
  (A:Ae w I 145 s.toArray) (S:base<=w.heap.size) :
  VX Tryz.prog 108 #[WK (Bs ⟨g,o,B0⟩) n n,Wm eQ n,WK (Bs ⟨I,0,B0⟩) 1 J] w (Ry base n n (WK (Bs ⟨g,o,B0⟩) n n) s xs w):=by
 obtain⟨Q,N⟩:=q1k 142 Bb LU J4 w (Bs ⟨g,o,B0⟩) n n n (Hi _);obtain⟨R,D,y,f,r⟩:=YM Hz;obtain⟨U,O,a,c,E⟩:=PT (base:=base) (w:=w) (g:=g) (o:=o) (n:=n) (cap:=n) (xs:=xs) 142 R _ Bb D y f rfl d (λj u L=>(G.cell (o+j)).trans (B j u L)) s z I J (λj u L=>(A.cell j).trans (Z6 L)) Z0 Z0 (by rw[r];decide) S;have p:Cq 3 n s xs=xs++s:=by
  unfold Cq;rw[VS (by rw[d];omega),Yj (by rw[d];omega),WB]
 have q:Ry base n n (WK (Bs ⟨g,o,B0⟩) n n) s xs w (ZY (WK (Bs ⟨w.heap.size,0,B0⟩) (n+1) U)) O:=
  ⟨_,rfl,by rw[p];exact c,E.mono (λk _ h=>h.elim),eS ⟨_,rfl,Hi _⟩⟩
 have V:=LH q;clear q c E G B A p D y f r;have M:=LH a;clear a;clear d z;go_enter Tryz.func108,Tryz.ntmps108;go_wp2_with (refine q2c rfl _ _ 142 142 rfl (WK (Bs ⟨g,o,B0⟩) n n) (WK (Bs ⟨I,0,B0⟩) 1 J) _ rfl rfl (M.o _) ?_)
 go_ret;exact V.o
def Nc(l:List Vx)(t:Int):AD l t=l.take (AD l t).length:=by unfold AD;exact List.prefix_iff_eq_take.1 (Xs _)
def MN(l:List Vx)(v:Vx):Cq 3 (AD l v.t).length (Dk v) (l.flatMap Dk)=(CK l v).flatMap Dk:=by unfold Cq CK;rw[qcu,qcv,Wq,VH,<- XM,<- Nc]
def R2(base d p:Nat)(V:S2)(l:List Vx)(v:Vx)(w:D0)(E:DE w base V l)(r:l.length<=100000)(c:Ae w d 145 (Dk v).toArray)(q:V.ownBlock≠Bs d)(y:base<=w.heap.size) :
  VX Tryz.prog 108 #[V,Wm eQ ((AD l v.t).length:Nat),WK (Bs ⟨d,0,B0⟩) 1 p] w λe w'=>
   ∃V',e=ZY V'/\w'.ownsRow base 145 3 V' (CK l v).length ((CK l v).flatMap Dk)/\Am w w' V.ownBlock V'.ownBlock:=by
 have s:(AD l v.t).length<=l.length:=(Xs _).length_le;have f:∀u∈Dk v,u.oneCell'=VD:=λu B=>qb9 [v] u (Z6 B)
 have a:∀e w',Ry base l.length (AD l v.t).length V (Dk v) (l.flatMap Dk) w e w'->∃V',e=ZY V'/\w'.ownsRow base 145 3 V' (CK l v).length ((CK l v).flatMap Dk)/\Am w w' V.ownBlock V'.ownBlock:=by
  rintro e w' ⟨V',rfl,I,G⟩;exact⟨V',rfl,by rw[qdv,<- MN];exact I,G⟩
 obtain h|⟨g,o,cs,rfl,L,D,J,z,A⟩:=E
 ·exact(R6 base l.length (AD l v.t).length d p V (l.flatMap Dk) (Dk v) w h s r (qb9 l) rfl f c q y).mono a
 by_cases e:(AD l v.t).length=l.length
 ·refine Calls.mono ?_ a;rw[e];exact Jv base g o l.length d p cs (l.flatMap Dk) (Dk v) w z (qba l) A r rfl c y
 exact(R5 base g o l.length (AD l v.t).length d p cs (l.flatMap Dk) (Dk v) w z (qba l) A Z0 r (qb9 l) rfl f c y).mono a
def CT(K:Kp)(low:Int)(r:Rx):Int×Kp:=
 if r.t<0\/1099511627776<r.t then(2,K)else if 20<r.key.length\/40<r.v.length then(4,K)else if r.t<low then(8,K)else if Dm (K r.key) r.t then(9,K)else(0,Cc K r.key (CK (K r.key) (Jg r)))
def RJ(base n g off:Nat)(ty:VR)(cs:Array S2)(mb:Option Nat)(loc:Sx->S2)(K d:Kp)(c:Int)(w w':D0):Prop:=
 ∃a loc',Cl w' base n g off ty (cs.setIfInBounds off (.map a)) a loc' d c/\Fr (FE g mb loc K) w w'/\∀b,FE g a loc' d b->FE g mb loc K b\/w.heap.size<=b
section
variable {w w':D0}{base n g off:Nat}{ty:VR}{cs:Array S2}{mb:Option Nat}{loc:Sx->S2}{K:Kp}{low:Int}
def Cl.more(h:Cl w base n g off ty cs mb loc K low){n':Nat}(a:n<=n'):Cl w base n' g off ty cs mb loc K low:=(h.mono (w':=w) a).elim id id
def RJ.below(h:Cl w base n g off ty cs mb loc K low)(c:n<=n')(a:VI w.heap.size w w'):RJ base n' g off ty cs mb loc K K low w w':=
 ⟨mb,loc,by rw[q6h h.c0];exact(h.aW a).more c,⟨a.os,a.tape,a.output,a.size,λk d _=>a.block k d⟩,λb h=>eR h⟩
def RJ.trans{v1:S2}{d:Option Nat}{c:Sx->S2}{a:Int}{u:D0}(y:Fr (FE g mb loc K) w u)(q:∀b,FE g d c A b->FE g mb loc K b\/w.heap.size<=b)(k:RJ base n g off ty (cs.setIfInBounds off v1) d c A z a u w'):RJ base n g off ty cs mb loc K z a w w':=by obtain⟨r,f,hI,s,p⟩:=k;rw[q5b]at hI;refine⟨r,f,hI,y.trans' s (λi B h=>?_),λb h=>?_⟩;obtain h|h:=q i h;exact h;omega;obtain h|h:=p b h;exact q b h;exact eS (VK y.size h)
def Na(loc:Sx->S2)(x:Sx)(V:S2):Sx->S2:=λy=>if y=x then V else loc y
def R3(s:ByteArray)(V:S2){l:List Vx}(hl:l≠[]):AY (ED loc K) s (Bs V)=ED (Na loc (sx s) V) (Cc K (sx s) l):=by
 funext t;unfold AY ED Na Cc;by_cases e:t=s;subst e;obtain _|⟨a,l⟩:=l;exact ZB rfl hl;simp;have:¬sx t=sx s:=λh=>e (q8z h)
 simp[e,this]
def Cl.cT(h:Cl w base n g off ty cs B0 loc K low):Cl ((w.alloc (.map #[] 0)).setCell ⟨g,off,B0⟩ (.map (Bs w.heap.size))) base n g off ty (cs.setIfInBounds off (.map (Bs w.heap.size))) (Bs w.heap.size) loc K low:=by
 have f:∀x,K x=[]:=h.map;have q:Ab kV (w.alloc (.map #[] 0)) w.heap.size n (ED loc K):=by
  have e:ED loc K=λ_=>B0:=by funext s;unfold ED;rw[f];rfl
  rw[e];exact(Ab.cT kV w).mono (VG _)
 have r:=h.al.lt;have c:off<cs.size:=by
  obtain p|p:=Xd off cs.size;exact p;have:=h.c0;rw[Xa p]at this;cases this
 refine⟨?_,by simp[c],by rw[Array.getElem?_setIfInBounds_ne Z0];exact h.c1,h.ne,q.fr (Fr.aL g (w.alloc (.map #[] 0)) off (.map (Bs w.heap.size))) (λe=>Z0),λx a=>ZB (f x) a,λx y _ a=>ZB (f x) a,h.bJ,h.cQ,h.aH,h.len,h.eb,h.e1,λb d=>?_,h.lo⟩;exact(h.al.alloc _).aZ off (.map (Bs w.heap.size));injection d with d;rw[<- d];have:=h.lo;omega
def Cl.cM(h:Cl w base n g off ty cs (Bs b) loc K low)(a:K x≠[]):(loc x).ownBlock≠Bs b:=λe=>by
 obtain⟨_,_,cs,c⟩:=(h.cJ x a).block e;exact Ab.aV (C:=kV) h.map c rfl
def Cl.dy(h:Cl w base n g off ty cs mb loc K low)(a:K x≠[]):(loc x).ownBlock≠Bs g:=(h.cJ x a).aV h.al h.ne
def q70(h:(PM loc K x).ownBlock=Bs b):K x≠[]/\(loc x).ownBlock=Bs b:=by
 unfold PM at h;rcases e:K x with _|⟨a,l⟩
 rw[e]at h;cases h;rw[e]at h;exact⟨Z3,h⟩
def Cl.setK{n2:Nat}{D:D0}{s:ByteArray}{l':List Vx}(M:n<=n2)(h:Cl w base n g off ty cs (Bs b) loc K low)(hs:(sx s).length<=20)(S:l'≠[])(O:TmOk l')(Q:Gs l')(R:l'.length<=n2)
  (I:DE w' base V' l') (N:Am w w' (PM loc K (sx s)).ownBlock V'.ownBlock) (J:Ab kV D b n2 (AY (ED loc K) s (Bs V'))) (U:Fr (λk=>k=b) w' D) :
  Cl D base n2 g off ty cs (Bs b) (Na loc (sx s) V') (Cc K (sx s) l') low/\Fr (FE g (Bs b) loc K) w D/\∀q,FE g (Bs b) (Na loc (sx s) V') (Cc K (sx s) l') q->FE g (Bs b) loc K q\/w.heap.size<=q:=by
 have u:∀q,V'.ownBlock=Bs q->(K (sx s)≠[]/\(loc (sx s)).ownBlock=Bs q)\/w.heap.size<=q:=λq a=>by
  obtain e|⟨X,e,d⟩:=N.2;exact eR (q70 (e.symm.trans a));rw[a]at e;injection e with e;exact eS Z0
 have W:b<w.heap.size:=(h.a9 (eS (eR rfl))).2;have B:Fr (λk=>k=b\/Bs k=(PM loc K (sx s)).ownBlock) w D:=(N.1.mono (T:=λk=>k=b\/Bs k=(PM loc K (sx s)).ownBlock) (λi _ e=>eS e)).trans' U (λi _ e=>eR e);have r:∀y,y≠sx s->K y≠[]->∀q,(loc y).ownBlock=Bs q->¬(q=b\/Bs q=(PM loc K (sx s)).ownBlock):=λy c L q a e=>by
  obtain e|e:=e;subst e;exact h.cM L a;obtain⟨p,f⟩:=q70 e.symm;exact h.apart y (sx s) c L p q a f
 refine⟨⟨B.al h.al (λe=>?_),h.c0,h.c1,h.ne,?_,λy c=>?_,λy z G c E q a d=>?_,λy c=>?_,λy=>?_,λy=>?_,λy=>?_,h.eb,h.e1,h.dU,h.lo⟩,?_,λq a=>?_⟩;obtain e|e:=e;exact Ab.aV (C:=kV) h.map h.al e.symm;obtain⟨p,f⟩:=q70 e.symm;exact h.dy p f;show Ab kV D b n2 _;rw[<- R3 s V' S];exact J;unfold Cc Na at *;split;rename_i e;exact I.fr U (λq a A=>by
  obtain⟨p,f⟩|V:=u q a;subst A;exact h.cM p f;have:=N.1.size;omega)
 rename_i e;rw[Z7 e]at c;exact(h.cJ y c).fr B (r y e c);unfold Cc Na at *;by_cases e1:y=sx s;by_cases A:z=sx s;exact G (e1.trans A.symm);rw[Z8 e1]at a;rw[Z7 A]at d E;obtain⟨p,f⟩|V:=u q a;exact h.apart z (sx s) A E p q d f;have:=((h.cJ z E).block d).2.1;omega;rw[Z7 e1]at a c;by_cases A:z=sx s;rw[Z8 A]at d;obtain⟨p,f⟩|V:=u q d;exact h.apart y (sx s) e1 c p q a f;have:=((h.cJ y c).block a).2.1;omega;rw[Z7 A]at d E;exact h.apart y z G c E q a d;unfold Cc at c;split at c;rename_i e;rw[e];exact hs;exact h.bJ y c;unfold Cc;split;exact O;exact h.cQ y;unfold Cc;split;exact Q;exact h.aH y;unfold Cc;split;exact R;exact VK (h.len y) M
 ·refine B.mono (λi _ e=>?_);obtain e|e:=e;exact eS (eR (by rw[e]));obtain⟨p,f⟩:=q70 e.symm;exact eS (eS ⟨_,p,f⟩)
 obtain a|a|⟨y,c,a⟩:=a;exact eR (eR a);exact eR (eS (eR a));unfold Cc Na at *;by_cases e1:y=sx s;rw[Z8 e1]at a;exact(u q a).imp (λk=>eS (eS ⟨_,k.1,k.2⟩)) id;rw[Z7 e1]at a c;exact eR (eS (eS ⟨y,c,a⟩))
end
def SN(base n g off:Nat)(ty:VR)(cs:Array S2)(mb:Option Nat)(loc:Sx->S2)(K:Kp)(low:Int)(r:Rx)(w:D0)(e:WE)(w':D0):Prop:=
 e=ZY (C0 (CT K low r).1)/\RJ base (n+1) g off ty cs mb loc K (CT K low r).2 low w w'
def IN{P:Xh}(w:D0)(t k e:VR)(m:Option Nat)(h:P.underlying t=Bs (.map k e)):(binOp .eql t (.map m) (.map B0)).run P w=.ok (ZX m.isNone) w:=by simp only[binOp];simp[run_equal_map_nil w t k e m h]
section
variable (base n g off:Nat)(ty:VR)(cs:Array S2)(mb:Option Nat)(loc:Sx->S2)(K:Kp)(low:Int)(key val:ByteArray)(gone:Bool)(t:Int)(w:D0)(hI:Cl w base n g off ty cs mb loc K low)
include hI
def qaf(a:Int)(d:CT K low ⟨sx key,sx val,gone,t⟩=(a,K))(c:a≠0):SN base n g off ty cs mb loc K low ⟨sx key,sx val,gone,t⟩ w (ZY (.iface 79 (Wm eQ a))) (w.alloc (eT #[ZV key,ZV val,ZX gone] 45)):=by unfold SN;rw[d];refine⟨by show _=Ending.returned (C0 a);unfold C0;rw[Z7 c],RJ.below hI (WX n) ((VC _ _).alloc (Hi _) _)⟩
def Qb(h:t<0\/1099511627776<t):VX Tryz.prog 82 #[ZW (Bs ⟨g,off,B0⟩),Wm eQ t,.agg #[ZV key,ZV val,ZX gone]] w (SN base n g off ty cs mb loc K low ⟨sx key,sx val,gone,t⟩ w):=by
 have a:=qaf base n g off ty cs mb loc K low key val gone t w hI 2 (by unfold CT;rw[Z8 h]) Z2;have d:=LH a;clear a hI;by_cases c:t<0
 ·have p:decide (t<0)=VD:=ZA c;clear h;go_enter Tryz.func82,Tryz.ntmps82;go_wp2_with fail;go_ret;exact d.o
 have p:decide (t<0)=L1:=Z9 c;have f:t > 1099511627776:=by obtain h|h:=h<;> omega
 have q:decide (t > 1099511627776)=VD:=ZA f;clear h;go_enter Tryz.func82,Tryz.ntmps82;go_wp2_with fail;go_ret;exact d.o
def Qc(h:¬(t<0\/1099511627776<t))(hl:20<(sx key).length\/40<(sx val).length):VX Tryz.prog 82 #[ZW (Bs ⟨g,off,B0⟩),Wm eQ t,.agg #[ZV key,ZV val,ZX gone]] w (SN base n g off ty cs mb loc K low ⟨sx key,sx val,gone,t⟩ w):=by
 have a:=qaf base n g off ty cs mb loc K low key val gone t w hI 4 (by unfold CT;rw[Z7 h,Z8 hl]) Z2;have c:=LH a;clear a hI;have r:decide (t<0)=L1:=Z9 (λe=>h (eR e));have q:decide (t > 1099511627776)=L1:=Z9 (λe=>h (eS e));clear h;rw[<- J5,<- J5]at hl;by_cases f:20<key.size
 ·have d:decide ((key.size:Int) > 20)=VD:=ZA Z0;clear hl;go_enter Tryz.func82,Tryz.ntmps82;go_wp2_with fail;go_ret;exact c.o
 have d:decide ((key.size:Int) > 20)=L1:=Z9 Z0;have p:decide ((val.size:Int) > 40)=VD:=ZA Z0;clear hl;go_enter Tryz.func82,Tryz.ntmps82;go_wp2_with fail;go_ret;exact c.o
def S0(h:¬(t<0\/1099511627776<t))(hl:¬(20<(sx key).length\/40<(sx val).length))(c:t<low):VX Tryz.prog 82 #[ZW (Bs ⟨g,off,B0⟩),Wm eQ t,.agg #[ZV key,ZV val,ZX gone]] w (SN base n g off ty cs mb loc K low ⟨sx key,sx val,gone,t⟩ w):=by have a:=qaf base n g off ty cs mb loc K low key val gone t w hI 8 (by unfold CT;rw[Z7 h,Z7 hl,Z8 c]) Z2;have p:=LH a;clear a;have f:=hI.al.alloc (eT #[ZV key,ZV val,ZX gone] 45);have z:=(hI.al.cell (off+1)).trans hI.c1;have d:=hI.al.lt;clear hI f;have y:decide (t<0)=L1:=Z9 (λe=>h (eR e));have u:decide (t > 1099511627776)=L1:=Z9 (λe=>h (eS e));have q:decide (t<low)=VD:=ZA c;rw[<- J5,<- J5]at hl;have s:decide ((key.size:Int) > 20)=L1:=Z9 Z0;have r:decide ((val.size:Int) > 40)=L1:=Z9 Z0;clear h hl;go_enter Tryz.func82,Tryz.ntmps82;go_wp2_with fail;go_ret;exact p.o
end
def Ks(s:ByteArray):(⟨(sx s).toArray⟩:ByteArray)=s:=q8z (DG (sx s))
section
variable (base n g off:Nat)(ty:VR)(cs:Array S2)(mb:Option Nat)(loc:Sx->S2)(K:Kp)(low:Int)(key val:ByteArray)(gone:Bool)(t:Int)(w:D0)(hI:Cl w base n g off ty cs mb loc K low)
include hI
def SZ(h:¬(t<0\/1099511627776<t))(hl:¬(20<(sx key).length\/40<(sx val).length))(aN:¬t<low)(hn:n+1<=100000):VX Tryz.prog 82 #[ZW (Bs ⟨g,off,B0⟩),Wm eQ t,.agg #[ZV key,ZV val,ZX gone]] w (SN base n g off ty cs mb loc K low ⟨sx key,sx val,gone,t⟩ w):=by
 have aH:CT K low ⟨sx key,sx val,gone,t⟩=if Dm (K (sx key)) t then(9,K)else(0,Cc K (sx key) (CK (K (sx key)) (Jg ⟨sx key,sx val,gone,t⟩))):=by
  unfold CT;rw[Z7 h,Z7 hl,Z7 aN]
 have aX:=LH aH;clear aH;have aj:VI w.heap.size w (w.alloc (eT #[ZV key,ZV val,ZX gone] 45)):=(VC _ _).alloc (Hi _) _;have aK:Ae (w.alloc (eT #[ZV key,ZV val,ZX gone] 45)) w.heap.size 45 #[ZV key,ZV val,ZX gone]:=Ae.b4 _ _ _;have aU:=hI.aW aj;have c1:=(hI.al.cell (off+1)).trans hI.c1;have bg:=hI.al.lt;have d1:decide (t<0)=L1:=Z9 (λe=>h (eR e));have d2:decide (t > 1099511627776)=L1:=Z9 (λe=>h (eS e));have d5:decide (t<low)=L1:=Z9 aN;have b6:(sx key).length<=20:=by omega
 have aO:key.size<=VY:=by rw[J5];unfold VY;omega
 rw[<- J5,<- J5]at hl;have d3:decide ((key.size:Int) > 20)=L1:=Z9 Z0;have d4:decide ((val.size:Int) > 40)=L1:=Z9 Z0;have aE:0<=t:=by omega
 have b3:t<=1099511627776:=by omega
 have N:=LH hI;clear hI;have O:=LH aU;clear aU;have a0:=LH aK;clear aK;have b2:=LH aj;clear aj;clear h hl;go_enter Tryz.func82,Tryz.ntmps82;go_upto_region 7 with (fail)
 clear d1 d2 d3 d4 d5 c1;generalize az:w.alloc (eT #[ZV key,ZV val,ZX gone] 45)=w0 at *;have ay:w0.heap.size=w.heap.size+1:=by rw[<- az];simp
 have bh:=LH ay;clear ay az;go_cut [7] (λs7 wx=>s7=PM loc K (sx key)/\VI w0.heap.size w0 wx)
 case first=>
  have c0:=(O.o.al.cell off).trans O.o.c0;have p0:=a0.o.cell 0;have be:=O.o.al.lt;have bd:=a0.o.lt;simp only[NW,Ft]at p0;have bf:∀q,(XV 101 (.map mb) (ZV key) L1).run Tryz.prog (w0.drewN q)=.ok (PM loc K (sx key)) (w0.drewN q):=λq=>(O.o.aW (w':=w0.drewN q) ⟨rfl,rfl,rfl,Hi _,λ_ _=>rfl⟩).cn aO
  go_quiet (fail);go_wp2_with fail;go_meet;exact⟨rfl,⟨rfl,rfl,rfl,Hi _,λ_ _=>rfl⟩⟩
 obtain⟨aD,a3⟩:=hcut;rename D0=>w1
 have L:=O.o.aW a3;have aJ:=a0.o.below a3 a0.o.lt;have aS:VI w.heap.size w w1:=b2.o.trans (a3.mono b2.o.size);have S:=L.row (sx key);have a7:=VK (L.len (sx key)) (show n<=100000 by omega);obtain⟨A,c,hV,hc⟩:=S.form;rw[hV]at aD;subst aD;have aG:=qcd 107 base (WK A (K (sx key)).length c) (K (sx key)) t w1 (Lf Tryz.func107 Z1 rfl) (λW x=>NH t x W) (hV▸S) (L.aH _) a7 (L.cQ _) aE Z0;have aW:=LH aG;clear aG;have HV:=LH hV;clear hV S;have b0:=LH L;clear L;have aq:=LH aJ;clear aJ;have ax:=LH aS;clear aS a3;go_wp2_with fail;refine aW.o.mono ?_;rintro e w2 ⟨rfl,a5⟩;have aT:=b0.o.aW a5;have aI:=aq.o.below a5 aq.o.lt;have aa:=ax.o.trans (a5.mono ax.o.size);have z:=LH aT;clear aT;have ap:=LH aI;clear aI;have d:=LH aa;clear aa a5 aW;rcases hh:Dm (K (sx key)) t with _|_
 ·
  have b9:=LH (aX.o.trans (Z7 (by rw[hh];decide)));have bb:=LH hh;clear hh;have c0:=(z.o.al.cell off).trans z.o.c0;have f0:=z.o.al.frozen off;have aP:=z.o.al.lt;have b4:=λW=>IN W 101 _ _ mb Tryz.underlying101
  have Y:∀(a:D0)(b:Nat)(w8:D0),Fr (FE g mb loc K) w a->(∀q,FE g (Bs b) loc K q->FE g mb loc K q\/w.heap.size<=q)->RJ base (n+1) g off ty (cs.setIfInBounds off (.map (Bs b))) (Bs b) loc K (Cc K (sx key) (CK (K (sx key)) (Jg ⟨sx key,sx val,gone,t⟩))) low a w8->SN base n g off ty cs mb loc K low ⟨sx key,sx val,gone,t⟩ w (ZY ZS) w8:=λa b w8 h1 h2 h3=>by
   unfold SN;rw[b9.o];exact⟨rfl,RJ.trans h1 h2 h3⟩
  have au:=LH Y;clear Y;obtain _|b:=mb
  case' none=>
   have b5:=@YX Tryz.prog;have ag:=z.o.cT;have U:(w2.alloc (.map #[] 0)).setCell ⟨g,off,B0⟩ (.map (Bs w2.heap.size))=(w2.setCell ⟨g,off,B0⟩ (.map (Bs w2.heap.size))).alloc (.map #[] 0):=by
    rw[YA _ _ _ _ Z0]
   have ah:Fr (FE g B0 loc K) w ((w2.alloc (.map #[] 0)).setCell ⟨g,off,B0⟩ (.map (Bs w2.heap.size))):=((show Fr (FE g B0 loc K) w w2 from⟨d.o.os,d.o.tape,d.o.output,d.o.size,λk hk _=>d.o.block k hk⟩).alloc _).setCell (p:=⟨g,off,B0⟩) (.inl (.inl rfl)) _;have af:Ae ((w2.alloc (.map #[] 0)).setCell ⟨g,off,B0⟩ (.map (Bs w2.heap.size))) w.heap.size 45 #[ZV key,ZV val,ZX gone]:=(Fr.aL g _ off _).al (ap.o.alloc _) (λe:w.heap.size=g=>Z4 N.o.al.lt);rw[U]at ag ah af;clear U;have b1:=LH (show ∀q,FE g (Bs w2.heap.size) loc K q->FE g B0 loc K q\/w.heap.size<=q from λq D=>by
    obtain D|D|D:=D;exact eR (eR D);injection D with D;have:=d.o.size;exact eS Z0;exact eR (eS (eS D)))
   have aZ:=LH ag;clear ag;have ar:=LH ah;clear ah;have G:=LH af;clear af;go_upto_region 13 with (fail)
   clear b5 c0 f0;generalize hb:w2.heap.size=b at *;generalize (w2.setCell ⟨g,off,B0⟩ (.map (Bs b))).alloc (.map #[] 0)=a at *
  case' some=>
   have aZ:Hid (Cl w2 base n g off ty (cs.setIfInBounds off (.map (Bs b))) (Bs b) loc K low):=by rw[q6h z.o.c0];exact z
   have ar:=LH (show Fr (FE g (Bs b) loc K) w w2 from⟨d.o.os,d.o.tape,d.o.output,d.o.size,λk hk _=>d.o.block k hk⟩);have b1:=LH (show ∀q,FE g (Bs b) loc K q->FE g (Bs b) loc K q\/w.heap.size<=q from λq D=>eR D);have G:=ap;go_upto_region 13 with (fail)
   clear c0 f0;obtain⟨a,rfl⟩:∃a:D0,a=w2:=⟨w2,rfl⟩
  all_goals
   clear b4 z ap d b0 aq ax O a0 aP;have p1:=G.o.cell 1;have p2:=G.o.cell 2;have pl:=G.o.lt;simp only[NW,Ft,O0]at p1 p2;have aC:Ae (a.alloc (eT #[Wm eQ t,ZV val,ZX gone] 145)) a.heap.size 145 #[Wm eQ t,ZV val,ZX gone]:=Ae.b4 _ _ _;have ai:VI a.heap.size a (a.alloc (eT #[Wm eQ t,ZV val,ZX gone] 145)):=(VC _ _).alloc (Hi _) _;have ao:=LH (G.o.below ai pl);have M:=LH aC;clear aC;have aw:=LH ai;clear ai;go_upto_region 14 with (fail)
   clear p1 p2 pl;generalize a.alloc (eT #[Wm eQ t,ZV val,ZX gone] 145)=w4 at *;have p2:=ao.o.cell 2;have pl:=ao.o.lt;simp only[NW,Ft,O0]at p2;go_upto_if 70 with (fail)
   clear p2 pl;go_cut [] (λwx=>Ae wx a.heap.size 145 (Dk (Jg ⟨sx key,sx val,gone,t⟩)).toArray/\Fr (λk=>k=a.heap.size) w4 wx)
   case first=>
    have v1:=M.o.cell 1;have vf:=M.o.frozen 1;have vl:=M.o.lt;simp only[NW,Ft,O0]at v1;obtain _|_:=gone
    ·go_wp2_with fail;go_meet;exact⟨by unfold Dk Jg;simp only[Yd,if_false,Ks];exact M.o,Fr.refl _ _⟩
    have f:Ae (w4.setCell ⟨a.heap.size,1,B0⟩ (ZV ⟨#[]⟩)) a.heap.size 145 (Dk (Jg ⟨sx key,sx val,VD,t⟩)).toArray/\Fr (λk=>k=a.heap.size) w4 (w4.setCell ⟨a.heap.size,1,B0⟩ (ZV ⟨#[]⟩)):=⟨by unfold Dk Jg;simp only[if_true];exact M.o.aZ 1 _,Fr.aL _ _ _ _⟩
    have HF:=LH f;clear f;go_wp2_with fail;go_meet;exact HF.o
   obtain⟨a2,aR⟩:=hcut;rename D0=>w5
   obtain⟨vv,aA⟩:∃vv:ByteArray,vv=⟨(if gone then []else sx val).toArray⟩:=⟨_,rfl⟩
   have ad:(Dk (Jg ⟨sx key,sx val,gone,t⟩)).toArray=#[Wm eQ t,ZV vv,ZX gone]:=by rw[aA];rfl
   rw[ad]at a2;have b8:=LH ad;clear ad aA;have I:VI a.heap.size a w5:=aw.o.trans (aR.below (λi e=>Z0) aw.o.size);have Z:=aZ.o.aW I;have ae:=G.o.below I G.o.lt;have a9:∀W,VI w5.heap.size w5 W->W.cell? ⟨g,off,B0⟩=Bs (.map (Bs b))/\W.cell? ⟨w.heap.size,0,B0⟩=Bs (ZV key)/\W.cell? ⟨a.heap.size,0,B0⟩=Bs (Wm eQ t)/\W.cell? ⟨a.heap.size,1,B0⟩=Bs (ZV vv)/\W.cell? ⟨a.heap.size,2,B0⟩=Bs (ZX gone):=λW hW=>by
    have k0:=((Z.al.below hW Z.al.lt).cell off).trans Z.c0;have k1:=(ae.below hW ae.lt).cell 0;have hk:=a2.below hW a2.lt;have v0:=hk.cell 0;have v1:=hk.cell 1;have v2:=hk.cell 2;simp only[NW,Ft,O0]at k1 v0 v1 v2;exact⟨k0,k1,v0,v1,v2⟩
   have J:=LH a9;clear a9 a2;have a1:=LH Z;clear Z;have ac:=LH I;clear I aR M ao aw ae;go_wp2_with fail;refine nW ?_;refine CR (λW=>W.cell? ⟨g,off,B0⟩=Bs (.map (Bs b))/\W.cell? ⟨w.heap.size,0,B0⟩=Bs (ZV key)/\W.cell? ⟨a.heap.size,0,B0⟩=Bs (Wm eQ t)/\W.cell? ⟨a.heap.size,1,B0⟩=Bs (ZV vv)/\W.cell? ⟨a.heap.size,2,B0⟩=Bs (ZX gone)) 11 (λ_ _ _ _ _ h=>h) (λr=>?_);have s:=J.o w5.drew (VC _ _).drew;refine nF 0 r s ?_;refine nF 1 r s ?_;refine nF 2 r s ?_;refine nB 3 rfl rfl r s (λw' Q=>by obtain⟨q0,q1,q2,q3,q4⟩:=Q;go_simp;rfl) ?_;refine nF 4 r s ?_;refine nB 5 rfl rfl r s (λw' Q=>by obtain⟨q0,q1,q2,q3,q4⟩:=Q;go_simp;rfl) ?_;refine nF 6 r s ?_;refine nF 7 r s ?_;refine nB 8 rfl rfl r s (λw' Q=>by obtain⟨q0,q1,q2,q3,q4⟩:=Q;go_simp;rfl) ?_;clear s;refine nG 9 (λKK hK=>?_);go_simp;refine hK _ _ (λ_=>J.o _ ((VC _ _).alloc (Hi _) _).drew) ?_;clear hK KK;have a4:VI w5.heap.size w5 (w5.drew.alloc (eT #[Wm eQ t,ZV vv,ZX gone] 145)):=(VC _ _).drew.alloc (Hi _) _;have aB:Ae (w5.drew.alloc (eT #[Wm eQ t,ZV vv,ZX gone] 145)) w5.heap.size 145 (Dk (Jg ⟨sx key,sx val,gone,t⟩)).toArray:=by rw[b8.o];exact Ae.b4 w5.drew _ _
   have ak:=a1.o.aW a4;have B:=ak.row (sx key);rw[HV.o]at B;have a8:=R2 base w5.heap.size 1 (WK A (K (sx key)).length c) (K (sx key)) (Jg ⟨sx key,sx val,gone,t⟩) _ B a7 aB (λe=>by
    rw[<- HV.o]at e;obtain⟨k1,k2⟩:=q70 e;have:=((a1.o.cJ _ k1).block k2).2.1;omega) (by have:=a1.o.lo;have:=a1.o.al.lt;have:=a4.size;omega)
   have ab:=LH a8;clear a8 aB B;have a6:=LH ak;clear ak;have av:=LH a4;clear a4;refine nG 10 (λKK hK=>?_);go_simp;refine ab.o.mono ?_;rintro e w7 ⟨V7,rfl,R,u⟩;have aV:w7.cell? ⟨g,off,B0⟩=Bs (.map (Bs b))/\w7.cell? ⟨w.heap.size,0,B0⟩=Bs (ZV key)/\w7.cell? ⟨a.heap.size,0,B0⟩=Bs (Wm eQ t)/\w7.cell? ⟨a.heap.size,1,B0⟩=Bs (ZV vv)/\w7.cell? ⟨a.heap.size,2,B0⟩=Bs (ZX gone):=by
    obtain⟨q0,q1,q2,q3,q4⟩:=J.o _ av.o;have E:∀q,DL (Bs b) loc K q\/True->q=g\/w.heap.size<=q->¬Bs q=(WK A (K (sx key)).length c).ownBlock:=λq _ D e=>by
     rw[<- HV.o]at e;obtain⟨k1,k2⟩:=q70 e.symm;obtain rfl|D:=D;exact a6.o.dy k1 k2;have:=((N.o.cJ _ k1).block k2).2.1;omega
    have X:∀q,q<w5.heap.size->q<(w5.drew.alloc (eT #[Wm eQ t,ZV vv,ZX gone] 145)).heap.size:=λq D=>VF D av.o.size
    have b7:=a1.o.al.lt;have am:w.heap.size<=a.heap.size:=ar.o.size;have al:a.heap.size<w5.heap.size:=by
     have:=V5 w5 ⟨a.heap.size,0,B0⟩ (J.o w5 (VC _ _)).2.2.1;exact this
    refine⟨(u.1.cell (p:=⟨g,off,B0⟩) (X g b7) (E g (.inr trivial) (.inl rfl))).trans q0,(u.1.cell (p:=⟨w.heap.size,0,B0⟩) (X _ (by show w.heap.size<_;omega)) (E _ (.inr trivial) (.inr (Hi _)))).trans q1,(u.1.cell (p:=⟨a.heap.size,0,B0⟩) (X _ al) (E _ (.inr trivial) (.inr am))).trans q2,(u.1.cell (p:=⟨a.heap.size,1,B0⟩) (X _ al) (E _ (.inr trivial) (.inr am))).trans q3,(u.1.cell (p:=⟨a.heap.size,2,B0⟩) (X _ al) (E _ (.inr trivial) (.inr am))).trans q4⟩
   have V:Ab kV w7 b n (ED loc K):=(show Ab kV _ b n (ED loc K)from a6.o.map).fr u.1 (λe=>by
    rw[<- HV.o]at e;obtain⟨k1,k2⟩:=q70 e.symm;exact a6.o.cM k1 k2)
   have bc:=LH aV;clear aV;have aY:=LH V;clear V;have an:=LH R;clear R;have ba:=LH u;clear u ab;go_simp;refine hK _ _ (λ_=>bc.o) ?_;clear hK KK;refine nG 11 (λKK hK=>?_);refine Hq (C:=kV) 101 142 Tryz.underlying101 (.tmp 75) (.tmp 77) _ rfl (by simp[Xm,Xq]) aY.o Zx key V7 (by simp[Xm,Xq,kV,keyS]) (by simp[Xm,Xq]) aO ?_;intro w8 aM aQ;have aF:RJ base (n+1) g off ty (cs.setIfInBounds off (.map (Bs b))) (Bs b) loc K (Cc K (sx key) (CK (K (sx key)) (Jg ⟨sx key,sx val,gone,t⟩))) low a w8:=by
    have E:CK (K (sx key)) (Jg ⟨sx key,sx val,gone,t⟩)≠[]:=λe=>by have:=qdv (K (sx key)) (Jg ⟨sx key,sx val,gone,t⟩);rw[e]at this;simp at this
    have aL:=ba.o;rw[<- HV.o]at aL;obtain⟨s1,s2,s3⟩:=Cl.setK (n2:=n+1) Z0 a6.o b6 E (λv hv=>by
     obtain rfl|hv:=q80.1 hv;exact⟨aE,b3⟩;exact N.o.cQ _ v hv) (qb3 (N.o.aH _) bb.o) (by rw[qdv];have:=N.o.len (sx key);omega) (eR an.o) aL aM aQ
    have y:=ac.o.trans (av.o.mono ac.o.size);exact RJ.trans (v1:=.map (Bs b)) ⟨y.os,y.tape,y.output,y.size,λk hk _=>y.block k hk⟩ (λq h=>eR h) ⟨Bs b,_,by rw[q5b,q5b];exact s1,s2,s3⟩
   have f:=au.o a b w8 ar.o b1.o aF;have HF:=LH f;clear f aM aQ;refine hK _ _ nZ ?_;clear hK KK;refine nX ?_;clear r;go_wp2_with fail;go_ret;exact HF.o
 have f:SN base n g off ty cs mb loc K low ⟨sx key,sx val,gone,t⟩ w (ZY (.iface 79 (Wm eQ 9))) w2:=by
  unfold SN;rw[aX.o,Z8 hh];exact⟨rfl,RJ.below N.o (WX n) d.o⟩
 have HF:=LH f;clear f hh;go_wp2_with fail;go_ret;exact HF.o
def put_any(c:n+1<=100000):VX Tryz.prog 82 #[ZW (Bs ⟨g,off,B0⟩),Wm eQ t,.agg #[ZV key,ZV val,ZX gone]] w (SN base n g off ty cs mb loc K low ⟨sx key,sx val,gone,t⟩ w):=by by_cases h:t<0\/1099511627776<t;exact Qb base n g off ty cs mb loc K low key val gone t w hI h;by_cases hl:20<(sx key).length\/40<(sx val).length;exact Qc base n g off ty cs mb loc K low key val gone t w hI h hl;by_cases a:t<low;exact S0 base n g off ty cs mb loc K low key val gone t w hI h hl a;exact SZ base n g off ty cs mb loc K low key val gone t w hI h hl a c
end
def q4n(base n g off:Nat)(ty:VR)(cs:Array S2)(mb:Option Nat)(loc:Sx->Ax)(T:Tb)(x:Ak)(w:D0)(e:WE)(w':D0):Prop:=
 ∃(ok:Bool)(l:List Int)(d:Int)(T':Tb)(A:Option Xo)(c:Nat)(a:Option Nat)(loc':Sx->Ax),e=ZY (ZZ #[ZX ok,WK A l.length c,C0 d])/\DM T x ok l d T'/\
  AF w' base (n+2) g off ty (cs.setIfInBounds off (.map a)) a loc' T'/\(∀b,AH a loc' T' b->AH mb loc T b\/w.heap.size<=b)/\Fr (TFr g mb loc T) w w'/\
  Rd w' w'.heap.size 1 A l.length (l.map (Wm eQ))/\(∀b o,A=Bs ⟨b,o,B0⟩->0<l.length->w.heap.size<=b/\¬AH a loc' T' b)
def q9p{w a:D0}{g:Nat}{loc:Sx->Ax}{o:Obj}(c:Fr (λk=>k=g\/Bs k=D) (w.alloc o) a):Fr (TFr g D loc T) w a:=
 ((Fr.refl (λk=>k=g\/Bs k=D) w).alloc o |>.trans c).mono (λi _ h=>by
  obtain h|h:=h;exact eR h;exact eS (eR h))
def qe6{w c:D0}{loc:Sx->Ax}{L:Ax}(f:AtOr D c s)(u:w.heap.size<=c.heap.size)(r:T x≠B0->L=loc x)(q:T x=B0->∀b,AV L b->c.heap.size<=b) :
  ∀b,AH (Bs s) (AB loc x L) (Ar T x (Bs k')) b->AH D loc T b\/w.heap.size<=b:=λb a=>by
 obtain a|⟨y,d,a⟩:=a;injection a with a;obtain h|⟨_,h⟩:=f;exact eR (eR (by rw[h,a]));exact eS Z0;by_cases e:y=x;subst e;rw[show AB loc y L y=L by unfold AB;rw[Z8 rfl]]at a;by_cases p:T y=B0;exact eS (VK u (q p b a));exact eR (eS ⟨y,p,r p▸a⟩);rw[show AB loc x L y=loc y by unfold AB;rw[Z7 e]]at a;unfold Ar at d;rw[Z7 e]at d;exact eR (eS ⟨y,d,a⟩)
def M9(base n g off:Nat)(ty:VR)(cs:Array S2)(mb:Option Nat)(loc:Sx->Ax)(T:Tb)(s:ByteArray)(tx mode:Int)(w:D0)(hI:AF w base n g off ty cs mb loc T)(d:Bt mode)(hl:(sx s).length<=20)(a7:CN tx)(hn:n<1000000)
  (V:CF (Ad T (sx s)).ws tx=VD) :
  VX Tryz.prog 64 #[ZW (Bs ⟨g,off,B0⟩),Wm eQ tx,ZV s,Wm eQ mode] w (q4n base n g off ty cs mb loc T ⟨tx,sx s,mode⟩ w):=by
 have y:VI w.heap.size w (w.alloc (eT #[Wm eQ tx] 3)):=(VC _ _).alloc (Hi _) _;have O:=hI.aW y;have Q:Ae (w.alloc (eT #[Wm eQ tx] 3)) w.heap.size 3 #[Wm eQ tx]:=Ae.b4 w _ _;have I:=NO base n g off ty cs mb loc T s _ O hl hn;have U:=LH I;clear I O;have HI:=LH hI;clear hI;have a4:=LH Q;clear Q;have ab:=LH y;clear y;have a5:¬((s.size:Int) > 20):=by rw[Ia];omega
 go_enter Tryz.func64,Tryz.ntmps64;go_upto_block 0 with (fail)
 go_cut [] (λwx=>wx=w.alloc (eT #[Wm eQ tx] 3))
 case first=>
  obtain rfl|rfl:=d
  ·go_wp2_with fail;go_meet;rfl
  go_wp2_with fail;go_meet;rfl
 subst hcut;go_wp2_with fail;refine U.o.mono ?_;rintro e w1 ⟨b1,L,rfl,B,q,E,N,M⟩;have J:Ar T (sx s) (Bs (Ad T (sx s))) (sx s)=Bs (Ad T (sx s)):=by unfold Ar;rw[Z8 rfl]
 have a:=B.bO (sx s) _ J;rw[show AB loc (sx s) L (sx s)=L by unfold AB;rw[Z8 rfl]]at a;have f:=q.al a4.o (λh=>by
  obtain h|h:=h;have:=HI.o.al.lt;omega;have:=(HI.o.a9 (eR h)).2;omega)
 have cb:=f.cell 0;have Y:=a.al.cell 0;have R:=a.al.cell 1;have a9:=a.al.lt;have a6:=f.lt;obtain⟨A,c,W,a8,_⟩:=AM a.row;simp only[NW,Ft,O0]at cb Y R;rw[W]at R;have r:=q3v 87 #[ZW (Bs ⟨w.heap.size,0,B0⟩)] (λx=>decide (x.1=tx)) A _ c _ w1 (Rz Tryz.func87 Z1 rfl) (qb1 w.heap.size tx w1 cb) (Rd.a7 (W▸a.row)) rfl (Z4 a.len);rw[show(Ad T (sx s)).ws.any (λx=>decide (x.1=tx))=VD from V]at r;have a3:=LH r;clear r;have aa:=LH a;clear a;have a2:=LH B;clear B;have S:=LH q;clear q;have Z:=LH E;clear E;have a1:=LH N;clear N;have a0:=LH M;clear M;have HV:=LH W;clear W;have ac:=LH f;clear f J U;go_wp2_with fail;refine a3.o.mono ?_;rintro e w2 ⟨rfl,u⟩;have G:T (sx s)≠B0:=λh=>by rw[show Ad T (sx s)=k0 by unfold Ad;rw[h];rfl]at V;cases V
 obtain⟨k,hk⟩:=ZJ.1 G;have z:=a2.o.aW u;have D:=qag hk;have X:Ar T (sx s) (Bs (Ad T (sx s)))=T:=D;rw[X]at z;have p:q4n base n g off ty cs mb loc T ⟨tx,sx s,mode⟩ w (ZY (ZZ #[ZX L1,WK B0 0 0,C0 9])) w2:=by
  refine⟨L1,[],9,T,B0,0,Bs b1,_,rfl,.twice d hl V,z.mono Z0,λb hb=>?_,(q9p S.o).trans' (q2l u) (λi hi (h:_<=i)=>?_),Rd.bo _ _ _ _,λb o h=>nomatch h⟩;have h2:=qe6 (w:=w) (k':=Ad T (sx s)) Z.o Z3 a1.o a0.o b;rw[X]at h2;exact h2 hb;have:=S.o.size;simp at this;omega
 have HF:=LH p;clear p z u D X hk G;unfold C0 at HF;go_wp2_with fail;go_ret3;exact HF.o
def qdl(T:Tb)(x:Sx)(a b:Option Kx):Ar (Ar T x a) x b=Ar T x b:=by funext y;unfold Ar;split<;>rfl
def Ky(loc:Sx->Ax)(x:Sx)(L L':Ax):AB (AB loc x L) x L'=AB loc x L':=by funext y;unfold AB;split<;>rfl
def OU(h:Int->Option Int)(tx mode:Int):AY (hM h) tx (Bs (Wm eQ (if mode > AE h tx then mode else AE h tx)))=hM (Az h tx mode):=by
 have e:(if mode > AE h tx then mode else AE h tx)=max (AE h tx) mode:=by split<;>omega
 funext o;unfold AY hM Az Bj;rw[e];split<;>rfl
def Ke{m:Int}(h:Bt m):CN m:=by obtain rfl|rfl:=h<;> rfl
def gain_ok{mode:Int}(d:∀o m,h o=Bs m->CN o/\CN m)(a:CN tx)(f:Bt mode):∀o m,Az h tx mode o=Bs m->CN o/\CN m:=λo m e=>by
 unfold Az Bj at e;split at e;rename_i e1;injection e with e;subst e1;refine⟨a,?_⟩;rw[<- e];unfold AE;obtain c|c:=Int.le_total ((h o).getD 0) mode;rw[Int.max_eq_right c];exact Ke f;rw[Int.max_eq_left c];cases p:h o with
 |none=>rfl
 |some q=>exact(d _ _ p).2
 exact d o m e
def Tv(base n g off:Nat)(ty:VR)(cs:Array S2)(mb:Option Nat)(loc:Sx->Ax)(T:Tb)(s:ByteArray)(tx mode:Int)(w:D0)(hI:AF w base n g off ty cs mb loc T)(q:Bt mode)(hl:(sx s).length<=20)(V:CN tx)(hn:n<1000000)
  (hw:CF (Ad T (sx s)).ws tx=L1) (aa:Ai (Ad T (sx s)).h tx mode (Ad T (sx s)).ws=VD) :
  VX Tryz.prog 64 #[ZW (Bs ⟨g,off,B0⟩),Wm eQ tx,ZV s,Wm eQ mode] w (q4n base n g off ty cs mb loc T ⟨tx,sx s,mode⟩ w):=by
 have a0:VI w.heap.size w (w.alloc (eT #[Wm eQ tx] 3)):=(VC _ _).alloc (Hi _) _;have aj:=hI.aW a0;have al:Ae (w.alloc (eT #[Wm eQ tx] 3)) w.heap.size 3 #[Wm eQ tx]:=Ae.b4 w _ _;have ae:=NO base n g off ty cs mb loc T s _ aj hl hn;have ar:=LH ae;clear ae aj;have HI:=LH hI;clear hI;have aB:=LH al;clear al;have aE:=LH a0;clear a0;have aC:¬((s.size:Int) > 20):=by rw[Ia];omega
 go_enter Tryz.func64,Tryz.ntmps64;go_upto_block 0 with (fail)
 go_cut [] (λwx=>wx=w.alloc (eT #[Wm eQ tx] 3))
 case first=>
  obtain rfl|rfl:=q
  ·go_wp2_with fail;go_meet;rfl
  go_wp2_with fail;go_meet;rfl
 subst hcut;go_wp2_with fail;refine ar.o.mono ?_;rintro e O ⟨b1,L,rfl,a3,Y,a8,ag,af⟩;have D:Ar T (sx s) (Bs (Ad T (sx s))) (sx s)=Bs (Ad T (sx s)):=by unfold Ar;rw[Z8 rfl]
 have d:=a3.bO (sx s) _ D;rw[show AB loc (sx s) L (sx s)=L by unfold AB;rw[Z8 rfl]]at d;have J:=Y.al aB.o (λh=>by
  obtain h|h:=h;have:=HI.o.al.lt;omega;have:=(HI.o.a9 (eR h)).2;omega)
 have cb:=J.cell 0;have am:=d.al.cell 0;have a4:=d.al.cell 1;have a9:=d.al.lt;have R:=J.lt;obtain⟨A,c,hV,au,_⟩:=AM d.row;simp only[NW,Ft,O0]at cb am a4;rw[hV]at a4;have Z:=q3v 87 #[ZW (Bs ⟨w.heap.size,0,B0⟩)] (λx=>decide (x.1=tx)) A _ c _ O (Rz Tryz.func87 Z1 rfl) (qb1 w.heap.size tx O cb) (Rd.a7 (hV▸d.row)) rfl (Z4 d.len);rw[show(Ad T (sx s)).ws.any (λx=>decide (x.1=tx))=L1 from hw]at Z;have aq:=LH Z;clear Z;have ay:=LH d;clear d;have az:=LH a3;clear a3;have ap:=LH Y;clear Y;have aw:=LH a8;clear a8;have ao:=LH ag;clear ag;have an:=LH af;clear af;have HV:=LH hV;clear hV;have aA:=LH J;clear J D ar;go_wp2_with fail;refine aq.o.mono ?_;rintro e w2 ⟨rfl,ad⟩;have r:∀W,VI O.heap.size O W->Bg W base (n+1) L (Ad T (sx s))/\W.cell? ⟨w.heap.size,0,B0⟩=Bs (Wm eQ tx)/\W.cell? ⟨L.g,0,B0⟩=Bs (.map (Bs L.hb))/\W.cell? ⟨L.g,1,B0⟩=Bs (WK A (Ad T (sx s)).ws.length c):=λW hW=>by
  have G:=ay.o.aW hW;have h2:=G.al.cell 0;have h3:=G.al.cell 1;have h4:=(aA.o.below hW R).cell 0;simp only[NW,Ft,O0]at h2 h3 h4;rw[HV.o]at h3;exact⟨G,h4,h2,h3⟩
 have B:∀W,VI O.heap.size O W->VX Tryz.prog 88 #[ZW (Bs ⟨L.g,0,B0⟩),Wm eQ tx,Wm eQ mode,WK A (Ad T (sx s)).ws.length c] W λe w'=>e=ZY (ZX VD)/\VI W.heap.size W w':=λW hW=>by
  have G:=(r W hW).1;have h2:=qe1 L.g L.hb (n+1) (Ad T (sx s)).ws.length c L.V (Ad T (sx s)).h tx mode A (Ad T (sx s)).ws W G.al G.holds G.eg V (Rd.a7 (HV.o▸G.row)) rfl (Z4 G.len);rw[aa]at h2;exact h2
 have f:=LH r;clear r;have a7:=LH B;clear B;have N:=LH ad;clear ad aq;have aD:=LH a9;clear a9;clear cb am a4 R au;go_wp2_with fail;refine nW ?_;refine CR (λw'=>w'.cell? ⟨w.heap.size,0,B0⟩=Bs (Wm eQ tx)/\w'.cell? ⟨L.g,1,B0⟩=Bs (WK A (Ad T (sx s)).ws.length c)) 8 (λ_ _ _ _ _ h=>h) (λa6=>?_);have u:=f.o w2.drew N.o.drew;have p:=Wo u.2.1 u.2.2.2;clear u;refine nE 0 p ?_;refine nC 1 rfl (λ_ _ _ h=>a6 _ _ _ _ _ h) p (λw' U=>by obtain⟨h0,G⟩:=U;go_simp;rfl) ?_;refine nE 2 p ?_;refine nE 3 p ?_;refine nE 4 p ?_;refine nE 5 p ?_;refine nC 6 rfl (λ_ _ _ h=>a6 _ _ _ _ _ h) p (λw' U=>by obtain⟨h0,G⟩:=U;go_simp;rfl) ?_;refine nG 7 (λK hK=>?_);go_simp;refine(a7.o w2.drew N.o.drew).mono ?_;rintro e w3 ⟨rfl,ac⟩;have ak:VI O.heap.size O w3:=N.o.drew.trans (ac.mono (by have:=N.o.size;simpa using this));have I:=LH ak;clear ak ac;have u:=f.o w3 I.o;go_simp;refine hK _ _ (λ_=>⟨u.2.1,u.2.2.2⟩) ?_;clear hK K p;refine nX ?_;clear a6 u;go_wp2_with fail;refine X2 13 Z1 Z1 ?_;change wpStill _ _ (YC _) _ _ _;simp only[WZ,X3,Xj,YG];have a5:=LH V;clear V;obtain⟨X,c0,c1,_⟩:=f.o w3.drew I.o.drew;have av:=qe0 X.holds a5.o;have HH:=LH X.holds;clear X
 repeat still_step
 refine Zm ?_;refine U1 (C:=kI) rfl 61 3 Tryz.underlying61 (.tmp 51) (.tmp 52) (.tmp 60) rfl (by simp[Xm]) HH.o Zx tx (Wm eQ (if mode > AE (Ad T (sx s)).h tx then mode else AE (Ad T (sx s)).h tx)) (by simp[Xm];rfl) (by simp[Xm];try (split<;>omega)) a5.o ?_;intro w4 y ab;have ax:=LH y;clear y;have M:=LH ab;clear ab;clear av c0 c1 HH;have a:=(f.o w3.drew I.o.drew).1;have ai:=az.o.aW I.o.drew;have z:AY (hM (Ad T (sx s)).h) tx (Bs (Wm eQ (if mode > AE (Ad T (sx s)).h tx then mode else AE (Ad T (sx s)).h tx)))=hM (Az (Ad T (sx s)).h tx mode):=OU _ _ _;have y:=ax.o;rw[z]at y;have ah:Bg w4 base (n+2) L ⟨Az (Ad T (sx s)).h tx mode,(Ad T (sx s)).ws⟩:=
  ⟨M.o.al a.al (λe=>a.holds.aV a.al e.symm),y,M.o.own a.row (λb hb e=>by subst e;exact a.holds.bn a.row hb),a.a4,a.loh,λo m h=>gain_ok a.eg a5.o q o m h,a.okw,a.len⟩
 have D:Ar T (sx s) (Bs (Ad T (sx s))) (sx s)=Bs (Ad T (sx s)):=by unfold Ar;rw[Z8 rfl]
 have E:AB loc (sx s) L (sx s)=L:=by unfold AB;rw[Z8 rfl]
 have a2:=ai.d8 (n':=n+2) (L':=L) (k':=⟨Az (Ad T (sx s)).h tx mode,(Ad T (sx s)).ws⟩) D Z0 (M.o.mono (λi _ (h:i=L.hb)=>by rw[E];exact eS (eR h))) ah (by rw[E]) (by rw[E]) (λb hb=>by rw[E];exact eR hb);rw[qdl,Ky]at a2;have Q:q4n base n g off ty cs mb loc T ⟨tx,sx s,mode⟩ w (ZY (ZZ #[ZX VD,WK B0 0 0,C0 0])) w4:=by
  refine⟨VD,[],0,_,B0,0,Bs b1,_,rfl,.got q hl hw aa,a2,qe6 aw.o Z3 ao.o an.o,?_,Rd.bo _ _ _ _,λb o h=>nomatch h⟩;refine((q9p ap.o).trans' (q2l I.o.drew) (λi hi (h:_<=i)=>?_)).trans' M.o (λi hi (h:i=L.hb)=>?_);have:=ap.o.size;simp at this;omega;by_cases a1:T (sx s)=B0;have:=an.o a1 i (eS (eR h));simp at this;omega;exact eS (eS ⟨sx s,a1,by rw[<- ao.o a1];exact eS (eR h)⟩)
 have S:=LH Q;clear Q a2 ah y z D E ai a;unfold C0 at S;go_wp2_with fail
 all_goals
  go_ret3;exact S.o
def Gj(base n:Nat)(V:S2)(l:List Int)(w:D0)(h:w.ownsRow base 3 1 V n (l.map (Wm eQ)))(hl:l.length=n)(z:n<1000000000) :
  VX Tryz.prog 92 #[V] w λe w'=>e=ZY (ZZ #[])/\w'.ownsRow base 3 1 V n ((D3 l).map (Wm eQ))/\Fr (λk=>V.ownBlock=Bs k) w w':=by
 subst hl;obtain⟨rfl,u⟩|⟨g,cap,s,rfl,r,a,f,q,d,c⟩:=h.2
 ·have e:l=[]:=We u;subst e;refine(Ie B0 0 w).mono ?_;rintro e w' ⟨rfl,rfl⟩;exact⟨rfl,by rw[show D3 []=[] by simp[D3]];exact VW _ _ _ _,Fr.refl _ _⟩
 refine(srt_int g 0 cap l w (holds_of_blockI a (by rw[Nat.mul_one]at c;exact c)) (by have:=Ae.lt (show Ae w g _ s from a);omega) Z0).mono ?_;rintro e w' ⟨rfl,n,y,rfl⟩;exact⟨rfl,ownsRow_sortedI (YS l) r a f q d,Fr.b8 (grownBy_sortedI _) (λk p=>by injection p with p;subst p;rfl)⟩
def okN_ins{d:List (Int×Int)}{mode:Int}(h:∀x∈d,CN x.1/\CN x.2)(c:CN tx)(f:Bt mode):∀x∈Cd d (tx,mode),CN x.1/\CN x.2:=λx a=>by
 obtain rfl|a:=q5j.1 a;exact⟨c,Ke f⟩;exact h x a
def key_ins{w5:D0}{base n:Nat}{L:Ax}{mode:Int}(h:Bg W base n L k)(z:(k.ws.takeWhile (λx=>decide (x.1<tx))).length=i)(D:k.ws.length≠50)
  (a:w5.ownsRow base 166 2 V' (k.ws.length+1) (Cq 2 i (CM (tx,mode)) (k.ws.flatMap CM))) (c:Am W w5 L.V.ownBlock V'.ownBlock) (q:CN tx) (y:Bt mode) :
  Bg (w5.setCell ⟨L.g,1,B0⟩ V') base n ⟨L.g,L.hb,V'⟩ ⟨k.h,Cd k.ws (tx,mode)⟩/\Fr (AV L) W (w5.setCell ⟨L.g,1,B0⟩ V'):=by
 have d:=c.1.al h.al (λe=>Bh h.row h.al Z2 e.symm);have f:=h.holds.fr c.1 (λe=>h.holds.bn h.row e.symm);have r:=Bh a d Z2;have u:=Fr.aL L.g w5 1 V';have s:=d.aZ 1 V';refine⟨⟨s,f.fr u (λe=>f.aV d e),?_,h.a4,h.loh,h.eg,okN_ins h.okw q y,?_⟩,(c.1.mono (λb _ B=>.inr (.inr B.symm))).trans ((Fr.refl _ _).setCell (p:=⟨L.g,1,B0⟩) (.inl (.inl rfl)) V')⟩;have:=u.own a (λg A e=>r (by rw[A,e]));rw[Qe z]at this;rw[KM];exact this;rw[KM];have:=h.len;show k.ws.length+1<=50;omega
def KY{loc:Sx->Ax}{L L':Ax}(f:L'.g=L.g)(d:L'.hb=L.hb)(p:∀b,L'.V.ownBlock=Bs b->L.V.ownBlock=Bs b\/B<=b) :
  ∀b,AH D (AB loc x L') (Ar T x (Bs k')) b->AH D (AB loc x L) (Ar T x (Bs k)) b\/B<=b:=λb a=>by
 obtain a|⟨y,c,a⟩:=a;exact eR (eR a);by_cases e:y=x;subst e;rw[show AB loc y L' y=L' by unfold AB;rw[Z8 rfl]]at a;have key:AV L b\/B<=b:=by
  obtain h|h|h:=a;exact eR (eR (by rw[h,f]));exact eR (eS (eR (by rw[h,d])));obtain h|h:=p b h;exact eR (eS (eS h));exact eS h
 obtain h|h:=key;exact eR (eS ⟨y,by unfold Ar;rw[Z8 rfl];simp,by rw[show AB loc y L y=L by unfold AB;rw[Z8 rfl]];exact h⟩);exact eS h;rw[show AB loc x L' y=loc y by unfold AB;rw[Z7 e]]at a;unfold Ar at c;rw[Z7 e]at c;exact eR (eS ⟨y,by unfold Ar;rw[Z7 e];exact c,by rw[show AB loc x L y=loc y by unfold AB;rw[Z7 e]];exact a⟩)
def Ed.eD{P:Xh}{C:Da P kt α}{w:D0}{r n:Nat}{m:α->Option S2}{left:α->Bool}(h:Ed C w b r n m left a):a<=n:=by obtain⟨D,l,⟨s,d,c,f,u,_,_,p,_,_,_,q,_⟩,_⟩:=h;rw[<- q];exact VK (Array.size_filter_le) p
variable {l:List Int}{left:Int->Bool}{mode m:Int}
section
variable {o:Int}
def KD{_:∀p,Decidable (p=o)} : ∀p,(left p && !decide (p=o))=L1↔left p=L1\/p=o:=λp=>by
 by_cases e:p=o<;>simp[e]
def Ve{d:∀p,Decidable (p=o)}(hl:∀p,p∈l↔left p=L1/\∃m,h p=Bs m/\tx<p/\AN m mode=VD)(s:h o=Bs m)(u:left o=VD)(f:¬(tx<o/\AN m mode=VD)) :
  ∀p,p∈l↔(left p && !decide (p=o))=L1/\∃m,h p=Bs m/\tx<p/\AN m mode=VD:=λp=>by
 rw[KD p,hl p];constructor;rintro ⟨c,a⟩;exact⟨eR c,a⟩;rintro ⟨c|c,r,a,q⟩;exact⟨c,r,a,q⟩;subst c;rw[s]at a;injection a with a;subst a;exact ZB q f
def Vd{d:∀p,Decidable (p=o)}(hl:∀p,p∈l↔left p=L1/\∃m,h p=Bs m/\tx<p/\AN m mode=VD)(y:h o=Bs m)(r:left o=VD)(f:tx<o/\AN m mode=VD)(q:l.Nodup) :
  (l++[o]).Nodup/\∀p,p∈l++[o]↔(left p && !decide (p=o))=L1/\∃m,h p=Bs m/\tx<p/\AN m mode=VD:=by
 refine⟨List.nodup_append.2 ⟨q,Z3,λa z b u=>?_⟩,λp=>?_⟩;simp at u;subst u;rintro rfl;have:=((hl a).1 z).1;rw[r]at this;cases this;rw[KD p,XA,hl p,VU];constructor;rintro (⟨c,s⟩|c);exact⟨eR c,s⟩;subst c;exact⟨eS rfl,m,y,f⟩;rintro ⟨c|c,s⟩;exact eR ⟨c,s⟩;exact eS c
end
def Rq(tx mode o m:Int):Bool:=decide (tx<o) && AN m mode
def QI:(Tryz.prog.info? 3).map (λi=>(i.zero,i.size,i.bytes))=Bs (Bs (Wm eQ 0),1,8):=by kernel_rfl
def Uj(W:D0)(h:Int->Option Int)(tx mode:Int)(c r n:Nat)(v:S2)(wr:D0):Prop:=
 ∃(left:Int->Bool)(a:Nat)(l:List Int),Ed kI wr c r n (hM h) left a/\l.length+a<=n/\wr.ownsRow (W.heap.size+1) 3 1 v l.length (l.map (Wm eQ))/\l.Nodup/\
  (∀o,o∈l↔left o=L1/\∃m,h o=Bs m/\tx<o/\AN m mode=VD)/\VI W.heap.size W wr/\W.heap.size+1<=wr.heap.size
def UD(base n g off:Nat)(ty:VR)(cs:Array S2)(mb:Option Nat)(loc:Sx->Ax)(T:Tb)(x:Ak)(w:D0)(lg d:Nat)(a:D0):Prop:=
 ∃(c:Nat)(V:S2),AF a base (n+1) g off ty (cs.setIfInBounds off (.map (Bs c))) (Bs c) (AB loc x.key ⟨lg,d,V⟩) (Ar T x.key (Bs ⟨(Ad T x.key).h,Cd (Ad T x.key).ws (x.tx,x.bQ)⟩))/\
  (∀b,AH (Bs c) (AB loc x.key ⟨lg,d,V⟩) (Ar T x.key (Bs ⟨(Ad T x.key).h,Cd (Ad T x.key).ws (x.tx,x.bQ)⟩)) b->AH mb loc T b\/w.heap.size<=b)/\Fr (TFr g mb loc T) w a/\Ae a w.heap.size 3 #[Wm eQ x.tx]/\lg<a.heap.size
def IB(base n g off:Nat)(ty:VR)(cs:Array S2)(mb:Option Nat)(loc:Sx->Ax)(T:Tb)(s:ByteArray)(tx mode:Int)(w:D0)(hI:AF w base n g off ty cs mb loc T)(R:Bt mode)(hl:(sx s).length<=20)(bk:CN tx)(hn:n<1000000)
  (hw:CF (Ad T (sx s)).ws tx=L1) (aU:Ai (Ad T (sx s)).h tx mode (Ad T (sx s)).ws=L1) (aR:(Ad T (sx s)).ws.Pairwise (·.1 < ·.1)) :
  VX Tryz.prog 64 #[ZW (Bs ⟨g,off,B0⟩),Wm eQ tx,ZV s,Wm eQ mode] w (q4n base n g off ty cs mb loc T ⟨tx,sx s,mode⟩ w):=by
 have b0:VI w.heap.size w (w.alloc (eT #[Wm eQ tx] 3)):=(VC _ _).alloc (Hi _) _;have bN:=hI.aW b0;have bQ:Ae (w.alloc (eT #[Wm eQ tx] 3)) w.heap.size 3 #[Wm eQ tx]:=Ae.b4 w _ _;have bH:=NO base n g off ty cs mb loc T s _ bN hl hn;have c7:=LH bH;clear bH bN;have HI:=LH hI;clear hI;have cA:=LH bQ;clear bQ;have ap:=LH b0;clear b0;have cC:¬((s.size:Int) > 20):=by rw[Ia];omega
 go_enter Tryz.func64,Tryz.ntmps64;go_upto_block 0 with (fail)
 go_cut [] (λwx=>wx=w.alloc (eT #[Wm eQ tx] 3))
 case first=>
  obtain rfl|rfl:=R
  ·go_wp2_with fail;go_meet;rfl
  go_wp2_with fail;go_meet;rfl
 subst hcut;go_wp2_with fail;refine c7.o.mono ?_;rintro e w1 ⟨b1,L,rfl,b4,aW,bp,bJ,bI⟩;have ax:Ar T (sx s) (Bs (Ad T (sx s))) (sx s)=Bs (Ad T (sx s)):=by unfold Ar;rw[Z8 rfl]
 have U:=b4.bO (sx s) _ ax;rw[show AB loc (sx s) L (sx s)=L by unfold AB;rw[Z8 rfl]]at U;have aw:=aW.al cA.o (λh=>by
  obtain h|h:=h;have:=HI.o.al.lt;omega;have:=(HI.o.a9 (eR h)).2;omega)
 have cb:=aw.cell 0;have az:=U.al.cell 0;have b7:=U.al.cell 1;have bz:=U.al.lt;have af:=aw.lt;obtain⟨A,c,hV,ca,_⟩:=AM U.row;simp only[NW,Ft,O0]at cb az b7;rw[hV]at b7;have aX:=q3v 87 #[ZW (Bs ⟨w.heap.size,0,B0⟩)] (λx=>decide (x.1=tx)) A _ c _ w1 (Rz Tryz.func87 Z1 rfl) (qb1 w.heap.size tx w1 cb) (Rd.a7 (hV▸U.row)) rfl (Z4 U.len);rw[show(Ad T (sx s)).ws.any (λx=>decide (x.1=tx))=L1 from hw]at aX;have c1:=LH aX;clear aX;have be:=LH U;clear U;have aE:=LH b4;clear b4;have a9:=LH aW;clear aW;have ba:=LH bp;clear bp;have aD:=LH bJ;clear bJ;have aC:=LH bI;clear bI;have HV:=LH hV;clear hV;have c5:=LH aw;clear aw ax c7;go_wp2_with fail;refine c1.o.mono ?_;rintro e w2 ⟨rfl,bG⟩;have a1:∀W,VI w1.heap.size w1 W->Bg W base (n+1) L (Ad T (sx s))/\W.cell? ⟨w.heap.size,0,B0⟩=Bs (Wm eQ tx)/\W.cell? ⟨L.g,0,B0⟩=Bs (.map (Bs L.hb))/\W.cell? ⟨L.g,1,B0⟩=Bs (WK A (Ad T (sx s)).ws.length c):=λW hW=>by
  have D:=be.o.aW hW;have O:=D.al.cell 0;have h3:=D.al.cell 1;have h4:=(c5.o.below hW af).cell 0;simp only[NW,Ft,O0]at O h3 h4;rw[HV.o]at h3;exact⟨D,h4,O,h3⟩
 have ae:∀W,VI w1.heap.size w1 W->VX Tryz.prog 88 #[ZW (Bs ⟨L.g,0,B0⟩),Wm eQ tx,Wm eQ mode,WK A (Ad T (sx s)).ws.length c] W λe w'=>e=ZY (ZX L1)/\VI W.heap.size W w':=λW hW=>by
  have D:=(a1 W hW).1;have O:=qe1 L.g L.hb (n+1) (Ad T (sx s)).ws.length c L.V (Ad T (sx s)).h tx mode A (Ad T (sx s)).ws W D.al D.holds D.eg bk (Rd.a7 (HV.o▸D.row)) rfl (Z4 D.len);rw[aU]at O;exact O
 have y:=LH a1;clear a1;have an:=LH ae;clear ae;have aq:=LH bG;clear bG c1;have cI:=LH bz;clear bz;have c4:=LH af;have ct:=LH bk;clear cb az b7 af ca;go_upto_region 8 with (fail)
 go_cut [47] (λs47 wx=>s47=ZX L1/\VI w1.heap.size w1 wx)
 case first=>
  refine nW ?_;refine CR (λw'=>w'.cell? ⟨w.heap.size,0,B0⟩=Bs (Wm eQ tx)/\w'.cell? ⟨L.g,1,B0⟩=Bs (WK A (Ad T (sx s)).ws.length c)) 8 (λ_ _ _ _ _ h=>h) (λq=>?_);have r:=y.o w2.drew aq.o.drew;have a:=Wo r.2.1 r.2.2.2;clear r;refine nF 0 q a ?_;refine nB 1 rfl rfl q a (λw' J=>by obtain⟨h0,D⟩:=J;go_simp;rfl) ?_;refine nF 2 q a ?_;refine nF 3 q a ?_;refine nF 4 q a ?_;refine nF 5 q a ?_;refine nB 6 rfl rfl q a (λw' J=>by obtain⟨h0,D⟩:=J;go_simp;rfl) ?_;refine nG 7 (λK E=>?_);go_simp;refine(an.o w2.drew aq.o.drew).mono ?_;rintro e w3 ⟨rfl,Z⟩;have bP:VI w1.heap.size w1 w3:=aq.o.drew.trans (Z.mono (by have:=aq.o.size;simpa using this));have G:=LH bP;clear bP Z;have r:=y.o w3 G.o;go_simp;refine E _ _ (λ_=>⟨r.2.1,r.2.2.2⟩) ?_;clear E K a;refine nX ?_;clear q r;go_wp2_with fail;go_meet;exact⟨rfl,G.o⟩
 obtain⟨bi,Z⟩:=hcut;subst bi;clear an aq;have G:=LH Z;clear Z;have bL:=aE.o.aW G.o;have c0:=LH bL;clear bL;obtain⟨_,co,cq,cp⟩:=y.o wc G.o;by_cases a8:(Ad T (sx s)).ws.length=50
 ·
  have I:q4n base n g off ty cs mb loc T ⟨tx,sx s,mode⟩ w (ZY (ZZ #[ZX L1,WK B0 0 0,C0 4])) wc:=by
   have cf:T (sx s)≠B0:=λh=>by rw[show Ad T (sx s)=k0 by unfold Ad;rw[h];rfl]at a8;cases a8
   obtain⟨k,hk⟩:=ZJ.1 cf;have hT:Ar T (sx s) (Bs (Ad T (sx s)))=T:=qag hk;have bM:=c0.o;rw[hT]at bM;refine⟨L1,[],4,T,B0,0,Bs b1,_,rfl,.full R hl hw aU a8,bM.mono Z0,λb hb=>?_,(q9p a9.o).trans' (q2l G.o) (λi hi (h:_<=i)=>?_),Rd.bo _ _ _ _,λb o h=>(nomatch h)⟩;have O:=qe6 (w:=w) (k':=Ad T (sx s)) ba.o Z3 aD.o aC.o b;rw[hT]at O;exact O hb;have:=a9.o.size;simp at this;omega
  have N:=LH I;clear I;have bR:(((Ad T (sx s)).ws.length:Int) == 50)=VD:=by simp[a8]
  unfold C0 at N;go_wp2_with fail;go_ret3;exact N.o
 have bR:(((Ad T (sx s)).ws.length:Int) == 50)=L1:=by rw[beq_eq_false_iff_ne];omega
 have c8:=LH a8;clear a8;go_upto_region 13 with (fail)
 clear bR co cq cp;go_cut [12] (λs12 wx=>∃i:Nat,s12=Wm eQ i/\Hid (i<=(Ad T (sx s)).ws.length/\((Ad T (sx s)).ws.takeWhile (λx=>decide (x.1<tx))).length=i)/\VI w1.heap.size w1 wx)
 case first=>
  refine nW ?_;refine CR (λw'=>w'.cell? ⟨w.heap.size,0,B0⟩=Bs (Wm eQ tx)/\w'.cell? ⟨L.g,1,B0⟩=Bs (WK A (Ad T (sx s)).ws.length c)) 10 (λ_ _ _ _ _ h=>h) (λq=>?_);have r:=y.o wc.drew G.o.drew;have a:=Wo r.2.1 r.2.2.2;have bF:=Jk 90 (Rh tx) A _ c (Ad T (sx s)).ws tx wc.drew (Rz Tryz.func90 Z1 rfl) (QA tx wc.drew) (Rd.a7 (HV.o▸r.1.row)) rfl (Z4 r.1.len) (λ_ _=>trivial) (T9 aR);have c3:=LH bF;clear bF;clear r;refine nF 0 q a ?_;refine nF 1 q a ?_;refine nF 2 q a ?_;refine nB 3 rfl rfl q a (λw' J=>by obtain⟨h0,D⟩:=J;go_simp;rfl) ?_;refine nB 4 rfl rfl q a (λw' J=>by obtain⟨h0,D⟩:=J;go_simp;rfl) ?_;refine nG 5 (λK E=>?_);go_simp;refine c3.o.mono ?_;rintro e w4 ⟨i,f,rfl,hi,bu,bv,_,ag⟩;have ac:=Kc hi bu bv;have al:=LH (Wo hi ac);clear hi bu bv ac;have bO:VI w1.heap.size w1 w4:=G.o.drew.trans (ag.mono (by have:=G.o.size;simpa using this));have X:=LH bO;clear bO ag c3;have r:=y.o w4 X.o;have a0:=Wo r.2.1 r.2.2.2;clear r a;have a:=a0;clear a0;go_simp;refine E _ _ (λ_=>a) ?_;clear E K;refine nG 6 (λK E=>?_);go_simp;refine E _ _ (λ_=>a) ?_;clear E K;refine nF 7 q a ?_;refine nF 8 q a ?_;refine nG 9 (λK E=>?_);go_simp;refine E _ _ (λ_=>a) ?_;clear E K;refine nG 10 (λK E=>?_);go_simp;refine E _ _ nZ ?_;clear E K;refine nX ?_;clear q a;go_wp2_with fail;go_meet;exact⟨i,rfl,al,X.o⟩
 obtain⟨i,bj,ac,ag⟩:=hcut;subst bj;have X:=LH ag;clear ag G c0;have al:=LH ac.o;clear ac;go_upto_region 14 with (fail)
 go_cut [] (λwx=>UD base n g off ty cs mb loc T ⟨tx,sx s,mode⟩ w L.g L.hb wx)
 case first=>
  refine nW ?_;refine CR (λw'=>w'.cell? ⟨w.heap.size,0,B0⟩=Bs (Wm eQ tx)/\w'.cell? ⟨L.g,1,B0⟩=Bs (WK A (Ad T (sx s)).ws.length c)) 11 (λ_ _ _ _ _ h=>h) (λq=>?_);have r:=y.o wc.drew X.o.drew;have a:=Wo r.2.1 r.2.2.2;clear r;refine nF 0 q a ?_;refine nF 1 q a ?_;refine nF 2 q a ?_;refine nF 3 q a ?_;refine nB 4 rfl rfl q a (λw' J=>by obtain⟨h0,D⟩:=J;go_simp;rfl) ?_;refine nF 5 q a ?_;refine nB 6 rfl rfl q a (λw' J=>by obtain⟨h0,D⟩:=J;go_simp;rfl) ?_;refine nF 7 q a ?_;refine nF 8 q a ?_;refine nG 9 (λK E=>?_);go_simp;have ah:VI w1.heap.size w1 ((wc.alloc (eT #[Wm eQ tx,Wm eQ mode] 166)).drew):=(X.o.alloc (by have:=X.o.size;simpa using this) _).drew;have a6:=y.o _ ah;have bK:=aE.o.aW ah;have bh:Ae ((wc.alloc (eT #[Wm eQ tx,Wm eQ mode] 166)).drew) wc.heap.size 166 #[Wm eQ tx,Wm eQ mode]:=Ae.b4 wc _ _;have aN:=c5.o.below ah c4.o;have aL:=RR base (Ad T (sx s)).ws.length i wc.heap.size 1 L.V ((Ad T (sx s)).ws.flatMap CM) (CM (tx,mode)) _ a6.1.row al.o.1 (Z4 a6.1.len) (λu hu=>by
   obtain⟨x,_,hx⟩:=ZK.1 hu;simp only[CM,Ye,X9,or_false]at hx;obtain rfl|rfl:=hx<;> rfl) rfl (λu hu=>by
   simp only[CM,Ye,X9,or_false]at hu;obtain rfl|rfl:=hu<;> rfl) bh (λe=>Z5 ((be.o.a9 (eS (eS e))).2) X.o.size) (by have:=aE.o.bg;have:=X.o.size;simp;omega)
  generalize ck:(wc.alloc (eT #[Wm eQ tx,Wm eQ mode] 166)).drew=w5 at *;have aP:=LH aL;clear aL;have a4:=LH a6.1;have cv:=LH bK;clear bK;have c6:=LH ah;clear ah;have aj:=LH aN;clear aN bh;have a0:=Wo a6.2.1 a6.2.2.2;clear a6 a;have a:=a0;clear a0;clear ck;refine E _ _ (λ_=>a) ?_;clear E K;refine nG 10 (λK E=>?_);rw[HV.o]at aP;go_simp;refine aP.o.mono ?_;rintro e w6 ⟨V',rfl,ab,M⟩;rw[<- HV.o]at M;obtain⟨S,aV⟩:=key_ins a4.o al.o.2 c8.o ab M ct.o R;have av:=M.1.al a4.o.al (λe=>Bh a4.o.row a4.o.al Z2 e.symm);have b6:=av.cell 1;have cr:=av.frozen 1;have bA:=av.lt;simp only[NW,Ft,O0]at b6;have aM:=M.1.al aj.o (λe=>Bh a4.o.row aj.o Z2 e.symm);have b5:=aM.cell 0;simp only[NW,Ft]at b5;have aY:=b6;rw[HV.o]at aY;have cz:=LH (Wo b5 aY);clear b5 aY aM;have I:UD base n g off ty cs mb loc T ⟨tx,sx s,mode⟩ w L.g L.hb (w6.setCell ⟨L.g,1,B0⟩ V'):=by
   have ax:Ar T (sx s) (Bs (Ad T (sx s))) (sx s)=Bs (Ad T (sx s)):=by unfold Ar;rw[Z8 rfl]
   have ay:AB loc (sx s) L (sx s)=L:=by unfold AB;rw[Z8 rfl]
   have a7:=cv.o.d8 (n':=n+1) (L':=⟨L.g,L.hb,V'⟩) (k':=⟨(Ad T (sx s)).h,Cd (Ad T (sx s)).ws (tx,mode)⟩) ax (Hi _) (by rw[ay];exact aV) S (by rw[ay]) (by rw[ay]) (λb hb=>by
    rw[ay];obtain e|⟨g',e,cd⟩:=M.2;exact eR (e.symm.trans hb);rw[hb]at e;injection e with e;exact eS Z0)
   rw[qdl,Ky]at a7;refine⟨b1,V',a7,λb hb=>?_,?_,?_,by simp[World.setCell];exact bA⟩;rcases KY (L:=L) (L':=⟨L.g,L.hb,V'⟩) (k:=Ad T (sx s)) (k':=⟨(Ad T (sx s)).h,Cd (Ad T (sx s)).ws (tx,mode)⟩) (B:=w5.heap.size) rfl rfl (λb hb=>by
    obtain e|⟨g',e,cd⟩:=M.2;exact eR (e.symm.trans hb);have cj:V'.ownBlock=Bs b:=hb;rw[cj]at e;injection e with e;exact eS Z0) b hb with h|h
   exact qe6 ba.o Z3 aD.o aC.o b h;exact eS (by have:=c6.o.size;have:=a9.o.size;simp at this;omega);refine((q9p a9.o).trans' (q2l c6.o) (λi hi (h:_<=i)=>?_)).trans' aV (λi hi (h:AV L i)=>?_);have:=a9.o.size;simp at this;omega;by_cases b3:T (sx s)=B0;have:=aC.o b3 i h;simp at this;omega;exact eS (eS ⟨sx s,b3,by rw[<- aD.o b3];exact h⟩);exact(M.1.al aj.o (λe=>Bh a4.o.row aj.o Z2 e.symm)).far (λe=>aj.o.ne_ a4.o.al Z2 e) _
  obtain⟨A',c',cm,_,_⟩:=AM ab;have N:=LH I;clear I S aV av ab M;subst cm;clear a;go_simp;refine E _ _ (λ_=>cz.o) ?_;clear E K;refine nG 11 (λK E=>?_);go_simp;refine E _ _ nZ ?_;clear E K;refine nG 12 (λK E=>?_);go_simp;refine E _ _ nZ ?_;clear E K;refine nG 13 (λK E=>?_);go_simp;refine E _ _ nZ ?_;clear E K;refine nX ?_;clear q b6 cr bA;go_wp2_with fail;go_meet;exact N.o
 obtain⟨b2,V,a7,bB,bC,au,cF⟩:=hcut;rename D0=>W6
 clear y al X a9 ba aD aC HV be aE;have S:=a7.bO (sx s) _ (show Ar T (sx s) _ (sx s)=_ by unfold Ar;rw[Z8 rfl]);rw[show AB loc (sx s) ⟨L.g,L.hb,V⟩ (sx s)=⟨L.g,L.hb,V⟩ by unfold AB;rw[Z8 rfl]]at S;have az:=S.al.cell 0;have cb:=au.cell 0;simp only[NW,Ft]at az cb;have ci:=au.lt;have bW:=LH S.holds;have bV:=LH S.eg;have bw:=S.holds.lt;have bZ:=LH a7;clear a7;have cy:=LH bB;clear bB;have bf:=LH bC;clear bC;have cJ:=LH au;clear au S;have cw:=LH bw;clear bw;go_wp2_with (at_range;refine q32 rfl _ 61 3 rfl Tryz.underlying61 rfl bW.o ?_;intro w0 bS aI ce BJ)
 try go_frame
 go_loopw [14] (λv wr=>Uj W6 (Ad T (sx s)).h tx mode L.hb W6.heap.size (n+1) v wr) (λ_ wr=>wr.rangeLeft L.hb W6.heap.size)
 case atStart=>exact⟨_,bS,[],aI,(Z6 aI.eD),VW _ _ _ _,List.nodup_nil,(λo=>by
  simp only[X9,false_iff];rintro ⟨D,m,O,_⟩;simp[hM,O]at D),ce.bH,Z0⟩
 obtain⟨left,cG,l,bo,bE,aJ,bq,aK,aZ,bl⟩:=hrel;have bT:=(aZ.cell (p:=⟨w.heap.size,0,B0⟩) ci).trans cb;have aO:w.heap.size<wr.heap.size:=by omega
 have b9:=LH bo;clear bo;have Q:=LH aJ;clear aJ;have bc:=LH bq;clear bq;have am:=LH aK;clear aK;have ap:=LH aZ;clear aZ;have ao:=LH bE;clear bE;have aA:=LH bl;clear bl;go_wp2_with (at_next;refine q3m rfl _ rfl rfl b9.o ?_ ?_)
 ·
  intro cc;have aF:=Gj (W6.heap.size+1) l.length _ l wr Q.o rfl (Z4 ao.o);have bU:=LH aF;clear aF;obtain⟨A2,c2,cl,_,cn⟩:=AM Q.o;subst cl;go_wp2_with fail;refine bU.o.mono ?_;rintro e w9 ⟨rfl,z,bD⟩;have I:q4n base n g off ty cs mb loc T ⟨tx,sx s,mode⟩ w (ZY (ZZ #[ZX L1,WK A2 l.length c2,C0 0])) w9:=by
   have a2:VI W6.heap.size W6 w9:=ap.o.trans (bD.below (λi hi=>Z4 ((Q.o.lt i hi).1)) (Z4 ap.o.size));have bm:(D3 l).length=l.length:=YS l;refine⟨L1,D3 l,0,_,A2,c2,Bs b2,_,by rw[bm],.waits R hl hw aU c8.o ⟨JU bc.o,λo=>?_⟩,(bZ.o.aW a2).mono Z0,cy.o,bf.o.trans' (q2l a2) (λi hi (h:_<=i)=>Z4 bf.o.size),?_,λb o e h0=>?_⟩;rw[GM,am.o o];constructor;rintro ⟨_,m,D,O,h3⟩;exact⟨O,m,D,h3⟩;rintro ⟨O,m,D,h3⟩;exact⟨cc o (bV.o o m D).1,m,D,O,h3⟩;rw[bm];exact Rd.a7 z;have D:=Q.o.lt b (by rw[cn _ e]);refine⟨Z4 bf.o.size,λO=>?_⟩;have:=(bZ.o.a9 O).2;omega
  have N:=LH I;clear I bD z;unfold C0 at N;go_wp2_with fail;go_ret3;exact N.o
 intro o v w3 ai cD bt Y aH aT ar bn cg;obtain⟨m,hm,rfl⟩:∃m,(Ad T (sx s)).h o=Bs m/\v=Wm eQ m:=by
  unfold hM at Y;cases e:(Ad T (sx s)).h o with
  |none=>rw[e]at Y;cases Y
  |some m=>rw[e]at Y;injection Y with Y;exact⟨m,rfl,Y.symm⟩
 have Z:VI W6.heap.size W6 w3:=ap.o.trans (ar.below (λi (hi:i=_)=>Z0) (Z4 ap.o.size));have ad:=ar.own Q.o (λb hb (e:b=_)=>Z4 ((Q.o.lt b hb).1));have cH:=(ar.cell (p:=⟨w.heap.size,0,B0⟩) aO (λe=>by have:w.heap.size=W6.heap.size:=e;omega)).trans bT;have ch:w.heap.size<w3.heap.size:=by omega
 have G:=LH Z;clear Z;have bb:=LH ad;clear ad;have bX:=LH hm;clear hm;have ak:=LH aH;clear aH Y;have bY:=LH bt;clear bt;rw[show kI.val o=Wm eQ o from rfl]at cg ⊢;have br:w3.rangeLeft L.hb W6.heap.size<wr.rangeLeft L.hb W6.heap.size:=by
  rw[ak.o.left_eq,b9.o.left_eq];exact aT
 have cu:=LH br;clear br;have bd:=LH aT;clear aT ar;have aB:=LH bn;clear bn;clear bT aO;have aa:¬(tx<o/\AN m mode=VD)->Uj W6 (Ad T (sx s)).h tx mode L.hb W6.heap.size (n+1) _ w3:=λaS=>
  ⟨_,ai,l,ak.o,Z5 ao.o bd.o,bb.o,bc.o,Ve am.o bX.o bY.o aS,G.o,Z5 aA.o aB.o⟩
 have b8:=LH aa;clear aa;have bx:∀V9 w9,(tx<o/\AN m mode=VD)->w9.ownsRow (W6.heap.size+1) 3 1 V9 (l.length+1) (l.map (Wm eQ)++[Wm eQ o])->VI (W6.heap.size+1) w3 w9->
   Uj W6 (Ad T (sx s)).h tx mode L.hb W6.heap.size (n+1) V9 w9/\w9.rangeLeft L.hb W6.heap.size<wr.rangeLeft L.hb W6.heap.size:=λV9 w9 a5 z a2=>by
  have aG:Ed kI w9 L.hb W6.heap.size (n+1) (hM (Ad T (sx s)).h) _ ai:=ak.o.cg (a2.block _ (Z4 cw.o)) (a2.block _ Z0);have hw:=Vd (d:=λp=>Classical.propDecidable (p=o)) am.o bX.o bY.o a5 bc.o;refine⟨⟨_,ai,l++[o],aG,by have:=ao.o;have:=bd.o;simp;omega,Z6 z,hw.1,hw.2,G.o.trans (a2.mono Z0),by have:=a2.size;have:=aA.o;have:=aB.o;omega⟩,?_⟩;rw[aG.left_eq,b9.o.left_eq];exact bd.o
 have cx:=LH bx;clear bx;go_upto_region 19 with (fail)
 go_cut [110] (λs110 wx=>s110=ZX (Rq tx mode o m)/\wx=w3)
 case first=>
  by_cases D:tx<o
  ·have d1:decide (o > tx)=VD:=ZA D;by_cases O:m=2
   ·have d2:(m == 2)=VD:=Z6 O;have a3:=LH (show Rq tx mode o m=VD by simp[Rq,D,AN,O]);go_wp2_with fail;go_meet;exact⟨by rw[a3.o],rfl⟩
   have d2:(m == 2)=L1:=Z6 O;by_cases h3:mode=2
   ·have d3:(mode == 2)=VD:=Z6 h3;have a3:=LH (show Rq tx mode o m=VD by simp[Rq,D,AN,h3]);go_wp2_with fail;go_meet;exact⟨by rw[a3.o],rfl⟩
   have d3:(mode == 2)=L1:=Z6 h3;have a3:=LH (show Rq tx mode o m=L1 by simp[Rq,D,AN,O,h3]);go_wp2_with fail;go_meet;exact⟨by rw[a3.o],rfl⟩
  have d1:decide (o > tx)=L1:=Z9 D;have a3:=LH (show Rq tx mode o m=L1 by simp[Rq,D]);go_wp2_with fail;go_meet;exact⟨by rw[a3.o],rfl⟩
 obtain⟨aQ,c9⟩:=hcut;subst aQ c9;rcases bg:Rq tx mode o m with _|_
 ·have aS:¬(tx<o/\AN m mode=VD):=λh=>by simp[Rq,h.1,h.2]at bg
  have HR:=LH (b8.o aS);go_wp2_with fail;go_roundw
  case rel=>exact HR.o
  case measure=>exact cu.o
 have a5:tx<o/\AN m mode=VD:=by simpa [Rq]using bg
 have HY:=LH a5;clear a5;go_wp2_with (at_builtin;refine stop ?_)
 refine CD ?_;refine Oq _ _ rfl (.tmp 111) (.tmp 113) 26 rfl (W6.heap.size+1) 3 (Wm eQ 0) 1 8 Tryz.underlying26 QI rfl Z2 _ _ _ #[Wm eQ o] rfl bb.o 1 rfl _ rfl rfl (by simp[Wx]) ?_ ?_ ?_ ?_;have:=ao.o;unfold VY;omega;have:=ao.o;omega;have:=aA.o;have:=aB.o;omega;intro v' w9 z M;have h9:=cx.o v' w9 HY.o (Z6 z) (M.below (λb hb=>(bb.o.lt b hb).1) (Z5 aA.o aB.o));have H9:=LH h9;clear h9 z M;go_wp2_with fail;go_roundw
 case rel=>exact H9.o.1
 case measure=>exact H9.o.2
def LQ(tx:Int)(x:Int×Int):Bool:=decide (x.1=tx)
def OY(w:D0)(g o:Nat)(x:Int×Int):D0:=(w.setCell ⟨g,o,B0⟩ (Wm eQ x.1)).setCell ⟨g,o+1,B0⟩ (Wm eQ x.2)
def TT(w:D0)(g o:Nat)(x:Int×Int):Fr (λi=>i=g) w (OY w g o x):=
 ((Fr.refl (λi=>i=g) w).setCell (p:=⟨g,o,B0⟩) (.inl rfl) _).setCell (p:=⟨g,o+1,B0⟩) (.inl rfl) _
def set2:∀(M:List (Int×Int)) (i:Nat) (x:Int×Int),i<M.length->(((M.flatMap CM).set (i*2) (Wm eQ x.1)).set (i*2+1) (Wm eQ x.2))=(M.set i x).flatMap CM
 |[],i,x,h=>by simp at h
 |y::M,0,x,_=>by simp[CM]
 |y::M,i+1,x,h=>by
  have a:=set2 M i x (Z6 h);have c:(i+1)*2=i*2+2:=by omega
  rw[c,XY,VH,VH,<- a];simp[CM,Zh]
def Qj{w:D0}{base g n cap:Nat}(h:w.ownsRow base 166 2 (WK (Bs ⟨g,0,B0⟩) n cap) n (L.flatMap CM))(x:Int×Int)(a:i<L.length) :
  (OY w g (i*2) x).ownsRow base 166 2 (WK (Bs ⟨g,0,B0⟩) n cap) n ((L.set i x).flatMap CM):=by
 rw[<- set2 L i x a];exact((h.stored _ _).1.stored _ _).1
def IL{w:D0}(h:VI B w w'):Fr (λk=>B<=k) w w':=⟨h.os,h.tape,h.output,h.size,λk _ a=>h.block k Z0⟩
def Lb(L:List (Int×Int))(i:Nat):(L.flatMap CM).take (i*2)=(L.take i).flatMap CM:=by
 induction L generalizing i with
 |nil=>simp
 |cons x L a=>
  cases i with
  |zero=>simp
  |succ i=>rw[show(i+1)*2=i*2+2 by omega,VH,WZ,VH,<- a];simp[CM]
def Jc{w:D0}{base e size n:Nat}{v:S2}(h:w.ownsRow base e size v n xs)(a:VI w.heap.size w w'):w'.ownsRow base e size v n xs:=
 Fr.own (S:=λk=>w.heap.size<=k) ⟨a.os,a.tape,a.output,a.size,λk _ d=>a.block k Z0⟩ h (λg c (f:w.heap.size<=g)=>Z4 ((h.lt g c).2))
def O5(base a n cap:Nat)(tx:Int)(L:List (Int×Int))(w:D0)(u v:S2)(wr:D0):Prop:=
 ∃(i j:Nat) (M:List (Int×Int)),u=Wm eQ i/\v=Wm eQ j/\i<j/\j<=n/\M.length=n/\M.take i=AG (L.take j) tx/\M.drop j=L.drop j/\wr.ownsRow base 166 2 (WK (Bs ⟨a,0,B0⟩) n cap) n (M.flatMap CM)/\Fr (λk=>k=a) w wr
def Fc(base a cap:Nat)(n:Nat)(l:List (Int×Int))(w:D0)(e:WE)(w':D0):Prop:=
 e=ZY (WK (Bs ⟨a,0,B0⟩) l.length cap)/\w'.ownsRow base 166 2 (WK (Bs ⟨a,0,B0⟩) l.length cap) l.length (l.flatMap CM)/\Fr (λk=>k=a) w w'/\l.length<=n
def qdp{x:Int×Int}(h:L[j]? = Bs x):AG (L.take (j+1)) tx=if LQ tx x then AG (L.take j) tx else AG (L.take j) tx++[x]:=by unfold AG;rw[VV,h,XZ];rcases a:LQ tx x with _|_<;>(unfold LQ at a;simp[a])
def Qm(h:C4 (LQ tx) L=i):i<L.length/\L.take i=AG (L.take (i+1)) tx:=by
 unfold C4 at h;rcases a:L.findIdx? (LQ tx)with _|j;rw[a]at h;simp only at h;omega;rw[a]at h;have e:j=i:=by have q:(j:Int)=i:=h;omega
 subst e;rw[VP]at a;obtain⟨hl,f,d⟩:=a;refine⟨hl,?_⟩;rw[qdp (K0 hl),Z8 f];unfold AG;rw[ZN.2];intro x c;obtain⟨k,p,rfl⟩:=XF.1 c;have:=d k Z0;unfold LQ at this;simpa using this
def off_all(h:C4 (LQ tx) L = -1):AG L tx=L:=by unfold C4 at h;rcases a:L.findIdx? (LQ tx)with _|j;unfold AG;rw[ZN.2];intro x c;rw[Wp]at a;have:=a x c;unfold LQ at this;simpa using this;rw[a]at h;simp only at h;omega
def Me(tx:Int)(L:List (Int×Int)):C4 (LQ tx) L = -1\/∃i:Nat,C4 (LQ tx) L=i:=by unfold C4;split;exact eS ⟨_,rfl⟩;exact eR rfl
def w_zero(w:D0):(Yh 166).run Tryz.prog w=.ok (.agg #[Wm eQ 0,Wm eQ 0]) w:=by kernel_rfl
def Jp(base r n cap b:Nat)(tx:Int)(L:List (Int×Int))(w:D0)(d:w.ownsRow base 166 2 (WK (Bs ⟨r,0,B0⟩) n cap) n (L.flatMap CM))(hl:L.length=n)(hn:n<=100000)
  (hb:w.cell? ⟨b,0,B0⟩=Bs (Wm eQ tx)) (ag:b≠r):VX Tryz.prog 102 #[WK (Bs ⟨r,0,B0⟩) n cap,.func (.func 103) #[] #[ZW (Bs ⟨b,0,B0⟩)]] w (Fc base r cap n (AG L tx) w):=by
 have a5:=q8c 103 #[ZW (Bs ⟨b,0,B0⟩)] (LQ tx) (Bs ⟨r,0,B0⟩) n cap L w (Rz Tryz.func103 Z1 rfl) (q5x b tx w hb) (Rd.a7 d) hl hn;have a8:=V5 w _ hb;have S:=LH a5;clear a5;have X:=LH d;clear d;have HB:=LH hb;clear hb;have HL:=LH hl;clear hl;obtain hf|⟨i0,hf⟩:=Me tx L
 ·rw[hf]at S;go_enter Tryz.func102,Tryz.ntmps102;go_wp2_with fail;refine S.o.mono ?_;rintro e w1 ⟨rfl,f⟩;have u:Fc base r cap n (AG L tx) w (ZY (WK (Bs ⟨r,0,B0⟩) n cap)) w1:=by
   rw[off_all hf];unfold Fc;rw[HL.o];exact⟨rfl,Jc X.o f,⟨f.os,f.tape,f.output,f.size,λk hk _=>f.block k hk⟩,Hi _⟩
  have N:=LH u;clear u;go_wp2_with fail;go_ret;exact N.o
 rw[hf]at S;obtain⟨a6,a4⟩:=Qm hf;have a6:i0<n:=Z4 HL.o;have a2:((i0:Int) == -1)=L1:=by rw[beq_eq_false_iff_ne];omega
 go_enter Tryz.func102,Tryz.ntmps102;go_wp2_with fail;refine S.o.mono ?_;rintro e w1 ⟨rfl,f⟩;have A:O5 base r n cap tx L w (Wm eQ i0) (Wm eQ ((i0:Int)+1)) w1:=⟨i0,i0+1,L,rfl,rfl,Z0,Z0,HL.o,a4,rfl,Jc X.o f,⟨f.os,f.tape,f.output,f.size,λk hk _=>f.block k hk⟩⟩
 have ah:=LH A;clear A;clear hf a4;go_wp2_with fail;clear a2 a6 f;go_loopw [5,6] (O5 base r n cap tx L w) (λ_ v _=>n-(intOf v).toNat)
 case atStart=>exact ah.o
 obtain⟨i,j,M,rfl,rfl,al,hj,hM,E,Q,d,D⟩:=hrel;by_cases ak:(j:Int)<n
 ·have hx:M[j]? = L[j]?:=by
   have:=congrArg (λl=>l[0]?) Q;simpa using this
  obtain⟨g',o',x,hA,an,a0,h0,h1⟩:=(Rd.a7 d).cP hM (j:=j) Z0;simp only[VN,Xe,and_true]at hA;obtain⟨rfl,rfl⟩:=hA;rw[Wk]at h0 h1;have a1:L[j]? = Bs x:=hx▸a0;have O:Fr (λ_=>False) wr (wr.alloc (eT #[Wm eQ x.1,Wm eQ x.2] 166)):=(Fr.refl _ _).alloc _;have a7:=(O.cell (p:=⟨b,0,B0⟩) (VF a8 D.size) (λh=>h)).trans ((D.cell (p:=⟨b,0,B0⟩) a8 ag).trans HB.o);have s:=q5x b tx _ a7 _ x (VC _ _);unfold wtV at s;rw[show(λy:Int×Int=>decide (y.1=tx)) x=LQ tx x from rfl]at s;have a9:Ae (wr.alloc (eT #[Wm eQ x.1,Wm eQ x.2] 166)) wr.heap.size 166 #[Wm eQ x.1,Wm eQ x.2]:=Ae.b4 wr _ _;have G:=O.own d (λ_ _ h=>h);have HC:=LH s;clear s;have af:=LH a9;clear a9;have ai:=LH G;clear G;have ad:=LH (D.trans' O (λ_ _ h=>h.elim));clear D O;have ab:=LH E;clear E;have ac:=LH Q;clear Q;have aa:=LH a1;clear a1 hx a0 a7;have HM:=LH hM;clear hM;go_wp2_with fail;refine HC.o.mono ?_;rintro e w2 ⟨rfl,Z⟩;have J:Fr (λk=>k=r) w w2:=ad.o.trans' (IL Z) (λi hi (h:_<=i)=>by have:=ad.o.size;simp at h this;omega);have a:=Jc ai.o Z;have R:Ae w2 wr.heap.size 166 #[Wm eQ x.1,Wm eQ x.2]:=af.o.below Z af.o.lt;have ae:=LH J;clear J;rcases hp:LQ tx x with _|_
  ·have z:=qdp (tx:=tx) aa.o;rw[hp,Z7 Z3]at z;have Y:i<M.length:=by rw[HM.o];omega
   have q0:=R.cell 0;have q1:=R.cell 1;simp only[NW,O0,Ft]at q0 q1;obtain⟨g',o',y,hA,_,_,p0,p1⟩:=(Rd.a7 a).cP HM.o (j:=i) Z0;simp only[VN,Xe,and_true]at hA;obtain⟨rfl,rfl⟩:=hA;rw[Wk]at p0 p1;have f0:=a.frozenAt (i*2);have f1:=a.frozenAt (i*2+1);have am:r<w2.heap.size:=(a.lt r rfl).2;have U:=Qj a x Y;have q:O5 base r n cap tx L w (Wm eQ ((i:Int)+1)) (Wm eQ ((j:Int)+1)) (OY w2 r (i*2) x):=by
    refine⟨i+1,j+1,M.set i x,rfl,rfl,Z0,Z0,by rw[XU];exact HM.o,?_,?_,U,ae.o.trans (TT w2 r (i*2) x)⟩;rw[z,<- ab.o,VV,List.take_set,YK Y,Ze (by rw[WD];omega)];simp;rw[List.drop_set_of_lt Z0,<- Xp,ac.o,Xp]
   have B:=LH q;clear q U z Y;have HP:=LH hp;clear hp;have ap:=LH a;clear a;clear R h0 h1;unfold OY at B;go_wp2_with fail;go_roundw;exact B.o;simp[intOf];omega
  have z:=qdp (tx:=tx) aa.o;rw[hp,Z8 rfl]at z;have q:O5 base r n cap tx L w (Wm eQ i) (Wm eQ ((j:Int)+1)) w2:=
   ⟨i,j+1,M,rfl,rfl,Z0,Z0,HM.o,by rw[ab.o,z],by rw[<- Xp,ac.o,Xp],a,ae.o⟩
  have B:=LH q;clear q z a;have HP:=LH hp;clear hp R h0 h1;go_wp2_with fail;go_roundw;exact B.o;simp[intOf];omega
 obtain rfl:j=n:=by omega
 have aj:=(q3w d).1;have V:L.take j=L:=VS (Z4 HL.o);rw[V]at E;have a3:(AG L tx).length=i:=by rw[<- E,WD];omega
 have I:=q5f d (i:=i) Z0;rw[Lb,E]at I;obtain⟨w2,ao,a,J⟩:=q5v 164 (.agg #[Wm eQ 0,Wm eQ 0]) BD w_zero (by rfl) Z2 I (m:=j-i) (c:=cap-i) Z0;have s1:=q5u (size:=2) 164 (by rw[PX];exact BD) (λW=>by rw[PX];exact PY W) wr r j cap i (i:Int) rfl Z0;have s2:=q47 164 BD PX PY w2 r j cap i (i:Int) rfl Z0;have u:Fc base r cap j (AG L tx) w (ZY (WK (Bs ⟨r,0,B0⟩) i cap)) w2:=by
  unfold Fc;rw[a3];exact⟨rfl,a,D.trans J,Z0⟩
 have N:=LH u;clear u a J I d E Q hM D a3 V;go_wp2_with fail;go_ret;exact N.o
section
open Go.RowKit Go.Maps Go.Sort Go.Shelf
def q9f{w:D0}{base base':Nat}{size n:Nat}{v:S2}(h:w.ownsRow base e size v n xs)(c:base'<=base):w.ownsRow base' e size v n xs:=
 ⟨h.1,h.2.imp id λ⟨g,cap,a,f,d,r⟩=>⟨g,cap,a,f,VK c d,r⟩⟩
def q90{H:Type}{D:DataW H}{P:Xh}{k:VR}{R:S2->Option (DataW H×List MemPlace)}{w:D0}{n:Nat}(f:w.ownsMap P k R b n D)(K:Keyed P k)(M:P.underlying k=Bs .string) :
  (strKeys D).Nodup/\(∀x,x∈strKeys D↔has D (.string x)=VD)/\(strKeys D).length=Maps.size D:=by
 obtain⟨u,G,z,_⟩:=f.entries K;obtain⟨E,s,B⟩:=f.keysOf;obtain rfl:u=E:=by rw[G]at s;simpa using s
 subst G;have d:∀p∈u,∃x,p.1=.string x:=λp L=>by obtain⟨v,J⟩:=B p L;obtain⟨x,_,I,_⟩:=Maps.keyOf_str M J;exact⟨x,I⟩
 refine⟨?_,λx=>?_,?_⟩;show(u.map λp=>Go.strOf p.1).Nodup;refine List.pairwise_map.2 (z.imp_of_mem λ{p q} c y A e=>A ?_);obtain⟨a,r⟩:=d p c;obtain⟨b,N⟩:=d q y;rw[r,N]at e ⊢;exact congrArg _ e;rw[has_eq,X1];show x∈u.map (λp=>Go.strOf p.1)↔_;rw[List.mem_map];constructor;rintro ⟨p,c,rfl⟩;obtain⟨a,r⟩:=d p c;exact⟨p,c,by rw[r];simp[Lit.sameKey,Go.strOf]⟩;rintro ⟨p,c,hs⟩;obtain⟨a,r⟩:=d p c;rw[r]at hs;exact⟨p,c,by rw[r];simpa [Lit.sameKey,Go.strOf]using hs⟩;show(u.map λp=>Go.strOf p.1).length=_;simp[Maps.size]
def KsPost(T:Tb)(n:Nat)(w:D0)(e:WE)(w':D0):Prop:=
 ∃(V:S2)(ks:List Sx),e=ZY V/\Hm T ks/\ks.length<=n/\w'.ownsRow w.heap.size 9 1 V ks.length (ks.map encStr)/\VI w.heap.size w w'
def Nl(mb:Option Nat)(W:D0):VX Tryz.prog 101 #[.map mb] W λe w'=>e=ZY (.func (.func 123) #[] #[ZW (Bs ⟨W.heap.size,0,B0⟩)])/\w'=W.alloc (eT #[.map mb] 98):=
 callsIn_wide.1 (Tz mb W)
def QD{w:D0}{n:Nat}{loc:Sx->Ax}{D:DataW S2}(f:DK kS D (Bk loc T))(hs:∀x,T x≠B0->x.length<=20)(a:w.ownsMap Tryz.prog 9 De b n D) :
  ∀x,has D (.string x)=VD↔T x≠B0:=λx=>by
 have key:∀y:Sx,y.length<=VY->(has D (.string y)=VD↔T y≠B0):=λy d=>by
  have c:=f ⟨y.toArray⟩ (show(ByteArray.mk y.toArray).size<=VY by show y.toArray.size<=VY;simpa using d);have e:(kS).kl ⟨y.toArray⟩=.string y:=by show Lit.string _=_;simp
  rw[e]at c;rw[c.1];have q:sx ⟨y.toArray⟩=y:=by show y.toArray.toList=y;simp
  unfold Bk;rw[q];cases T y<;>simp
 constructor;intro h;have p:x∈strKeys D:=((q90 a kS.law Tryz.underlying9).2.1 x).2 h;exact(key x (strKeys_le a Tryz.underlying9 x p)).1 h;intro h;exact(key x (by have:=hs x h;unfold VY;omega)).2 h
def Mv{n:Nat}{mb:Option Nat}{loc:Sx->Ax}(w:D0)(A:LB w n mb loc T)(hs:∀x,T x≠B0->x.length<=20)(E:n<=2000000) :
  VX Tryz.prog 100 #[.func (.func 123) #[] #[ZW (Bs ⟨w.heap.size,0,B0⟩)]] (w.alloc (eT #[.map mb] 98)) (KsPost T n w):=by
 have r:VI w.heap.size w (w.alloc (eT #[.map mb] 98)):=(VC _ _).alloc (Hi _) _;have d:w.heap.size<=(w.alloc (eT #[.map mb] 98)).heap.size:=by simp
 obtain _|b:=mb
 ·refine(callsIn_wide.1 (KF w)).mono ?_;rintro e w' ⟨v,ss,rfl,rfl,c,_,z⟩;refine⟨v,[],rfl,⟨Yv,λx=>?_⟩,VG _,?_,r.trans (z.mono d)⟩;have:=A x;simp[this];have:=q9f c d;simpa using this
 obtain⟨D,a,B⟩:=A;obtain⟨u,p,q⟩:=q90 a kS.law Tryz.underlying9;have y:=a.size_le;refine(callsIn_wide.1 (Ni b n D De w a Zx Z0)).mono ?_;rintro e w' ⟨v,ss,rfl,s,c,_,z⟩;have f:(JT ss).length=ss.length:=YS ss;refine⟨v,JT ss,rfl,⟨Sy (s.nodup_iff.2 u),λx=>?_⟩,?_,?_,r.trans (z.mono d)⟩;rw[Qv,s.mem_iff,p,QD B hs a];rw[f,s.length_eq,q];exact y;rw[f];exact q9f c d
end
def hM_del(h:Int->Option Int)(tx:Int):AY (hM h) tx B0=hM (Bj h tx B0):=by funext o;unfold AY hM Bj;split<;>rfl
def key_del{w:D0}{base n:Nat}{L:Ax}(h:Bg w base n L k)(c:Ab kI w' L.hb n (AY (hM k.h) tx B0))(d:Fr (λb=>b=L.hb) w w'):Bg w' base n L ⟨Bj k.h tx B0,k.ws⟩:=
 ⟨d.al h.al (λe=>h.holds.aV h.al e.symm),by rw[hM_del]at c;exact c,d.own h.row (λb p e=>by subst e;exact h.holds.bn h.row p),h.a4,h.loh,λo m f=>by
  have a:Bj k.h tx B0 o=Bs m:=f;unfold Bj at a;split at a;cases a;exact h.eg o m a,h.okw,h.len⟩
def TO{mode:Int}(d:∀o m,h o=Bs m->CN o/\CN m)(a:CN tx)(f:CN mode):∀o m,Az h tx mode o=Bs m->CN o/\CN m:=λo m e=>by
 unfold Az Bj at e;split at e;rename_i e1;injection e with e;subst e1;refine⟨a,?_⟩;rw[<- e];unfold AE;obtain c|c:=Int.le_total ((h o).getD 0) mode;rw[Int.max_eq_right c];exact f;rw[Int.max_eq_left c];cases p:h o with
 |none=>rfl
 |some q=>exact(d _ _ p).2
 exact d o m e
def TA{w:D0}{base n:Nat}{L:Ax}{mode:Int}(h:Bg w base n L k)(d:Ab kI w' L.hb (n+1) (AY (hM k.h) tx (Bs (Wm eQ (if mode > AE k.h tx then mode else AE k.h tx)))))(f:Fr (λb=>b=L.hb) w w')(c:CN tx)(a:CN mode) :
  Bg w' base (n+1) L ⟨Az k.h tx mode,k.ws⟩:=
 ⟨f.al h.al (λe=>h.holds.aV h.al e.symm),by rw[OU]at d;exact d,f.own h.row (λb q e=>by subst e;exact h.holds.bn h.row q),h.a4,h.loh,λo m p=>TO h.eg c a o m p,h.okw,h.len⟩
def ON{w5:D0}{base n:Nat}{L:Ax}{a:List (Int×Int)}(h:Bg W base n L k)(d:Ae w5 L.g 168 #[.map (Bs L.hb),L.V])(f:Ab kI w5 L.hb n (hM k.h))
  (c:w5.ownsRow base 166 2 V' a.length (a.flatMap CM)) (q:∀x∈a,CN x.1/\CN x.2) (p:a.length<=50):Bg (w5.setCell ⟨L.g,1,B0⟩ V') base n ⟨L.g,L.hb,V'⟩ ⟨k.h,a⟩:=by
 have s:=Fr.aL L.g w5 1 V';have r:=Bh c d Z2;exact⟨d.aZ 1 V',f.fr s (λe=>f.aV d e),s.own c (λg u e=>r (by rw[u,e])),h.a4,h.loh,h.eg,q,p⟩
def Jo(b:Nat)(tx:Int)(w:D0)(f:w.cell? ⟨b,0,B0⟩=Bs (Wm eQ tx)):VX Tryz.prog 102 #[WK B0 0 0,.func (.func 103) #[] #[ZW (Bs ⟨b,0,B0⟩)]] w
  λe w'=>e=ZY (WK B0 0 0)/\VI w.heap.size w w':=by
 have a:=q8c 103 #[ZW (Bs ⟨b,0,B0⟩)] (LQ tx) B0 0 0 [] w (Rz Tryz.func103 Z1 rfl) (q5x b tx w f) (Rd.bo _ _ _ _) rfl Z0;rw[show C4 (LQ tx) [] = -1 from rfl]at a;have d:=LH a;clear a;go_enter Tryz.func102,Tryz.ntmps102;go_wp2_with fail;refine d.o.mono ?_;rintro e q ⟨rfl,c⟩;have p:=LH c;clear c;go_wp2_with fail;go_ret;exact⟨rfl,p.o⟩
def offW_le(a:List (Int×Int))(tx:Int):(AG a tx).length<=a.length:=WC _ _
def RU(base n b:Nat)(tx:Int)(V:S2)(L:List (Int×Int))(w:D0)(d:w.ownsRow base 166 2 V n (L.flatMap CM))(hl:L.length=n)(r:n<=100000)(p:w.cell? ⟨b,0,B0⟩=Bs (Wm eQ tx))(f:V.ownBlock≠Bs b) :
  VX Tryz.prog 102 #[V,.func (.func 103) #[] #[ZW (Bs ⟨b,0,B0⟩)]] w λe w'=>
   ∃A c,e=ZY (WK A (AG L tx).length c)/\w'.ownsRow base 166 2 (WK A (AG L tx).length c) (AG L tx).length ((AG L tx).flatMap CM)/\Fr (λk=>V.ownBlock=Bs k) w w'/\(WK A (AG L tx).length c).ownBlock=V.ownBlock:=by
 obtain⟨rfl,z⟩|⟨g,cap,y,rfl,_⟩:=d.2
 ·have e:L=[]:=We Z0;subst e;refine(Jo b tx w p).mono ?_;rintro e w' ⟨rfl,a⟩;exact⟨B0,0,rfl,VW _ _ _ _,⟨a.os,a.tape,a.output,a.size,λk s _=>a.block k s⟩,rfl⟩
 refine(Jp base g n cap b tx L w d hl r p (λe=>f (by rw[e];rfl))).mono ?_;rintro e w' ⟨rfl,q,u,_⟩;exact⟨Bs ⟨g,0,B0⟩,cap,rfl,q,u.mono (λi _ (h:i=g)=>by rw[h];rfl),rfl⟩
def AF.turn2{w:D0}{base n g:Nat}{cs:Array S2}{mb:Option Nat}{loc:Sx->Ax}(h:AF w base n g i kt cs mb loc T){L':Ax}(I:T x=Bs k)(W:n<=n')
  {U:Nat->Prop} (L:Fr (λb=>AV (loc x) b\/U b) w w') (S:∀b,U b->b≠g/\¬AH mb loc T b) (hk:Bg w' base n' L' k') (Y:L'.g=(loc x).g) (X:L'.hb=(loc x).hb) (hV:∀b,L'.V.ownBlock=Bs b->(loc x).V.ownBlock=Bs b\/w.heap.size<=b) :
  AF w' base n' g i kt cs mb (AB loc x L') (Ar T x (Bs k')):=by
 have p:∀b,AV L' b->AV (loc x) b\/w.heap.size<=b:=λb a=>by
  obtain a|a|a:=a;exact eR (eR (by rw[a,Y]));exact eR (eS (eR (by rw[a,X])));obtain h|h:=hV b a;exact eR (eS (eS h));exact eS h
 have f:∀y,Ar T x (Bs k') y≠B0->y=x\/(y≠x/\T y≠B0):=λy d=>by
  unfold Ar at d;split at d;rename_i e;exact eR e;rename_i e;exact eS ⟨e,d⟩
 have B:∀y,y≠x->AB loc x L' y=loc y:=λy e=>by unfold AB;rw[Z7 e]
 have E:AB loc x L' x=L':=by unfold AB;rw[Z8 rfl]
 have r:T x≠B0:=by rw[I];simp
 have u:∀y,y≠x->T y≠B0->∀b,AV (loc y) b->¬AV (loc x) b:=λy e d b a=>h.apart y x e d r b a
 refine⟨L.al h.al (λa=>a.elim (λa=>h.e6 I a rfl) (λa=>(S _ a).1 rfl)),h.c0,?_,λy O d=>?_,λy z D d V b a=>?_,λy d=>?_,h.ne,h.dU,λy d=>?_,VK h.bg L.size⟩
 ·have J:=h.map;rcases s:mb with _|c;rw[s]at J;exact ZB (J x) r;rw[s]at J;have e:Bk (AB loc x L') (Ar T x (Bs k'))=Bk loc T:=by
   funext t;unfold Bk;by_cases e:sx t=x;rw[e,E,Y];unfold Ar;rw[Z8 rfl,I];rfl;rw[B _ e];unfold Ar;rw[Z7 e]
  show Ab kS w' c n' _;rw[e];exact(Ab.fr (C:=kS) J L (λa=>a.elim (λa=>h.cA I s a rfl) (λa=>(S _ a).2 (eR s.symm)))).mono W
 ·unfold Ar at d;split at d;rename_i e;subst e;injection d with d;rw[<- d,E];exact hk;rename_i e;rw[B y e];exact((h.bO y O d).fr L (λb a q=>q.elim (λq=>u y e (by rw[d];simp) b a q) (λq=>(S _ q).2 (eS ⟨y,by rw[d];simp,a⟩)))).mono W
 obtain rfl|⟨e1,A⟩:=f y d;obtain rfl|⟨N,q⟩:=f z V;exact ZB rfl D;rw[B z N];rw[E]at a;intro M;obtain G|G:=p b a;exact u z N q b M G;obtain⟨Z,Q⟩:=ZJ.1 q;have:=((h.bO z Z Q).a9 M).2;omega;rw[B y e1]at a;obtain rfl|⟨N,q⟩:=f z V;rw[E];intro M;obtain G|G:=p b M;exact u y e1 A b a G;obtain⟨O,R⟩:=ZJ.1 A;have:=((h.bO y O R).a9 a).2;omega;rw[B z N];exact h.apart y z D A q b a;obtain rfl|⟨_,A⟩:=f y d;exact h.bJ y r;exact h.bJ y A;obtain rfl|⟨e1,A⟩:=f y d;rw[E,X];exact h.dj y r;rw[B y e1];exact h.dj y A
def Si{w:D0}{base n g:Nat}{loc:Sx->Ax}{s:ByteArray}(h:AF w base n g i kt X (Bs b) loc T)(B:Ab kS w' b n (AY (Bk loc T) s B0))(q:Fr (λk=>k=b) w w') :
  AF w' base n g i kt X (Bs b) loc (Ar T (sx s) B0):=by
 have a:∀y,Ar T (sx s) B0 y≠B0->y≠sx s/\T y≠B0:=λy c=>by
  unfold Ar at c;split at c;exact ZB rfl c;rename_i e;exact⟨e,c⟩
 have p:g≠b:=λe=>(Ab.aV (C:=kS) h.map h.al) e.symm
 refine⟨q.al h.al p,h.c0,?_,λy u c=>?_,λy z f c A=>h.apart y z f (a y c).2 (a z A).2,λy c=>h.bJ y (a y c).2,h.ne,h.dU,λy c=>h.dj y (a y c).2,VK h.bg q.size⟩;show Ab kS w' b n _;have e:Bk loc (Ar T (sx s) B0)=AY (Bk loc T) s B0:=by
  funext t;unfold AY Bk Ar;by_cases e:t=s;subst e;simp;have:¬sx t=sx s:=λh=>e (q8z h)
  simp[e,this]
 rw[e];exact B;have D:=a y (by rw[c];simp);have d:T y=Bs u:=by unfold Ar at c;rw[Z7 D.1]at c;exact c
 exact(h.bO y u d).fr q (λE r e=>by subst e;exact h.cA d rfl r rfl)
def Ru(a:Ak):List S2:=[Wm eQ a.tx,ZV ⟨a.key.toArray⟩,Wm eQ a.bQ]
def g_info:(Tryz.prog.info? 179).map (λi=>(i.zero,i.size,i.bytes))=Bs (Bs (.agg #[Wm eQ 0,ZV ⟨#[]⟩,Wm eQ 0]),3,32):=by kernel_rfl
def AF.cL{w:D0}{base n g:Nat}{mb:Option Nat}{loc:Sx->Ax}(h:AF w base n g i kt X mb loc T){base' size m:Nat}{v:S2}(c:w.ownsRow base' e size v m xs)
  (E:e≠kt) (D:e≠168) (B:e≠166) (a:v.ownBlock=Bs b):b≠g/\¬AH mb loc T b:=by
 refine⟨λr=>Bh c h.al E (by rw[a,r]),?_⟩;rintro (z|⟨x,y,f⟩);have:=h.map;rw[<- z]at this;exact Ab.bn (C:=kS) this c a;obtain⟨k,d⟩:=ZJ.1 y;have q:=h.bO x k d;obtain rfl|rfl|f:=f;exact Bh c q.al D a;exact q.holds.bn c a;obtain⟨rfl,_⟩|⟨u,cap,s,rfl,_,A,_⟩:=c.2;cases a;have p:u=b:=by injection a
 subst p;exact Bh q.row (show Ae w u e s from A) (λr=>B r.symm) f
section
open Go.RowKit Go.Maps Go.Sort Go.Shelf
open Classical in
def Fx(T:Tb)(tx:Int)(ks:List Sx)(j:Nat):Tb:=λx=>if x∈ks.take j then(T x).bind λk=>FH k tx else T x
def tkT_0(T:Tb)(tx:Int)(ks:List Sx):Fx T tx ks 0=T:=by funext x;simp[Fx]
def tkT_all(h:Hm T ks):Fx T tx ks ks.length=Bp T tx:=by
 funext x;unfold Fx Bp;rw[WU];split;rfl;rename_i a;have:T x=B0:=Classical.byContradiction λc=>a ((h.2 x).2 c)
 rw[this];rfl
def qde(h:ks.Pairwise (· < ·)):ks.Nodup:=List.Pairwise.imp (R:=(· < ·)) (by intro a b h e;subst e;exact List.lt_irrefl _ h) h
def Mm(h:ks.Nodup)(c:ks[j]? = Bs x):x ∉ ks.take j:=λd=>by
 obtain⟨i,q,p⟩:=XF.1 d;obtain⟨f,a⟩:=ZC.1 c;exact ZO.1 h i j Z0 f Z0 (by rw[p,a])
def HJ(a:x ∉ ks.take j):Fx T tx ks j x=T x:=by unfold Fx;rw[Z7 a]
def JD(a:ks[j]? = Bs x)(c:T x=Bs k):Fx T tx ks (j+1)=Ar (Fx T tx ks j) x (FH k tx):=by funext y;unfold Fx Ar;rw[VV,a];by_cases e:y=x;subst e;simp[c];simp[e]
def Pb(base n g off:Nat)(ty:VR)(cs:Array S2)(mb:Option Nat)(loc:Sx->Ax)(T:Tb)(tx:Int)(w:D0)(ks:List Sx)(Vk:S2)(v5 a:S2)(wr:D0):Prop:=
 ∃(j:Nat)(loc':Sx->Ax)(gs:List Ak),a=Wm eQ j/\j<=ks.length/\gs=(ks.take j).flatMap (MH T tx)/\AF wr base (n+50) g off ty cs mb loc' (Fx T tx ks j)/\
  (∀x k,T x=Bs k->x ∉ ks.take j->Bg wr base n (loc' x) k)/\(∀b,AH mb loc' (Fx T tx ks j) b->AH mb loc T b\/w.heap.size<=b)/\Fr (TFr g mb loc T) w wr/\
  wr.ownsRow (w.heap.size+1) 179 3 v5 gs.length (gs.flatMap Ru)/\gs.length<=50*j/\wr.ownsRow w.heap.size 9 1 Vk ks.length (ks.map encStr)/\Ae wr w.heap.size 3 #[Wm eQ tx]
def Pc(base n g off:Nat)(ty:VR)(cs:Array S2)(mb:Option Nat)(loc:Sx->Ax)(T:Tb)(tx:Int)(w:D0)(e:WE)(w':D0):Prop:=
 ∃(V:S2)(ks:List Sx)(loc':Sx->Ax),e=ZY V/\Hm T ks/\w'.ownsRow (w.heap.size+1) 179 3 V (ks.flatMap (MH T tx)).length ((ks.flatMap (MH T tx)).flatMap Ru)/\
  AF w' base (n+50) g off ty cs mb loc' (Bp T tx)/\(∀b,AH mb loc' (Bp T tx) b->AH mb loc T b\/w.heap.size<=b)/\Fr (TFr g mb loc T) w w'
def Pi(base n:Nat)(q:Ax)(s:Int->Option Int)(a:List (Int×Int))(u:Nat)(c:List Ak)(x:Sx)(p:Option Nat)(W:D0)(v5 r f:S2)(wr:D0):Prop:=
 ∃(i:Nat) (h:Int->Option Int) (lf done:List (Int×Int)),f=Wm eQ i/\i<=a.length/\Bg wr base (n+i) q ⟨h,a⟩/\wr.ownsRow W.heap.size 166 2 r lf.length (lf.flatMap CM)/\
  wr.ownsRow u 179 3 v5 (c.length+done.length) ((c++done.map λd=>(⟨d.1,x,d.2⟩:Ak)).flatMap Ru)/\
  DP s [] a=((DP h lf (a.drop i)).1,(DP h lf (a.drop i)).2.1,done++(DP h lf (a.drop i)).2.2)/\Fr (λb=>b=q.hb\/p=Bs b) W wr/\
  (∀y∈lf,y∈a)/\lf.length<=i/\done.length<=i/\(∀b,v5.ownBlock=Bs b->p=Bs b\/W.heap.size<=b)
def q6j{w:D0}{base base' size m:Nat}{s:VR}{v v':S2}{c:List S2}(h:w.ownsRow base e size v m xs)(z:w.ownsRow base' s a v' i c)(d:e≠s)(q:v.ownBlock=Bs b):v'.ownBlock≠Bs b:=by
 obtain⟨rfl,_⟩|⟨r,cap,p,rfl,_,y,_⟩:=h.2;cases q;have f:r=b:=by injection q
 subst f;exact Bh z (show Ae w r e p from y) (λe=>d e.symm)
def AF.aV{w:D0}{base n g off:Nat}{ty:VR}{cs:Array S2}{mb:Option Nat}{loc:Sx->Ax}{T:Tb}(h:AF w base n g off ty cs mb loc T){b:Nat}{t:VR}{p:Array S2}(c:Ae w b t p)
  (y:t≠ty) (u:t≠168) (s:t≠166):b≠g/\¬AH mb loc T b:=by
 refine⟨c.ne_ h.al y,?_⟩;rintro (r|⟨x,q,a⟩);have:=h.map;rw[<- r]at this;exact Ab.aV (C:=kS) this c rfl;obtain⟨k,d⟩:=ZJ.1 q;have f:=h.bO x k d;obtain a|a|a:=a;exact c.ne_ f.al u a;exact f.holds.aV c a.symm;exact Bh f.row c (λe=>s e.symm) a
def q8l{a:List (Int×Int)}(c:Ai h y.1 y.2 lf=L1):DP h lf (y::a)=DP h (lf++[y]) a:=by rw[DP,Z7 (by simp[c])]
def q73{a:List (Int×Int)}(c:Ai h y.1 y.2 lf=VD):DP h lf (y::a)=((DP (Az h y.1 y.2) lf a).1,(DP (Az h y.1 y.2) lf a).2.1,y::(DP (Az h y.1 y.2) lf a).2.2):=by rw[DP,Z8 c]
section
variable {base n g off b:Nat}{ty:VR}{cs:Array S2}{loc loc':Sx->Ax}{T:Tb}{tx:Int}{w W0 w7:D0}{ks:List Sx}{Vk v5 V9 v5':S2}{j:Nat}{x:Sx}{k:Kx}{h:Int->Option Int}{lf done:List (Int×Int)}{gs:List Ak}
def rl_step(V:ty≠9/\ty≠179/\ty≠3)(hI:AF W0 base (n+50) g off ty cs (Bs b) loc' (Fx T tx ks j))(a9:∀x k,T x=Bs k->x ∉ ks.take j->Bg W0 base n (loc' x) k)
  (a3:∀c,AH (Bs b) loc' (Fx T tx ks j) c->AH (Bs b) loc T c\/w.heap.size<=c) (a4:Fr (TFr g (Bs b) loc T) w W0) (A:W0.ownsRow (w.heap.size+1) 179 3 v5 gs.length (gs.flatMap Ru))
  (ad:gs=(ks.take j).flatMap (MH T tx)) (ae:gs.length<=50*j) (I:W0.ownsRow w.heap.size 9 1 Vk ks.length (ks.map encStr)) (X:Ae W0 w.heap.size 3 #[Wm eQ tx]) (Z:ks[j]? = Bs x) (O:x ∉ ks.take j) (hT:T x=Bs k)
  (hrel:Co k tx=(⟨h,lf⟩,done)) (hK:Bg w7 base (n+50) ⟨(loc' x).g,(loc' x).hb,V9⟩ ⟨h,lf⟩) (a5:∀c,V9.ownBlock=Bs c->W0.heap.size<=c) (hf:Fr (λc=>AV (loc' x) c\/v5.ownBlock=Bs c) W0 w7)
  (z:w7.ownsRow (w.heap.size+1) 179 3 v5' (gs.length+done.length) ((gs++done.map λd=>(⟨d.1,x,d.2⟩:Ak)).flatMap Ru)) (af:done.length<=50) :
  AF w7 base (n+50) g off ty cs (Bs b) (AB loc' x ⟨(loc' x).g,(loc' x).hb,V9⟩) (Ar (Fx T tx ks j) x (Bs ⟨h,lf⟩))/\
  (¬qcz ⟨h,lf⟩->Pb base n g off ty cs (Bs b) loc T tx w ks Vk v5' (Wm eQ ((j+1:Nat):Int)) w7)/\
  (qcz ⟨h,lf⟩->∀w8,Ab kS w8 b (n+50) (AY (Bk (AB loc' x ⟨(loc' x).g,(loc' x).hb,V9⟩) (Ar (Fx T tx ks j) x (Bs ⟨h,lf⟩))) ⟨x.toArray⟩ B0)->Fr (λk=>k=b) w7 w8->
   Pb base n g off ty cs (Bs b) loc T tx w ks Vk v5' (Wm eQ ((j+1:Nat):Int)) w8):=by
 have a6:=(HJ (T:=T) (tx:=tx) O).trans hT;have N:Fx T tx ks j x≠B0:=by rw[a6];simp
 have hU:∀c,v5.ownBlock=Bs c->c≠g/\¬AH (Bs b) loc' (Fx T tx ks j) c:=λc a=>hI.cL A (λe=>V.2.1 e.symm) Z2 Z2 a
 have G:=hI.turn2 (n':=n+50) a6 (Hi _) hf hU hK rfl rfl (λc a=>eS (a5 c a));have a2:j<ks.length:=(ZC.1 Z).1;have D:gs++done.map (λd=>(⟨d.1,x,d.2⟩:Ak))=(ks.take (j+1)).flatMap (MH T tx):=by
  rw[VV,Z,Wq,<- ad];congr 1;show _=[x].flatMap (MH T tx);rw[List.flatMap_singleton];unfold MH;rw[hT];simp only[hrel]
 have S:∀c,AH (Bs b) (AB loc' x ⟨(loc' x).g,(loc' x).hb,V9⟩) (Ar (Fx T tx ks j) x (Bs ⟨h,lf⟩)) c->AH (Bs b) loc T c\/w.heap.size<=c:=λc a=>by
  obtain f|f:=KY (L:=loc' x) (L':=⟨(loc' x).g,(loc' x).hb,V9⟩) (k:=k) (B:=W0.heap.size) rfl rfl (λc a=>eS (a5 c a)) c a;rw[GO]at f;refine a3 c ?_;obtain f|⟨y,r,f⟩:=f;exact eR f;refine eS ⟨y,?_,f⟩;unfold Ar at r;split at r;rename_i e;rw[e];exact N;exact r;exact eS (VK a4.size f)
 have U:Fr (TFr g (Bs b) loc T) w w7:=a4.trans' hf (λi hi f=>by
  obtain f|f:=f;obtain h2|h2:=a3 i (eS ⟨x,N,f⟩);exact eS h2;omega;have:=(A.lt i f).1;omega)
 have hS:∀{c:Nat},¬AH (Bs b) loc' (Fx T tx ks j) c->v5.ownBlock≠Bs c->¬(AV (loc' x) c\/v5.ownBlock=Bs c):=λf h2 Q=>Q.elim (λQ=>f (eS ⟨x,N,Q⟩)) h2
 have u:w7.ownsRow w.heap.size 9 1 Vk ks.length (ks.map encStr):=hf.own I (λc a=>hS (hI.cL I (λe=>V.1 e.symm) Z2 Z2 a).2 (q6j I A Z2 a));have J:Ae w7 w.heap.size 3 #[Wm eQ tx]:=hf.al X (hS (hI.aV X (λe=>V.2.2 e.symm) Z2 Z2).2 (Bh A X Z2));have R:∀y M,T y=Bs M->y ∉ ks.take (j+1)->y≠x/\y ∉ ks.take j/\Bg w7 base n (loc' y) M:=λy M r p=>by
  rw[VV,Z]at p;simp only[Option.toList_some,XA,VU,not_or]at p;have Y:Fx T tx ks j y≠B0:=by rw[HJ p.1,r];simp
  refine⟨p.2,p.1,(a9 y M r p.1).fr hf (λc a Q=>?_)⟩;obtain Q|Q:=Q;exact hI.apart y x p.2 Y N c a Q;exact(hU c Q).2 (eS ⟨y,Y,a⟩)
 have q:(gs++done.map (λd=>(⟨d.1,x,d.2⟩:Ak))).length=gs.length+done.length:=by simp
 refine⟨G,λab=>?_,λhe w8 ac E=>?_⟩;have W:FH k tx=Bs ⟨h,lf⟩:=by unfold FH;rw[hrel,Z7 ab]
 have s:=JD (T:=T) (tx:=tx) (ks:=ks) (j:=j) Z hT;rw[W]at s;refine⟨j+1,_,_,rfl,a2,rfl,by rw[s];exact G,λy M r p=>?_,by rw[s];exact S,U,by rw[<- D,q];exact z,by rw[<- D,q];omega,u,J⟩;have f:=R y M r p;unfold AB;rw[Z7 f.1];exact f.2.2;have W:FH k tx=B0:=by unfold FH;rw[hrel,Z8 he]
 have s:=JD (T:=T) (tx:=tx) (ks:=ks) (j:=j) Z hT;rw[W]at s;have aa:sx ⟨x.toArray⟩=x:=by show x.toArray.toList=x;simp
 have a7:=Si G ac E;rw[aa,qdl,<- s]at a7;have a0:∀{c:Nat} {t:VR} {base' size m:Nat} {v:S2} {xs:List S2},w7.ownsRow base' t size v m xs->v.ownBlock=Bs c->c≠b:=λhr a e=>by subst e;exact Ab.bn (C:=kS) G.map hr a
 refine⟨j+1,_,_,rfl,a2,rfl,a7,λy M r p=>?_,λc a=>S c ?_,U.trans' E (λi _ (e:i=b)=>eS (eR (by rw[e]))),by rw[<- D,q];exact E.own z (λc a e=>a0 z a e),by rw[<- D,q];omega,E.own u (λc a e=>a0 u a e),E.al J (λe=>Ab.aV (C:=kS) G.map J e.symm)⟩;have f:=R y M r p;unfold AB;rw[Z7 f.1];have a8:Ar (Fx T tx ks j) x (Bs ⟨h,lf⟩) y=Bs M:=by unfold Ar;rw[Z7 f.1,HJ f.2.1,r]
 have a1:AB loc' x ⟨(loc' x).g,(loc' x).hb,V9⟩ y=loc' y:=by unfold AB;rw[Z7 f.1]
 exact f.2.2.fr E (λc a e=>G.cA a8 rfl (a1▸a) e);obtain a|⟨y,r,a⟩:=a;exact eR a;refine eS ⟨y,?_,a⟩;rw[s]at r;unfold Ar at r ⊢;split at r;exact ZB rfl r;rename_i e;rw[Z7 e];exact r
end
end
section
open Go.RowKit Go.Maps Go.Sort Go.Shelf
def QG{w:D0}{base n:Nat}{L:Ax}{mode:Int}(h:Bg w base n L k)(d:Ab kI w' L.hb (n+1) (AY (hM k.h) tx (Bs (Wm eQ (max (AE k.h tx) mode)))))(f:Fr (λb=>b=L.hb) w w')(c:CN tx)(a:CN mode) :
  Bg w' base (n+1) L ⟨Az k.h tx mode,k.ws⟩:=TA h (by
 rw[show(if mode > AE k.h tx then mode else AE k.h tx)=max (AE k.h tx) mode by split<;>omega];exact d) f c a
def emp_iff{w:D0}{base n:Nat}{L:Ax}(p:Bg w base n L ⟨h,lf⟩){f:Nat}(a:f=0↔∀x,kI.ok x->hM h x=B0):qcz ⟨h,lf⟩↔f=0/\lf.length=0:=by
 have e1:qcz ⟨h,lf⟩↔(∀o,h o=B0)/\lf=[]:=Iff.rfl;rw[a,e1];constructor;rintro ⟨d,c⟩;exact⟨λo _=>by unfold hM;rw[d o];rfl,by rw[c];rfl⟩;rintro ⟨d,c⟩;refine⟨λo=>?_,We c⟩;cases e:h o with
 |none=>rfl
 |some m=>
  have:=d o (p.eg o m e).1;unfold hM at this;rw[e]at this;cases this
def Bg.cL{w:D0}{base n:Nat}{L:Ax}(h:Bg w base n L k){base' size m:Nat}{v:S2}(a:w.ownsRow base' e size v m xs)(p:e≠168)(f:e≠166)(c:v.ownBlock=Bs b):¬AV L b:=by rintro (rfl|rfl|d);exact Bh a h.al p c;exact h.holds.bn a c;exact q6j a h.row f c d
def J2(base n g off:Nat)(ty:VR)(cs:Array S2)(mb:Option Nat)(loc:Sx->Ax)(T:Tb)(tx:Int)(w:D0)(hI:AF w base n g off ty cs mb loc T)(bR:CN tx)(hn:n<1000000)(bQ:ty≠9/\ty≠179/\ty≠3) :
  VX Tryz.prog 70 #[ZW (Bs ⟨g,off,B0⟩),Wm eQ tx] w (Pc base n g off ty cs mb loc T tx w):=by
 have bD:VI w.heap.size w (w.alloc (eT #[Wm eQ tx] 3)):=(VC _ _).alloc (Hi _) _;have a3:=hI.aW bD;have cu:Ae (w.alloc (eT #[Wm eQ tx] 3)) w.heap.size 3 #[Wm eQ tx]:=Ae.b4 w _ _;have c0:=(a3.al.cell off).trans a3.c0;have ax:=a3.al.lt;have c3:=Nl mb (w.alloc (eT #[Wm eQ tx] 3));have bw:=Mv (w.alloc (eT #[Wm eQ tx] 3)) a3.map a3.bJ Z0;rw[show(w.alloc (eT #[Wm eQ tx] 3)).heap.size=w.heap.size+1 by simp]at bw;have cF:=LH c3;clear c3;have cC:=LH bw;clear bw;have HI:=LH hI;clear hI;have da:=LH a3;clear a3;have cQ:=LH cu;clear cu;have cO:=LH bD;clear bD;have d7:=LH bR;clear bR;go_enter Tryz.func70,Tryz.ntmps70;go_wp2_with fail;refine cF.o.mono ?_;rintro e w2 ⟨rfl,rfl⟩;go_wp2_with fail;refine cC.o.mono ?_;rintro e w3 ⟨Vk,ks,rfl,c2,aU,E,bC⟩;have u:VI w.heap.size w w3:=cO.o.trans (bC.mono Z3);have bT:Pb base n g off ty cs mb loc T tx w ks Vk (WK B0 0 0) (Wm eQ (0:Nat)) w3:=by
  have ct:=HI.o.aW u;exact⟨0,loc,[],rfl,VG _,rfl,by rw[tkT_0];exact ct.mono Z0,λx k hx _=>ct.bO x k hx,λb hb=>by rw[tkT_0]at hb;exact eR hb,(show Fr _ w w3 from⟨u.os,u.tape,u.output,u.size,λk hk _=>u.block k hk⟩),VW _ _ _ _,Z3,q9f E Z3,cQ.o.below bC Z3⟩
 have d8:=LH bT;clear bT;have aZ:=LH c2;clear c2;have bJ:=LH aU;clear aU;obtain⟨Ak,ck,rfl,_,_⟩:=AM E;have dg:=LH u.size;clear bC u E c0 ax cF cC da cQ cO;go_wp2_with fail;go_loopw [5,19] (Pb base n g off ty cs mb loc T tx w ks (WK Ak ks.length ck)) (λ_ v _=>ks.length-(intOf v).toNat)
 case atStart=>exact d8.o
 obtain⟨j,loc',gs,rfl,hj,aa,hI,aS,ab,aV,a7,ax,E,aB⟩:=hrel;by_cases dk:(j:Int)<ks.length
 ·have hx:ks[j]? = Bs ks[j]:=K0 Z0;generalize cV:ks[j]=x at hx;clear cV;have bV:=qde aZ.o.1;have I:=Mm bV hx;obtain⟨k,hT⟩:=ZJ.1 ((aZ.o.2 x).1 (N2 hx));have aW:=(HJ (T:=T) (tx:=tx) I).trans hT;obtain⟨b,rfl⟩:∃b,mb=Bs b:=by
   obtain _|b:=mb;have:=hI.map x;rw[aW]at this;cases this;exact⟨b,rfl⟩
  obtain⟨gk,ok,d4,dm,ce⟩:=(Rd.a7 E).2 Z0;subst d4;have cn:=ce j (encStr x) (by rw[VQ,hx];rfl);have cg:=(hI.al.cell off).trans hI.c0;have c6:=hI.al.lt;have dj:=HI.o.bJ x (by rw[hT];simp);have bS:sx ⟨x.toArray⟩=x:=by show x.toArray.toList=x;simp
  have aT:=qd8 (s:=⟨x.toArray⟩) hI.map (by rw[J5,bS];unfold VY;omega);rw[bS,aW]at aT;have hK:=aS x k hT I;have N:=hK.al.cell 0;have a4:=hK.al.cell 1;have d3:=hK.al.lt;have cb:=aB.cell 0;have a0:=aB.lt;obtain⟨A,c,hV,_,_⟩:=AM hK.row;simp only[NW,Ft,O0]at N a4 cb;have cy:=LH aS;clear aS;have cJ:=LH ab;clear ab;have cM:=LH aV;clear aV;have a9:=LH a7;clear a7;have cI:=LH aa;clear aa;have b0:=LH ax;clear ax;have bk:=LH E;clear E;have aP:=LH aB;clear aB;have bL:=LH hI;clear hI;have HX:=LH hx;clear hx;have br:=LH I;clear I bV;have cz:=LH hT;clear hT;have cA:=LH aW;clear aW;have HK:=LH hK;clear hK;have HV:=LH hV;clear hV;clear ce;go_upto_region 6 with (fail)
  clear cn cg aT;refine X2 5 Z1 Z1 ?_;change wpStill _ _ (YC _) _ _ _;simp only[WZ,X3,Xj,YG]
  repeat still_step
  refine Zm ?_;refine Jm (C:=kI) rfl 61 3 Tryz.underlying61 (.tmp 32) (.tmp 33) Z1 (by simp[Xm]) (show Ab kI _ _ n _ from HK.o.holds) tx (by simp[Xm];rfl) d7.o ?_;intro w4 bZ ac;have ac:Fr (λk=>k=(loc' x).hb) wr w4:=(Fr.refl _ wr).drew.trans ac;have a2:=key_del HK.o bZ ac;have u:=(ac.al aP.o (λe=>HK.o.holds.aV aP.o e.symm))
  have aH:=a2.al.cell 1;have bG:=u.cell 0;simp only[NW,Ft,O0]at aH bG;have cf:=u.lt;have cm:=a2.al.lt;have aA:=RU base k.ws.length w.heap.size tx (loc' x).V k.ws w4 a2.row rfl (by have:k.ws.length<=50:=a2.len;omega) bG (λe=>Bh a2.row u Z2 e);rw[HV.o]at aA aH;have bt:=LH aA;clear aA;have O:=LH a2;clear a2;have cN:=LH ac;clear ac bZ;have dc:=LH u;clear u;clear N a4 cb c6 d3 a0;go_wp2_with fail;refine bt.o.mono ?_;rintro e w5 ⟨A5,c5,rfl,an,az,au⟩;rw[<- HV.o]at az au;have b9:∀d,(loc' x).V.ownBlock=Bs d->d≠(loc' x).g:=λd a e=>Bh O.o.row O.o.al Z2 (e▸a)
  have aC:=az.al O.o.al (λe=>b9 _ e rfl);have bY:=O.o.holds.fr az (λe=>O.o.holds.bn O.o.row e);have af:=aC.cell 1;have bF:=aC.frozen 1;have cZ:=aC.lt;have ar:∀y∈AG k.ws tx,CN y.1/\CN y.2:=λy hy=>O.o.okw y (ZG.1 hy).1
  have bz:(AG k.ws tx).length<=50:=VK (offW_le _ _) O.o.len;have cr:=ON O.o aC bY an ar bz;simp only[NW,Ft,O0]at af;rw[HV.o]at af;have cc:Fr (AV (loc' x)) wr (w5.setCell ⟨(loc' x).g,1,B0⟩ (WK A5 (AG k.ws tx).length c5)):=
   ((cN.o.mono (λi _ (e:i=_)=>.inr (.inl e))).trans' az (λi _ e=>.inr (.inr e))).setCell (p:=⟨(loc' x).g,1,B0⟩) (.inl (.inl rfl)) _
  have cj:∀d,(WK A5 (AG k.ws tx).length c5).ownBlock=Bs d->(loc' x).V.ownBlock=Bs d:=λd a=>by rw[<- au];exact a
  have aj:=LH cr;clear cr;have aN:=LH cc;clear cc az bY aC an b9 au;have aK:=LH ar;clear ar;have ai:=LH bz;clear bz;have d6:=LH cj;clear cj;go_upto_region 8 with (fail)
  clear af bF cZ bG aH cf cm;generalize w5.setCell ⟨(loc' x).g,1,B0⟩ (WK A5 (AG k.ws tx).length c5)=w6 at *;clear O cN dc bt;have bO:w.heap.size+1<=w6.heap.size:=Z5 aN.o.size aP.o.lt;have cx:=LH bO;clear bO;have a4:=aj.o.al.cell 1;simp only[NW,Ft,O0]at a4;have cY:=aj.o.al.lt;have bB:∀d,AV (loc' x) d->AH (Bs b) loc' (Fx T tx ks j) d:=λd a=>eS ⟨x,by rw[cA.o];simp,a⟩
  have ap:=aN.o.own a9.o (λd a e=>(bL.o.cL a9.o (λe=>bQ.2.1 e.symm) Z2 Z2 a).2 (bB d e));have be:Pi base n ⟨(loc' x).g,(loc' x).hb,WK A5 (AG k.ws tx).length c5⟩ (Bj k.h tx B0) (AG k.ws tx) (w.heap.size+1) gs x u5.ownBlock w6 u5 (WK B0 0 0) (Wm eQ (0:Nat)) w6:=
   ⟨0,_,[],[],rfl,VG _,aj.o,VW _ _ _ _,Z6 ap,Z3,Fr.refl _ _,(λy hy=>by cases hy),Hi _,Hi _,λd a=>eR a⟩
  have bp:=LH be;clear be ap;have db:=LH bB;clear bB;go_wp2_with fail;clear a4 cY;generalize u5=U0 at *;go_loopw [5,9,48] (Pi base n ⟨(loc' x).g,(loc' x).hb,WK A5 (AG k.ws tx).length c5⟩ (Bj k.h tx B0) (AG k.ws tx) (w.heap.size+1) gs x U0.ownBlock w6) (λ_ _ v _=>(AG k.ws tx).length-(intOf v).toNat)
  case atStart=>exact bp.o
  clear bp;obtain⟨i,h,lf,done,rfl,hi,D,f,B,Q,X,a6,c1,cd,bx⟩:=hrel;have ak:=X.size;have co:=ai.o;by_cases dd:(i:Int)<(AG k.ws tx).length
  ·obtain⟨g',o',y,d5,dp,hy,cU,cS⟩:=(Rd.a7 D.row).cP (l:=AG k.ws tx) rfl (j:=i) Z0;subst d5;have U:(AG k.ws tx).drop i=y::(AG k.ws tx).drop (i+1):=by
    obtain⟨h1,h2⟩:=ZC.1 hy;rw[XG h1,h2]
   rw[U]at Q;have bv:=aK.o y (N2 hy);have a0:VI wr.heap.size wr (wr.alloc (eT #[Wm eQ y.1,Wm eQ y.2] 166)):=(VC _ _).alloc (Hi _) _;have aF:=D.aW a0;have R:=Jc f a0;have aq:=Jc B a0;have bP:Ae (wr.alloc (eT #[Wm eQ y.1,Wm eQ y.2] 166)) wr.heap.size 166 #[Wm eQ y.1,Wm eQ y.2]:=Ae.b4 _ _ _;obtain⟨Al,cl,bE,_,_⟩:=AM f;subst bE;have ay:=qe1 (loc' x).g (loc' x).hb (n+i) lf.length cl _ h y.1 y.2 Al lf _ aF.al aF.holds aF.eg bv.1 (Rd.a7 R) rfl Z0;have aL:=LH ay;clear ay;have cH:=LH aF;clear aF;have bo:=LH R;clear R;have bm:=LH aq;clear aq;have ah:=LH bP;clear bP;have cP:=LH a0;clear a0;have dq:=LH D;clear D;have bl:=LH Q;clear Q;have bq:=LH X;clear X;have bj:=LH a6;clear a6;have bI:=LH bx;clear bx;have HY:=LH hy;clear hy U;have aX:=LH bv;clear bv;have di:=LH f;clear f;have dh:=LH B;clear B;have ag:=LH ak;clear ak;have aY:=LH c1;clear c1;have b1:=LH cd;clear cd;clear co;go_upto_region 12 with (fail)
   clear cU cS;generalize ch:wr.alloc (eT #[Wm eQ y.1,Wm eQ y.2] 166)=w1 at *;have b5:w1.heap.size=wr.heap.size+1:=by rw[<- ch];simp
   clear ch;have aI:=LH b5;clear b5;have ae:=ah.o.cell 0;have ad:=ah.o.cell 1;simp only[NW,Ft,O0]at ae ad;have bN:=ah.o.lt;go_wp2_with fail;clear ae ad bN;refine aL.o.mono ?_;rintro e wA ⟨rfl,a1⟩;have cq:=cH.o.aW a1;have bc:=Jc bo.o a1;have b7:=Jc bm.o a1;have al:=ah.o.below a1 ah.o.lt;have ae:=al.cell 0;have ad:=al.cell 1;have b2:=al.lt;simp only[NW,Ft,O0]at ae ad;have b4:wr.heap.size+1<=wA.heap.size:=Z5 a1.size aI.o;have bh:VI wr.heap.size wr wA:=cP.o.trans (a1.mono (Z4 aI.o));have W:=LH cq;clear cq;have G:=LH bc;clear bc;have Z:=LH b7;clear b7;have bH:=LH al;clear al;have a8:=LH b4;clear b4;have aQ:=LH bh;clear bh a1;clear aL cH bo bm ah cP aI;rcases c8:Ai h y.1 y.2 lf with _|_
   ·
    go_wp2_with (at_builtin;refine stop ?_)
    refine CD ?_;refine Oq _ _ rfl (.tmp 60) (.tmp 62) 164 rfl w6.heap.size 166 (.agg #[Wm eQ 0,Wm eQ 0]) 2 16 BD Mc rfl Z2 _ _ _ #[Wm eQ y.1,Wm eQ y.2] rfl G.o 1 rfl _ rfl rfl (by simp[Wx]) ?_ ?_ ?_ ?_;have:=aY.o;have:=ai.o;unfold VY;omega;have:=aY.o;have:=ai.o;omega;have:=a8.o;have:=ag.o;omega;intro v' w9 L M;have d2:VI w6.heap.size wA w9:=M.below (λd a=>(G.o.lt d a).1) (Z5 a8.o ag.o);have aD:Bg w9 base (n+(i+1)) ⟨(loc' x).g,(loc' x).hb,WK (Bs ⟨g',o',B0⟩) (AG k.ws tx).length c5⟩ ⟨h,AG k.ws tx⟩:=(W.o.fr M.1 (λd a e=>by
     have h1:=(G.o.lt d e.symm).1;have h2:=(aj.o.a9 (b:=d) a).2;omega)).mono Z0
    have ao:=M.1.own Z.o (λd a e=>q6j Z.o G.o Z2 a e.symm);have r:=bl.o;rw[q8l c8]at r;have J:Pi base n ⟨(loc' x).g,(loc' x).hb,WK (Bs ⟨g',o',B0⟩) (AG k.ws tx).length c5⟩ (Bj k.h tx B0) (AG k.ws tx) (w.heap.size+1) gs x U0.ownBlock w6 u5 v' (Wm eQ ((i+1:Nat):Int)) w9:=by
     have bu:=(ZC.1 HY.o).1;refine⟨i+1,h,lf++[y],done,rfl,bu,aD,by simpa [CM]using L,ao,r,(bq.o.trans' (q2l aQ.o) (λq hq (e:_<=q)=>Z4 ag.o)).trans' M.1 (λq hq e=>Z4 ((G.o.lt q e.symm).1)),λz hz=>?_,by have:=aY.o;simp;omega,Z4 b1.o,bI.o⟩;obtain hz|hz:=XA.1 hz;exact bj.o z hz;rw[List.mem_singleton.1 hz];exact N2 HY.o
    have a5:=LH J;clear J aD ao r L M d2 ae ad b2;have cX:i<50:=Z4 ai.o;go_wp2_with fail;go_roundw;exact a5.o;simp[intOf];omega
   have cX:i<50:=Z4 ai.o;go_upto_region 14 with (fail)
   refine X2 16 Z1 Z1 ?_;change wpStill _ _ (YC _) _ _ _;simp only[WZ,X3,Xj,YG];have N:=W.o.al.cell 0;have aU:=W.o.al.lt;simp only[NW,Ft]at N;have aT:=qe0 (w:=wA.drew) W.o.holds aX.o.1
   repeat still_step
   refine Zm ?_;refine U1 (C:=kI) rfl 61 3 Tryz.underlying61 (.tmp 67) (.tmp 69) (.tmp 79) Z1 (by simp[Xm]) (show Ab kI _ _ (n+i) _ from W.o.holds) (by have:=ai.o;unfold VY;omega) y.1 (Wm eQ (max (AE h y.1) y.2)) (by simp[Xm];rfl) (by simp[Xm]) aX.o.1 ?_;intro wB bW S;have S:Fr (λd=>d=(loc' x).hb) wA wB:=(Fr.refl _ wA).drew.trans S;have cp:Bg wB base (n+i+1) ⟨(loc' x).g,(loc' x).hb,WK (Bs ⟨g',o',B0⟩) (AG k.ws tx).length c5⟩ ⟨Az h y.1 y.2,AG k.ws tx⟩:=QG W.o bW S aX.o.1 aX.o.2;have bb:=S.own G.o (λd a e=>by have h1:=(G.o.lt d a).1;have h2:=(aj.o.a9 (b:=d) (eS (eR e))).2;omega);have b6:=S.own Z.o (λd a e=>by subst e;exact W.o.holds.bn Z.o a);have aR:=S.al bH.o (λe=>W.o.holds.aV bH.o e.symm);have cw:=aR.cell 0;have cv:=aR.cell 1;have bM:=aR.lt;simp only[NW,Ft,O0]at cw cv;have b3:wr.heap.size+1<=wB.heap.size:=Z5 S.size a8.o;have bf:Fr (λd=>d=(loc' x).hb\/U0.ownBlock=Bs d) w6 wB:=(bq.o.trans' (q2l aQ.o) (λq hq (e:_<=q)=>Z4 ag.o)).trans' S (λq _ e=>eR e);have cG:=LH cp;clear cp;have bn:=LH bb;clear bb;have aJ:=LH b6;clear b6 aR;have bi:=LH b3;clear b3;have cK:=LH bf;clear bf bW S;clear aT N aU ae ad b2 W G Z bH a8 aQ;go_upto_region 15 with (fail)
   go_wp2_with (at_builtin;refine stop ?_)
   refine CD ?_;refine Oq _ _ rfl (.tmp 80) (.tmp 87) 138 rfl (w.heap.size+1) 179 (.agg #[Wm eQ 0,ZV ⟨#[]⟩,Wm eQ 0]) 3 32 Tryz.underlying138 g_info rfl Z2 _ _ _ #[Wm eQ y.1,ZV ⟨x.toArray⟩,Wm eQ y.2] rfl aJ.o 1 rfl _ rfl rfl (by simp[Wx]) ?_ ?_ ?_ ?_;have:=b0.o;have:=b1.o;have:=bJ.o;unfold VY;omega;have:=b0.o;have:=b1.o;have:=bJ.o;omega;have:=bi.o;have:=ag.o;have:=cx.o;omega;intro v' w9 L M;have aD:Bg w9 base (n+(i+1)) ⟨(loc' x).g,(loc' x).hb,WK (Bs ⟨g',o',B0⟩) (AG k.ws tx).length c5⟩ ⟨Az h y.1 y.2,AG k.ws tx⟩:=cG.o.fr M.1 (λd a e=>cG.o.cL aJ.o Z2 Z2 e.symm a);have bd:=M.1.own bn.o (λd a e=>q6j bn.o aJ.o Z2 a e.symm);have r:=bl.o;rw[q73 c8]at r;have J:Pi base n ⟨(loc' x).g,(loc' x).hb,WK (Bs ⟨g',o',B0⟩) (AG k.ws tx).length c5⟩ (Bj k.h tx B0) (AG k.ws tx) (w.heap.size+1) gs x U0.ownBlock w6 v' (WK Al lf.length cl) (Wm eQ ((i+1:Nat):Int)) w9:=by
    have bu:=(ZC.1 HY.o).1;refine⟨i+1,Az h y.1 y.2,lf,done++[y],rfl,bu,aD,bd,?_,by rw[XM];exact r,cK.o.trans' M.1 (λq hq e=>?_),bj.o,Z4 aY.o,by have:=b1.o;simp;omega,λd a=>?_⟩;have:=L;simp only[WQ,WJ,List.map_nil,VJ,Wi,List.length_nil,Wq,VH,List.flatMap_nil,Ru,XM,WB]at this ⊢;exact this;obtain h1|h1:=bI.o q e.symm;exact eS h1;omega;obtain e|⟨g9,e,dn⟩:=M.2;exact bI.o d (e.symm.trans a);rw[a]at e;injection e with e;exact eS (Z5 bi.o ag.o)
   have a5:=LH J;clear J aD bd r L M cw cv bM;go_wp2_with fail
   all_goals
    go_roundw;exact a5.o;simp[intOf];omega
  obtain rfl:i=(AG k.ws tx).length:=by omega
  rw[List.drop_length,q39]at Q;have hrel:Co k tx=(⟨h,lf⟩,done):=by unfold Co;rw[Q];simp
  obtain⟨Al,cl,bE,_,_⟩:=AM f;subst bE;have af:=D.al.cell 1;have bF:=D.al.frozen 1;have c7:=D.al.lt;have N:=D.al.cell 0;simp only[NW,Ft,O0]at af N;have ba:wr.ownsRow base 166 2 (WK Al lf.length cl) lf.length (lf.flatMap CM):=q9f f (Z5 HI.o.bg cx.o);have aE:=(ON D D.al D.holds ba (λz hz=>aK.o z (a6 z hz)) Z0).mono (n':=n+50) Z0;have bU:∀d,(WK Al lf.length cl).ownBlock=Bs d->wr.heap.size<=d\/w6.heap.size<=d:=λd a=>eS (f.lt d a).1
  have b8:=(Fr.aL (loc' x).g wr 1 (WK Al lf.length cl)).own B (λd a e=>by subst e;exact Bh B D.al Z2 a);have ci:=λd (a:(WK Al lf.length cl).ownBlock=Bs d)=>VK aN.o.size (f.lt d a).1
  have ca:=((aN.o.mono (T:=λd=>AV (loc' x) d\/U0.ownBlock=Bs d) (λi _ h=>.inl h)).trans' X (λi _ e=>e.elim (λe=>.inl (.inr (.inl e))) .inr)).setCell (p:=⟨(loc' x).g,1,B0⟩) (.inl (.inl (.inl rfl))) (WK Al lf.length cl);have am:=rl_step bQ bL.o cy.o cJ.o cM.o a9.o cI.o b0.o bk.o aP.o HX.o br.o cz.o hrel aE ci ca b8 Z0;have V:=LH am;clear am;obtain⟨kk,av,_,c4⟩:=aE.holds.len Tryz.underlying61;have bg:=emp_iff aE c4;have aO:=LH bg;clear bg c4;have cD:=LH av;clear av;have dl:j<1000000:=Z4 bJ.o;have bK:=LH aE;clear aE;clear ba b8 ca ci bU hrel Q f B X a6 bx ak co;clear cy cJ cM a9 cI b0 bk aP HX br cz bL aj aN aK d6 db cA HK HV;go_upto_region 18 with (fail)
  clear af bF N c7 D;generalize wr.setCell ⟨(loc' x).g,1,B0⟩ (WK Al lf.length cl)=w7 at *;have N:=bK.o.al.cell 0;have a4:=bK.o.al.cell 1;have df:=bK.o.al.lt;simp only[NW,Ft,O0]at N a4;have av:=cD.o 3;by_cases bA:kk=0
  ·subst bA;by_cases aw:lf.length=0
   ·have d1:((lf.length:Int) == 0)=VD:=by simp[aw]
    have he:=aO.o.2 ⟨rfl,aw⟩;have hS:=V.o.2.2 he;have aG:=V.o.1;have cg:=(aG.al.cell off).trans aG.c0;have de:=aG.al.lt;have d9:=LH aG.map;clear aG;have HS:=LH hS;clear hS;clear aw;go_upto_region 19 with (fail)
    clear d1;obtain⟨w8,U,bX,c9⟩:=Ab.drop (C:=kS) (show Ab kS w7 b (n+50) _ from d9.o) Tryz.underlying98 (x:=⟨x.toArray⟩) (by show(ByteArray.mk x.toArray).size<=VY;rw[J5];show x.toArray.toList.length<=_;unfold VY;simp;omega) 0;rw[show kS.val ⟨x.toArray⟩=encStr x from rfl]at U;have Y:=HS.o w8 bX c9;have aM:=LH Y;clear Y bX c9;go_wp2_with fail;go_roundw;exact aM.o;simp[intOf];omega
   have d1:((lf.length:Int) == 0)=L1:=by rw[beq_eq_false_iff_ne];omega
   have hS:=V.o.2.1 (λhe=>aw (aO.o.1 he).2);have HS:=LH hS;clear hS aw;go_wp2_with fail;go_roundw;exact HS.o;simp[intOf];omega
  have d0:((kk:Int) == 0)=L1:=by rw[beq_eq_false_iff_ne];omega
  have hS:=V.o.2.1 (λhe=>bA (aO.o.1 he).1);have HS:=LH hS;clear hS bA;go_wp2_with fail;go_roundw;exact HS.o;simp[intOf];omega
 have cW:j=ks.length:=by omega
 have Y:Pc base n g off ty cs mb loc T tx w (ZY u5) wr:=by
  rw[cW]at hI ab aa;rw[tkT_all aZ.o]at hI ab;rw[WU]at aa;exact⟨u5,ks,loc',rfl,aZ.o,by rw[<- aa];exact a7,hI,ab,aV⟩
 have aM:=LH Y;clear Y hI aS ab aV a7 aa ax E aB;go_wp2_with fail;go_ret;exact aM.o
end
def Af{α:Type}(f:Nat->α)(i:Nat)(v:α):Nat->α:=λj=>if j=i then v else f j
def Aq(f:Nat->α)(i:Nat)(v:α):Af f i v i=v:=by unfold Af;rw[Z8 rfl]
def Ay{f:Nat->α}(h:j≠i)(v:α):Af f i v j=f j:=by unfold Af;rw[Z7 h]
def Vm(f:Nat->α)(i:Nat)(u v:α):Af (Af f i u) i v=Af f i v:=by funext j;unfold Af;split<;>rfl
def qd3(f:Nat->α)(i:Nat):Af f i (f i)=f:=by funext j;unfold Af;split;rename_i h;rw[h];rfl
structure Bv where
 nd:Nat->Nd
 aq:Int->Bool
 ad:Int
 size:Int
 tab:Tb
 sto:Kp
 done:Nat
structure Bu where
 aa:Int
 ae:List Pr
 af:Int->Option Int
 aw:Int->Option Int
 ah:Int
 ak:List (Sx×Int)
structure Hs where
 n:Nat
 c:Nat
 net:Be
 sh:Nat->Bv
 m:Nat
 tx:Nat->Bu
 ah:Int
def AS(f:Int->Option Int)(k v:Int):Int->Option Int:=λj=>if j=k then Bs v else f j
def Bv.ai(n:Nat)(x:Bv):List Nat:=(Ww n).filter λj=>!x.aq (x.nd j).id
def Bv.d5(n:Nat)(x:Bv):Option Nat:=(x.ai n).find? λj=>(x.nd j).head
def Hs.ax(H:Hs)(s:Nat)(x:Bv):Hs:={H with sh:=Af H.sh s x}
def Hs.ay(H:Hs)(i:Nat)(t:Bu):Hs:={H with tx:=Af H.tx i t}
def Hs.au(H:Hs)(s j:Nat)(d:Nd):Hs:=H.ax s {H.sh s with nd:=Af (H.sh s).nd j d}
def Hs.aO(H:Hs)(ms:List Ms):Hs:={H with net:=EW H.net ms}
def Hs.head(H:Hs)(s:Nat):Option Nat:=(H.sh s).d5 H.n
def KV(T:Tb)(tx:Int)(o:Int)(x:Sx):Prop:=∃k a,T x=Bs k/\(o,a)∈(Co k tx).2
open Classical in
def Hs.b6(H:Hs)(T:Tb)(tx:Int):Hs:=
 {H with tx:=λi=>{H.tx i with ak:=(H.tx i).ak.filter λw=>!decide (KV T tx i w.1)}}
def Hs.bF(H:Hs)(s:Nat)(tx:Int):Hs:=
 (H.ax s {H.sh s with tab:=Bp (H.sh s).tab tx}).b6 (H.sh s).tab tx
def Ap(T:Tb)(tx:Int)(x:Sx)(mode:Int):Tb:=
 if CF (Ad T x).ws tx then T
 else if Ai (Ad T x).h tx mode (Ad T x).ws then Ar T x (Bs ⟨Az (Ad T x).h tx mode,(Ad T x).ws⟩)
 else if (Ad T x).ws.length=50 then T
 else Ar T x (Bs ⟨(Ad T x).h,Cd (Ad T x).ws (tx,mode)⟩)
def CU(T:Tb)(tx:Int)(ps:List Pr):Tb:=ps.foldl (λT p=>Ap T tx (sx p.key) 2) T
def Dd(K:Kp)(t:Int)(ps:List Pr):Kp:=ps.foldl (λK p=>(CT K 0 ⟨sx p.key,sx p.val,p.aR,t⟩).2) K
def Br(K:Kp)(l:List Cm)(c:Cm):Kp:=l.foldl (λK w=>if w.aj=2/\w.tx=c.tx then Dd K c.ah w.ae else K) K
def Hs.bb(H:Hs)(s:Nat)(l:List Cm)(i:Nat)(c:Cm):Hs:=
 if c.aj=2 then H.ax s {H.sh s with tab:=CU (H.sh s).tab c.tx c.ae}
 else if c.aj=3 then(H.ax s {H.sh s with sto:=Br (H.sh s).sto (l.take i) c}).bF s c.tx
 else if c.aj=4 then H.bF s c.tx
 else H
def Hs.bu(s:Nat)(l:List Cm):Nat->Hs->Hs
 |0,H=>H
 |k+1,H=>match l[(H.sh s).done]? with
  |none=>H
  |some c=>Hs.bu s l k ((H.bb s l (H.sh s).done c).ax s { (H.bb s l (H.sh s).done c).sh s with done:=(H.sh s).done+1})
def Hs.take(H:Hs)(s:Nat):Hs:=match H.head s with
 |none=>H
 |some j=>Hs.bu s ((H.sh s).nd j).a4 (((H.sh s).nd j).a4.length-(H.sh s).done) H
def Hs.add(H:Hs)(s j:Nat)(c:Cm)(b:Bool):Int×Hs:=
 if (((H.sh s).nd j).add c b).2.2≠0 then(-1,H)
 else((((H.sh s).nd j).add c b).2.1,(((H.au s j (((H.sh s).nd j).add c b).1.1).aO (((H.sh s).nd j).add c b).1.2)).take s)
def Bu.ag(t:Bu):List Nat:=[0,1].filter λk:Nat=>(t.af k).isSome
def KL(kind id:Int)(c:Cm):Bool:=c.aj == kind && c.tx == id
def place(l:List Cm)(kind id:Int):Option Nat:=l.findIdx? (KL kind id)
def Aa(k:Sx):Nat:=(k.map λb=>b.toNat).sum % 2
def Hs.aC(i:Nat)(kind:Int)(H:Hs)(k:Nat):Hs:=match H.head k with
 |none=>H
 |some j=>if place ((H.sh k).nd j).a4 kind i=B0/\place ((H.sh k).nd j).a4 2 i≠B0
  then(H.add k j ⟨kind,i,if kind=3 then(H.tx i).ah else 0,[]⟩ L1).2 else H
def Hs.b3(H:Hs)(i:Nat)(kind:Int):Hs:=(H.tx i).ag.foldl (Hs.aC i kind) H
def Hs.a3(H:Hs)(i:Nat):Hs:=
 ((H.tx i).ag.foldl (λ(H:Hs) k=>H.bF k i) (H.ay i {H.tx i with aa:=4,ak:=[]})).b3 i 4
def Bu.of(t:Bu)(k:Nat):List Pr:=t.ae.filter λp=>Aa (sx p.key) == k
def Hs.ao(H:Hs)(s j:Nat):Int:=((H.sh s).nd j).ao
def Hs.aS(H:Hs)(i k:Nat)(at_:Int):Hs:=H.ay i {H.tx i with aw:=AS (H.tx i).aw k at_}
def Hs.aU(H:Hs)(i k:Nat)(b:Bool):Hs×Option Bool:=match H.head k with
 |none=>(H,Bs L1)
 |some j=>match place ((H.sh k).nd j).a4 2 i with
  |some p=>(H.aS i k p,Bs (decide (H.ao k j > p)))
  |none=>
   if (H.tx i).ah > 0\/((H.tx i).af k).getD 0≠(H.sh k).ad\/((H.tx i).aw k).getD 0>=0 then
    if (H.tx i).ah=0 then(H.a3 i,B0)else(H,Bs L1)
   else if (H.add k j ⟨2,i,0,(H.tx i).of k⟩ b).1<0 then((H.add k j ⟨2,i,0,(H.tx i).of k⟩ b).2.a3 i,B0)
   else((H.add k j ⟨2,i,0,(H.tx i).of k⟩ b).2.aS i k (H.add k j ⟨2,i,0,(H.tx i).of k⟩ b).1,
    Bs (decide ((H.add k j ⟨2,i,0,(H.tx i).of k⟩ b).2.ao k j > (H.add k j ⟨2,i,0,(H.tx i).of k⟩ b).1)))
def Hs.aG(i:Nat)(b:Nat->Bool):List Nat->Hs->Bool->Hs×Option Bool
 |[],H,c=>(H,Bs c)
 |k::ks,H,c=>match (H.aU i k (b k)).2 with
  |none=>((H.aU i k (b k)).1,B0)
  |some a=>Hs.aG i b ks (H.aU i k (b k)).1 (c && a)
def Hs.commit(H:Hs)(i:Nat):Hs:=(H.ay i {H.tx i with aa:=3}).b3 i 3
def Hs.av(H:Hs)(i:Nat):Hs:=if (H.tx i).ah=0 then {H.ay i {H.tx i with ah:=wrap64 (H.ah+1)}with ah:=wrap64 (H.ah+1)}else H
def Hs.bj(H:Hs)(i:Nat)(b:Bool):Hs×Bool:=match H.head 2 with
 |none=>(H,L1)
 |some j=>match place ((H.sh 2).nd j).a4 3 i with
  |some p=>if H.ao 2 j<=p then(H,L1)else(H.commit i,VD)
  |none=>
   if ((H.av i).add 2 j ⟨3,i,((H.av i).tx i).ah,[]⟩ b).1<0 then(((H.av i).add 2 j ⟨3,i,((H.av i).tx i).ah,[]⟩ b).2,L1)
   else if ((H.av i).add 2 j ⟨3,i,((H.av i).tx i).ah,[]⟩ b).2.ao 2 j<=((H.av i).add 2 j ⟨3,i,((H.av i).tx i).ah,[]⟩ b).1 then(((H.av i).add 2 j ⟨3,i,((H.av i).tx i).ah,[]⟩ b).2,L1)
   else(((H.av i).add 2 j ⟨3,i,((H.av i).tx i).ah,[]⟩ b).2.commit i,VD)
def Hs.ends(H:Hs)(i:Nat)(b:Nat->Bool):Hs×Bool:=match (Hs.aG i b (H.tx i).ag H VD).2 with
 |none=>((Hs.aG i b (H.tx i).ag H VD).1,VD)
 |some L1=>((Hs.aG i b (H.tx i).ag H VD).1,L1)
 |some VD=>(Hs.aG i b (H.tx i).ag H VD).1.bj i (b 2)
def Hs.az(H:Hs)(i:Nat)(b:Nat->Bool):Hs×Bool:=
 if (H.tx i).aa=2 then H.ends i b else if (H.tx i).aa=3 then(H.b3 i 3,L1)else if (H.tx i).aa=4 then(H.b3 i 4,L1)else(H,L1)
def Hs.round(bs:Nat->Nat->Bool):Nat->Nat->Hs×Bool->Hs×Bool
 |0,_,r=>r
 |k+1,i,r=>Hs.round bs k (i+1) ((r.1.az i (bs i)).1,(r.1.az i (bs i)).2 || r.2)
inductive Ek:Hs->Hs->Prop where
 |stop {H:Hs} (bs:Nat->Nat->Bool) (h:(Hs.round bs H.m 1 (H,L1)).2=L1):Ek H (Hs.round bs H.m 1 (H,L1)).1
 |more {H H':Hs} (bs:Nat->Nat->Bool) (h:(Hs.round bs H.m 1 (H,L1)).2=VD) (r:Ek (Hs.round bs H.m 1 (H,L1)).1 H'):Ek H H'
open Classical in
def EG(h:Int->Option Int)(tx mode:Int):List Int:=((Ww 61).map Int.ofNat).filter λo=>decide (tx<o/\∃m,h o=Bs m/\AN m mode=VD)
def Hs.bc(H:Hs)(o:Int):Hs:=if 1<=o/\o<=H.m/\(H.tx o.toNat).aa=1 then H.a3 o.toNat else H
def Cp(l:List (Sx×Int))(x:Sx):Bool:=l.any λw=>w.1 == x
def Hs.bA(H:Hs)(i:Nat)(x:Sx)(mode:Int):Int×Hs:=
 let T:=(H.sh (Aa x)).tab
 let a:=H.ax (Aa x) {H.sh (Aa x)with tab:=Ap T i x mode}
 if CF (Ad T x).ws i then(9,a)
 else if Ai (Ad T x).h i mode (Ad T x).ws then(0,a)
 else if (Ad T x).ws.length=50 then(4,a)
 else
  let H2:=(EG (Ad T x).h i mode).foldl Hs.bc (a.ay i {a.tx i with ak:=(a.tx i).ak++[(x,mode)]})
  (if Cp (H2.tx i).ak x then 11 else 0,H2)
def Hs.aJ(H:Hs)(id:Int)(x:Sx)(mode:Int):Int×Hs:=
 if id<1\/H.m<id then(7,H)
 else if (H.tx id.toNat).aa≠1 then(6,H)
 else if 20<x.length then(4,H)
 else if H.head (Aa x)=B0 then(12,H)
 else if ∃e,(H.tx id.toNat).af (Aa x)=Bs e/\e≠(H.sh (Aa x)).ad then(6,H.a3 id.toNat)
 else
  let a:=H.ay id.toNat {H.tx id.toNat with af:=AS (H.tx id.toNat).af (Aa x) (H.sh (Aa x)).ad}
  if Cp (a.tx id.toNat).ak x then(11,a)else a.bA id.toNat x mode
def Hs.get(H:Hs)(id:Int)(x:Sx):(Int×Sx×Bool)×Hs:=
 let r:=H.aJ id x 1
 if r.1≠0 then((r.1,[],L1),r.2)
 else match (r.2.tx id.toNat).ae.reverse.find? (λp=>sx p.key == x)with
  |some p=>((0,sx p.val,!p.aR),r.2)
  |none=>((0,B8 (CB ((r.2.sh (Aa x)).sto x) 1099511627776)),r.2)
def BX(l:List Pr)(p:Pr):Option (List Pr):=match l.findIdx? (λo=>o.key == p.key)with
 |some k=>Bs (l.set k p)
 |none=>if l.length=20 then B0 else Bs (l++[p])
def Hs.put(H:Hs)(id:Int)(p:Pr):Int×Hs:=
 if 40<p.val.size then(4,H)
 else
  let r:=H.aJ id (sx p.key) 2
  if r.1≠0 then(r.1,r.2)
  else match BX (r.2.tx id.toNat).ae ⟨p.key,if p.aR then⟨#[]⟩else p.val,p.aR⟩with
   |some l=>(0,r.2.ay id.toNat {r.2.tx id.toNat with ae:=l})
   |none=>(4,r.2)
def Hs.aB(H:Hs)(i:Nat):Hs:=H.ay i {H.tx i with aa:=2,aw:=λk=>if ((H.tx i).af k).isSome then Bs (-1)else(H.tx i).aw k}
inductive FQ(H:Hs)(id:Int):Int->Hs->Prop where
 |missing (h:id<1\/H.m<id):FQ H id 7 H
 |aa (h:1<=id/\id<=H.m) (h1:(H.tx id.toNat).aa≠1):FQ H id 6 H
 |waits (h:1<=id/\id<=H.m) (h1:(H.tx id.toNat).aa=1) (h2:(H.tx id.toNat).ak≠[]):FQ H id 11 H
 |ends (h:1<=id/\id<=H.m) (h1:(H.tx id.toNat).aa=1) (h2:(H.tx id.toNat).ak=[]) {H':Hs} (r:Ek (H.aB id.toNat) H'):FQ H id 0 H'
def Hs.drop(H:Hs)(id:Int):Int×Hs:=
 if id<1\/H.m<id then(7,H)else if (H.tx id.toNat).aa≠1 then(6,H)else(0,H.a3 id.toNat)
def Ei:Bu:=⟨1,[],λ_=>B0,λ_=>B0,0,[]⟩
def Hs.a5(H:Hs):Hs:={H with m:=H.m+1,tx:=Af H.tx (H.m+1) Ei}
def Hs.aa(H:Hs)(id:Int):Int:=if id<1\/H.m<id then 0 else(H.tx id.toNat).aa
def Hs.node(H:Hs)(id:Int):Option (Nat×Nat):=
 ([0,1,2].flatMap λs=>((H.sh s).ai H.n).map λj=>(s,j)).find? λq=>((H.sh q.1).nd q.2).id == id
def Hs.aE(H:Hs)(m:Ms):Hs:=match H.node m.a8 with
 |none=>H
 |some (s,j)=>((H.au s j (((H.sh s).nd j).step m).1).aO (((H.sh s).nd j).step m).2).take s
inductive Rv(H:Hs)(k:Nat):Hs->Prop where
 |none (h:H.net.l.length<=k):Rv H k H
 |some {m:Ms} (h:H.net.l[k]? = Bs m) {H':Hs} (r:Ek (({H with net:=takeS H.net k} : Hs).aE m) H'):Rv H k H'
def Hs.lose(H:Hs)(k:Nat):Hs:={H with net:=takeS H.net k}
def Hs.twice(H:Hs)(k:Nat):Hs:=match H.net.l[k]? with
 |none=>H
 |some m=>{H with net:=AR H.net m}
def Hs.bf(s:Nat)(H:Hs)(j:Nat):Hs:=(H.au s j ((H.sh s).nd j).aD.1).aO ((H.sh s).nd j).aD.2
def Hs.bV(H:Hs)(s:Nat):Hs:=((H.sh s).ai H.n).foldl (Hs.bf s) H
def Hs.b5(H:Hs):Hs:=[0,1,2].foldl Hs.bV H
def EA(H H':Hs):Prop:=Ek H.b5 H'
inductive Rr:Nat->Hs->Hs->Prop where
 |zero (H:Hs):Rr 0 H H
 |none {k:Nat} {H:Hs} (h:H.net.l=[]):Rr k H H
 |more {k:Nat} {H H1 H':Hs} (h:H.net.l≠[]) (d:Rv H 0 H1) (r:Rr k H1 H'):Rr (k+1) H H'
inductive Cy:Nat->Hs->Hs->Prop where
 |zero (H:Hs):Cy 0 H H
 |more {k:Nat} {H H1 H2 H':Hs} (t:EA H H1) (d:Rr 5000 H1 H2) (r:Cy k H2 H'):Cy (k+1) H H'
def Hs.fail(H:Hs)(id:Int):Hs:=match H.node id with
 |none=>H
 |some (s,_)=>{H.ax s {H.sh s with aq:=λi=>decide (i=id) || (H.sh s).aq i}with net:=E7 H.net id}
def Hs.aM(s:Nat)(ids:List Int)(H:Hs)(j:Nat):Hs:=
 (H.au s j (((H.sh s).nd j).bS (H.sh s).ad ids).aD.1).aO (((H.sh s).nd j).bS (H.sh s).ad ids).aD.2
def Bv.bL(n:Nat)(x:Bv):List Int:=(x.ai n).map λj=>(x.nd j).id
def Hs.bN(H:Hs)(s:Nat):Hs:=
 let l:=(H.sh s).ai H.n
 let a:=H.ax s {H.sh s with ad:=wrap64 ((H.sh s).ad+1),size:=l.length}
 let H2:=l.foldl (Hs.aM s ((H.sh s).bL H.n)) a
 (H2.ax s {H2.sh s with tab:=λ_=>B0,sto:=λ_=>[],done:=0}).take s
def Hs.fix(H:Hs)(s:Nat):Hs:=if (H.sh s).ai H.n=[]then H else H.bN s
def Bv.c4(n:Nat)(x:Bv):Bool:=match (x.ai n).head?,(x.ai n).getLast? with
 |some a,Bs b=>(x.nd a).head && (x.nd b).tail && ((x.ai n).length:Int) == x.size
 |_,_=>VD
def Hs.aT(H:Hs)(s:Nat):Hs:=if (H.sh s).c4 H.n then H else H.fix s
def Hs.aQ(H:Hs)(i:Nat):Hs:=
 if (H.tx i).aa=1/\∃k∈(H.tx i).ag,(H.tx i).af k≠Bs (H.sh k).ad then H.a3 i else H
def Hs.bE(H:Hs):Hs:=(Wh 1 H.m).foldl Hs.aQ H
def FO(H H':Hs):Prop:=Ek ([0,1,2].foldl Hs.aT H).bE H'
def Hs.du(H:Hs):Bool:=[0,1,2].all λs=>!((H.sh s).ai H.n).isEmpty
def nd0(id:Int):Nd:=Nd.fresh id
def D4(s:Nat):Bv:=⟨λj=>nd0 (10*s+j),λ_=>L1,0,0,λ_=>B0,λ_=>[],0⟩
def hsE(n:Nat):Hs:=⟨n,0,⟨[],λ_=>L1⟩,D4,0,λ_=>Ei,0⟩
def Hs.more(H:Hs):Hs:=({H with c:=H.c+1} : Hs).fix H.c
def BJ(n:Nat):Hs:=(hsE n).more.more.more
section
open Go.RowKit Go.Maps Go.WideMaps
section
variable {P:Xh}{kt:VR}{κ:Type}{C:Da P kt κ}{w w':D0}{b n:Nat}{m:κ->Option S2}
open Classical in
def Ab.bK(h:Ab C w b n m)(l:List κ)(hl:∀x,C.ok x->m x≠B0->x∈l):Ab C w b l.length m:=by
 obtain⟨D,B,y⟩:=h;obtain⟨s,a,G,F,hs,A⟩:=B;refine⟨D,⟨s,a,G,F,?_,A⟩,y⟩;have q:=Maps.fit_apart C.law F;have c:s.size=(((s.toList.map (Go.WideElems.rg P kt De))).map (·.1)).length:=by simp
 rw[c,<- V0 C.kl];refine WL ?_ (λI E=>?_);rw[Yz,Xb];exact q;obtain⟨p,z,rfl⟩:=ZE.1 E;obtain⟨v,f⟩:=Maps.fit_keys F p z;obtain⟨x,d,_,u⟩:=C.inv v _ f;refine ZE.2 ⟨x,hl x d (λe=>?_),u.symm⟩;have r:=(y x d).1;rw[e]at r;have:Maps.has D (C.kl x)=VD:=by
  rw[A,has_eq,X1];exact⟨p,mem_sorted.2 z,by rw[<- u];exact WideAt.sameKey_self (by rw[u];exact C.key d)⟩
 rw[this]at r;cases r
end
end
inductive Tg where
 |hs|net|shr|txr
 |sb (s:Nat)|ndr (s:Nat)|dd (s:Nat)|tab (s:Nat)|sto (s:Nat)
 |nd (s j:Nat)|tx (i:Nat)|sm (i:Nat)
deriving DecidableEq
abbrev Ah:=Nat->Option Tg
structure Av where
 g:Nat
 gs:Nat->Nat
 gn:Nat->Nat->Nat
 gt:Nat->Nat
def Ext(own own':Ah)(n:Nat):Prop:=∀b,b<n->own' b=own b
def Du(own:Ah)(n n':Nat)(t:Tg):Ah:=λb=>if b<n then own b else if b<n' then Bs t else B0
def GF(own:Ah)(n n':Nat)(t:Tg):Ext own (Du own n n' t) n:=λb h=>by unfold Du;rw[Z8 h]
def Qi{own:Ah}{n:Nat}{t:Tg}(c:n<=b)(a:b<n'):Du own n n' t b=Bs t:=by unfold Du;rw[Z7 Z0,Z8 a]
def S7{own:Ah}{n:Nat}{t:Tg}(a:n<=n')(h:Du own n n' t b≠B0):b<n':=by
 unfold Du at h;split at h;omega;split at h
 assumption
 exact ZB rfl h
def Ext.refl(own:Ah)(n:Nat):Ext own own n:=λ_ _=>rfl
def Ext.trans{a b c:Ah}{n m:Nat}(h:Ext a b n)(k:Ext b c m)(f:n<=m):Ext a c n:=λi d=>(k i (VF d f)).trans (h i d)
def OS(own:Ah)(Z:Tg->Prop)(b:Nat):Prop:=∃t,own b=Bs t/\Z t
def OS.c6{own:Ah}{Z:Tg->Prop}{t:Tg}(h:OS own Z b)(e:own b=Bs t):Z t:=by obtain⟨u,a,c⟩:=h;rw[e]at a;injection a with a;rw[a];exact c
def pw(g:Nat):S2:=ZW (Bs ⟨g,0,B0⟩)
def Uy(w:D0)(own:Ah)(t:Tg)(g:Nat)(d:Nd):Prop:=∃C V L,BT w 0 g C V L d/\∀b,CZ g C V L b->own b=Bs t
def Uy.bw{w:D0}{own own':Ah}{Z:Tg->Prop}{t:Tg}{g:Nat}{d:Nd}(h:Uy w own t g d)(q:Fr (OS own Z) w w')(r:Ext own own' w.heap.size)(p:¬Z t):Uy w' own' t g d:=by obtain⟨C,V,L,f,c⟩:=h;exact⟨C,V,L,f.fr q (λb a hs=>p (hs.c6 (c b a))),λb a=>(r b (f.a9 a).2).trans (c b a)⟩
structure Pa where
 Vn:S2
 bd:Nat
 mt:Option Nat
 e3:Sx->Ax
 ms:Option Nat
 e4:Sx->S2
def Gt(v:Pa)(x:Bv):Array S2:=#[v.Vn,.map (Bs v.bd),Wm eQ x.ad,Wm eQ x.size,.map v.mt,.map v.ms,Wm eQ 0,Wm eQ x.done]
def U2(dead:Int->Bool):Int->Option S2:=λi=>if dead i then Bs (ZX VD)else B0
structure Er(w:D0)(own:Ah)(n s g:Nat)(gn:Nat->Nat)(v:Pa)(x:Bv):Prop where
 row:w.ownsRow 0 108 1 v.Vn n ((Ww n).map λj=>pw (gn j))
 cy:∀b,v.Vn.ownBlock=Bs b->own b=Bs (.ndr s)
 dd:Ab BP w v.bd 100 (U2 x.aq)
 dP:own v.bd=Bs (.dd s)
 tab:AF w 0 100 g 4 105 (Gt v x) v.mt v.e3 x.tab
 cw:∀b,AH v.mt v.e3 x.tab b->own b=Bs (.tab s)
 sto:Cl w 0 100 g 5 105 (Gt v x) v.ms v.e4 x.sto 0
 cE:∀b,DL v.ms v.e4 x.sto b->own b=Bs (.sto s)
 gt:own g=Bs (.sb s)
def RK(w:D0)(own:Ah)(n s g:Nat)(gn:Nat->Nat)(x:Bv):Prop:=∃v,Er w own n s g gn v x
def Dr(s:Nat)(t:Tg):Prop:=t=.sb s\/t=.ndr s\/t=.dd s\/t=.tab s\/t=.sto s
def Er.bw{w:D0}{own own':Ah}{Z:Tg->Prop}{n g:Nat}{v:Pa}{x:Bv}(h:Er w own n s g gn v x)(p:Fr (OS own Z) w w')(f:Ext own own' w.heap.size)(c:∀t,Dr s t->¬Z t):Er w' own' n s g gn v x:=by
 have d:¬OS own Z g:=λhs=>c _ (eR rfl) (hs.c6 h.gt)
 exact⟨p.own h.row (λb a hs=>c _ (eS (eR rfl)) (hs.c6 (h.cy b a))),λb a=>(f b (h.row.lt b a).2).trans (h.cy b a),
  h.dd.fr p (λhs=>c _ (eS (eS (eR rfl))) (hs.c6 h.dP)),(f _ h.dd.lt).trans h.dP,
  h.tab.fr p d (λb a hs=>c _ (eS (eS (eS (eR rfl)))) (hs.c6 (h.cw b a))),λb a=>(f b (h.tab.a9 a).2).trans (h.cw b a),
  h.sto.fr p (λb a hs=>a.elim (λe=>d (e▸hs)) (λa=>c _ (eS (eS (eS (eS rfl)))) (hs.c6 (h.cE b a)))),λb a=>(f b (h.sto.a9 (eS a)).2).trans (h.cE b a),
  (f g h.tab.al.lt).trans h.gt⟩
def RK.bw{w w':D0}{own own':Ah}{Z:Tg->Prop}{n s g:Nat}{gn:Nat->Nat}{x:Bv}(h:RK w own n s g gn x)(c:Fr (OS own Z) w w')(d:Ext own own' w.heap.size)(a:∀t,Dr s t->¬Z t):RK w' own' n s g gn x:=by obtain⟨v,h⟩:=h;exact⟨v,h.bw c d a⟩
def EF(a:Sx×Int):List S2:=[ZV ⟨a.1.toArray⟩,Wm eQ a.2]
def Dl(f:Int->Option Int):Int->Option S2:=λi=>(f i).map (Wm eQ)
structure LW where
 Vw:S2
 bs:Nat
 bp:Nat
 bt:S2
 dc:S2
 Vx:S2
def P8(v:LW)(i:Nat)(t:Bu):Array S2:=#[Wm eQ i,Wm eQ t.aa,v.Vw,.map (Bs v.bs),.map (Bs v.bp),Wm eQ t.ah,v.dc,v.bt,v.Vx]
structure CL(w:D0)(own:Ah)(i g:Nat)(v:LW)(t:Bu):Prop where
 al:Ae w g 78 (P8 v i t)
 ae:w.ownsRow 0 45 3 v.Vw t.ae.length (t.ae.flatMap Dj)
 af:Ab BP w v.bs 100 (Dl t.af)
 aw:Ab BP w v.bp 100 (Dl t.aw)
 ak:w.ownsRow 0 129 2 v.Vx t.ak.length (t.ak.flatMap EF)
 ne:v.bs≠v.bp
 gt:own g=Bs (.tx i)
 wt:∀b,v.Vw.ownBlock=Bs b->own b=Bs (.tx i)
 st:own v.bs=Bs (.tx i)\/own v.bs=Bs (.sm i)
 pt:own v.bp=Bs (.tx i)
 xt:∀b,v.Vx.ownBlock=Bs b->own b=Bs (.tx i)
def U3(w:D0)(own:Ah)(i g:Nat)(t:Bu):Prop:=∃v,CL w own i g v t
def CL.bw{w:D0}{own own':Ah}{Z:Tg->Prop}{g:Nat}{v:LW}{t:Bu}(h:CL w own i g v t)(d:Fr (OS own Z) w w')(c:Ext own own' w.heap.size)(r:¬Z (.tx i))(p:¬Z (.sm i)):CL w' own' i g v t:=by
 have f:∀b,own b=Bs (.tx i)->¬OS own Z b:=λb a hs=>r (hs.c6 a)
 have q:¬OS own Z v.bs:=λhs=>h.st.elim (λe=>r (hs.c6 e)) (λe=>p (hs.c6 e))
 exact⟨d.al h.al (f _ h.gt),d.own h.ae (λb a=>f b (h.wt b a)),h.af.fr d q,h.aw.fr d (f _ h.pt),d.own h.ak (λb a=>f b (h.xt b a)),h.ne,
  (c _ h.al.lt).trans h.gt,λb a=>(c b (h.ae.lt b a).2).trans (h.wt b a),h.st.imp (λe=>(c _ h.af.lt).trans e) (λe=>(c _ h.af.lt).trans e),(c _ h.aw.lt).trans h.pt,λb a=>(c b (h.ak.lt b a).2).trans (h.xt b a)⟩
def U3.bw{w w':D0}{own own':Ah}{Z:Tg->Prop}{i g:Nat}{t:Bu}(h:U3 w own i g t)(d:Fr (OS own Z) w w')(f:Ext own own' w.heap.size)(c:¬Z (.tx i))(a:¬Z (.sm i)):U3 w' own' i g t:=by obtain⟨v,h⟩:=h;exact⟨v,h.bw d f c a⟩
structure LY where
 Vn:S2
 D:Option Nat
 L:List AW
 df:Int
 Vr:S2
 Vt:S2
def P0(v:LY)(time:Int):Array S2:=#[v.Vn,.map v.D,Wm eQ v.df,v.Vr,v.Vt,Wm eQ time]
def FN(v:LY)(b:Nat):Prop:=v.Vn.ownBlock=Bs b\/v.D=Bs b\/∃x∈v.L,(WK x.A x.n x.k).ownBlock=Bs b
structure EP(w:D0)(own:Ah)(P:Av)(c m:Nat)(net:Be)(time:Int)(v:LY):Prop where
 nt:AO w 0 P.g 0 92 (P0 v time) v.Vn v.D 100 v.L net.aq v.df
 cb:AI v.L=net.l
 bI:∀b,FN v b->own b=Bs .net
 cd:∀x∈v.L,x.n<=100000
 shr:w.ownsRow 0 80 1 v.Vr c ((Ww c).map λs=>pw (P.gs s))
 ck:∀b,v.Vr.ownBlock=Bs b->own b=Bs .shr
 txr:w.ownsRow 0 74 1 v.Vt m ((Wh 1 m).map λi=>pw (P.gt i))
 cf:∀b,v.Vt.ownBlock=Bs b->own b=Bs .txr
 gt:own P.g=Bs .hs
def HsC(w:D0)(own:Ah)(P:Av)(c m:Nat)(net:Be)(time:Int):Prop:=∃v,EP w own P c m net time v
def OO(t:Tg):Prop:=t=.hs\/t=.net\/t=.shr\/t=.txr
def AO.a9{w:D0}{base g nd:Nat}{T:VR}{L:List AW}{dead:Int->Bool}{lost:Int}(h:AO w base g s T X V D nd L dead lost)(a:V.ownBlock=Bs b\/D=Bs b\/∃x∈L,(WK x.A x.n x.k).ownBlock=Bs b):b<w.heap.size:=by obtain a|a|⟨x,c,a⟩:=a;exact h.vlt a;have:=h.down;rw[a]at this;exact this.lt;exact((h.own x c).1.lt b a).2
def AO.frF{w:D0}{base g nd:Nat}{T:VR}{L:List AW}{dead:Int->Bool}{lost:Int}(h:AO w base g s T X V D nd L dead lost)(a:Fr S w w')(p:¬S g)(f:∀b,(V.ownBlock=Bs b\/D=Bs b\/∃x∈L,(WK x.A x.n x.k).ownBlock=Bs b)->¬S b):AO w' base g s T X V D nd L dead lost:=
 ⟨a.al h.al p,h.c0,h.c1,h.c2,a.own h.row (λb c=>f b (eR c)),λx d=>⟨a.own (h.own x d).1 (λb c=>f b (eS (eS ⟨x,d,c⟩))),(h.own x d).2⟩,h.down.fr a (λb c=>f b (eS (eR c))),h.len,h.ne,VK h.bg a.size⟩
def EP.bw{w:D0}{own own':Ah}{Z:Tg->Prop}{P:Av}{m:Nat}{net:Be}{time:Int}{v:LY}(h:EP w own P c m net time v)(p:Fr (OS own Z) w w')(f:Ext own own' w.heap.size)(d:∀t,OO t->¬Z t):EP w' own' P c m net time v:=
 ⟨h.nt.frF p (λhs=>d _ (eR rfl) (hs.c6 h.gt)) (λb a hs=>d _ (eS (eR rfl)) (hs.c6 (h.bI b a))),h.cb,λb a=>(f b (h.nt.a9 a)).trans (h.bI b a),h.cd,
  p.own h.shr (λb a hs=>d _ (eS (eS (eR rfl))) (hs.c6 (h.ck b a))),λb a=>(f b (h.shr.lt b a).2).trans (h.ck b a),
  p.own h.txr (λb a hs=>d _ (eS (eS (eS rfl))) (hs.c6 (h.cf b a))),λb a=>(f b (h.txr.lt b a).2).trans (h.cf b a),(f _ h.nt.al.lt).trans h.gt⟩
def HsC.bw{w w':D0}{own own':Ah}{Z:Tg->Prop}{P:Av}{c m:Nat}{net:Be}{time:Int}(h:HsC w own P c m net time)(d:Fr (OS own Z) w w')(f:Ext own own' w.heap.size)(a:∀t,OO t->¬Z t):HsC w' own' P c m net time:=by obtain⟨v,h⟩:=h;exact⟨v,h.bw d f a⟩
structure HI(w:D0)(own:Ah)(P:Av)(H:Hs):Prop where
 lt:∀b,own b≠B0->b<w.heap.size
 hs:HsC w own P H.c H.m H.net H.ah
 sh:∀s,s<H.c->RK w own H.n s (P.gs s) (P.gn s) (H.sh s)
 nd:∀s j,s<H.c->j<H.n->Uy w own (.nd s j) (P.gn s j) ((H.sh s).nd j)
 tx:∀i,1<=i->i<=H.m->U3 w own i (P.gt i) (H.tx i)
structure HZ(Z:Tg->Prop)(w:D0)(own:Ah)(w':D0)(own':Ah):Prop where
 ext:Ext own own' w.heap.size
 fr:Fr (OS own Z) w w'
 sm:∀b i,own' b=Bs (.sm i)->own b=Bs (.sm i)
def BZ(t:Tg):Prop:=t≠.txr/\t≠.shr/\∀i,t≠.sm i
def EN(own:Ah):Prop:=∀b i,own b≠Bs (.sm i)
abbrev AC:=HZ BZ
def HZ.refl(Z:Tg->Prop)(w:D0)(own:Ah):HZ Z w own w own:=⟨Ext.refl _ _,Fr.refl _ _,λ_ _ h=>h⟩
def HZ.mono{Z Z':Tg->Prop}{w w':D0}{own own':Ah}(h:HZ Z w own w' own')(c:∀t,Z t->Z' t):HZ Z' w own w' own':=⟨h.ext,h.fr.mono (λ_ _ ⟨t,a,b⟩=>⟨t,a,c t b⟩),h.sm⟩
def HZ.trans{Z:Tg->Prop}{w f w2:D0}{own d c:Ah}(h:HZ Z w own f d)(k:HZ Z f d w2 c):HZ Z w own w2 c:=
 ⟨h.ext.trans k.ext h.fr.size,h.fr.trans' k.fr (λi p ⟨t,a,b⟩=>⟨t,by rw[<- h.ext i p];exact a,b⟩),λb i e=>h.sm b i (k.sm b i e)⟩
def HZ.ey{Z:Tg->Prop}{w:D0}{own own':Ah}(h:HZ Z w own w' own')(a:EN own):EN own':=λb i e=>a b i (h.sm b i e)
def OS.bR{own:Ah}{Z:Tg->Prop}(h:OS own Z b):own b≠B0:=by obtain⟨t,h,_⟩:=h;rw[h];simp
def q6t{w:D0}(own:Ah)(a:VI w.heap.size w w'):Fr (OS own (λ_=>False)) w w':=⟨a.os,a.tape,a.output,a.size,λk c _=>a.block k c⟩
variable {own own':Ah}{P:Av}{H:Hs}
def HI.below(h:HI w own P H)(d:VI w.heap.size w w'):HI w' own P H:=
 have a:=q6t own d;have c:=Ext.refl own w.heap.size
 ⟨λb f=>VF (h.lt b f) d.size,h.hs.bw a c (λ_ _ h=>h),λs hs=>(h.sh s hs).bw a c (λ_ _ h=>h),λs j hs p=>(h.nd s j hs p).bw a c (λh=>h),λi r q=>(h.tx i r q).bw a c (λh=>h) (λh=>h)⟩
def HZ.below{Z:Tg->Prop}(own:Ah)(c:VI w.heap.size w w'):HZ Z w own w' own:=⟨Ext.refl _ _,(q6t own c).mono (λ_ _ ⟨t,a,b⟩=>⟨t,a,b.elim⟩),λ_ _ h=>h⟩
def EP.cells{m:Nat}{net:Be}{time:Int}{v:LY}(h:EP w own P c m net time v):w.cell? ⟨P.g,0,B0⟩=Bs v.Vn/\w.cell? ⟨P.g,3,B0⟩=Bs v.Vr/\w.cell? ⟨P.g,4,B0⟩=Bs v.Vt/\w.cell? ⟨P.g,5,B0⟩=Bs (Wm eQ time)/\P.g<w.heap.size:=by have p:=h.nt.al.cell 0;have f:=h.nt.al.cell 3;have d:=h.nt.al.cell 4;have a:=h.nt.al.cell 5;unfold P0 at p f d a;simp only[NW,Ft,O0]at p f d a;exact⟨p,f,d,a,h.nt.al.lt⟩
def US{base k n:Nat}(h:w.ownsRow base e 1 V n xs)(p:k<n):∃g c,V=WK (Bs ⟨g,0,B0⟩) n c/\g<w.heap.size/\∃u,xs[k]? = Bs u/\w.cell? ⟨g,k,B0⟩=Bs u:=by obtain⟨A,c,rfl,_,_⟩:=AM h;obtain⟨g,off,u,rfl,q,f,d⟩:=(Rd.a7 h).dg p;obtain⟨a,_⟩|⟨s,cap,r,a,_⟩:=h.2;cases a;injection a with a _ _;injection a with a;injection a with a h2 _;subst h2;exact⟨g,c,rfl,q,u,f,by rw[Wk]at d;exact d⟩
def EP.txAt{m:Nat}{net:Be}{time:Int}{v:LY}(h:EP w own P c m net time v)(q:1<=i)(p:i<=m):∃g k,v.Vt=WK (Bs ⟨g,0,B0⟩) m k/\g<w.heap.size/\w.cell? ⟨g,i-1,B0⟩=Bs (pw (P.gt i)):=by obtain⟨g,k,e,d,u,a,f⟩:=US h.txr (k:=i-1) Z0;refine⟨g,k,e,d,?_⟩;rw[VQ,List.getElem?_range' Z0]at a;simp only[WA,VN]at a;rw[f,<- a,show 1+1*(i-1)=i by omega]
def EP.dh{m:Nat}{net:Be}{time:Int}{v:LY}(h:EP w own P c m net time v)(hs:s<c):∃g k,v.Vr=WK (Bs ⟨g,0,B0⟩) c k/\g<w.heap.size/\w.cell? ⟨g,s,B0⟩=Bs (pw (P.gs s)):=by obtain⟨g,k,e,d,u,a,f⟩:=US h.shr (k:=s) Z0;refine⟨g,k,e,d,?_⟩;rw[VQ,List.getElem?_range Z0]at a;simp only[WA,VN]at a;rw[f,<- a]
def Ez(P:Av)(m:Nat)(id:Int):S2:=if id<1\/m<id then ZW B0 else pw (P.gt id.toNat)
def q5k(h:HI w own P H)(y:H.m<=1000)(id:Int):VX Tryz.prog 34 #[pw P.g,Wm eQ id] w λe w'=>e=ZY (Ez P H.m id)/\w=w':=by
 obtain⟨v,h⟩:=h.hs;obtain⟨_,_,d,_,D⟩:=h.cells;unfold Ez pw;by_cases p:id<1
 ·rw[Z8 (eR p)];have s:decide (id<1)=VD:=ZA p;clear d h;go_enter Tryz.func34,Tryz.ntmps34;go_wp2_with fail;go_ret;exact⟨rfl,rfl⟩
 have s:decide (id<1)=L1:=Z9 p;by_cases f:(H.m:Int)<id
 ·rw[Z8 (eS f)];have r:decide (id > (H.m:Int))=VD:=ZA f;obtain⟨A,c,a,_,_⟩:=AM h.txr;rw[a]at d;clear h a;go_enter Tryz.func34,Tryz.ntmps34;go_wp2_with fail;go_ret;exact⟨rfl,rfl⟩
 rw[Z7 Z0];have r:decide (id > (H.m:Int))=L1:=Z9 f;obtain⟨i,rfl⟩:∃i:Nat,id=i:=⟨id.toNat,Z0⟩
 obtain⟨g,k,a,B,q⟩:=h.txAt (i:=i) Z0 Z0;rw[a]at d;rw[show((i:Int)).toNat=i from rfl];obtain⟨j,rfl⟩:∃j,i=j+1:=⟨i-1,Z0⟩
 have u:IntKind.i64.wrap (((j+1:Nat):Int)-1)=(j:Int):=by rw[V4 _ ⟨Z0,Z0⟩];omega
 rw[Xc]at q;unfold pw at q;have z:j<H.m:=by omega
 clear h a;go_enter Tryz.func34,Tryz.ntmps34;go_wp2_with fail;go_ret;exact⟨rfl,rfl⟩
def HI.setTx'(h:HI w own P H){t':Bu}(d:Fr (OS own (λt=>t=.tx i)) w w')(f:Ext own own' w.heap.size)(p:∀b,own' b≠B0->b<w'.heap.size)
  (a:U3 w' own' i (P.gt i) t'):HI w' own' P (H.ay i t'):=by
 refine⟨p,h.hs.bw d f (λt a=>by rintro rfl;obtain h|h|h|h:=a<;> cases h),λs hs=>(h.sh s hs).bw d f (λt a=>by rintro rfl;obtain h|h|h|h|h:=a<;> cases h),λs j hs q=>(h.nd s j hs q).bw d f Z3,λk u r=>?_⟩;show U3 w' own' k (P.gt k) (Af H.tx i t' k);by_cases e:k=i;subst e;rw[Aq];exact a;rw[Ay e];exact(h.tx k u r).bw d f (λc=>by injection c with c;exact e c) (λc=>by cases c)
def HI.setSh'(h:HI w own P H){x':Bv}(p:x'.nd=(H.sh s).nd)(c:Fr (OS own (Dr s)) w w')(d:Ext own own' w.heap.size)(q:∀b,own' b≠B0->b<w'.heap.size)
  (u:RK w' own' H.n s (P.gs s) (P.gn s) x'):HI w' own' P (H.ax s x'):=by
 refine⟨q,h.hs.bw c d (λt f a=>by obtain h|h|h|h:=f<;> subst h<;>obtain h|h|h|h|h:=a<;> cases h),λk r=>?_,λk j r y=>?_,λk A z=>(h.tx k A z).bw c d (λa=>by obtain h|h|h|h|h:=a<;> cases h) (λa=>by obtain h|h|h|h|h:=a<;> cases h)⟩
 ·show RK w' own' H.n k (P.gs k) (P.gn k) (Af H.sh s x' k);by_cases e:k=s;subst e;rw[Aq];exact u;rw[Ay e];exact(h.sh k r).bw c d (λt f a=>by obtain h|h|h|h|h:=f<;> subst h<;>obtain h|h|h|h|h:=a<;> first|(injection h with h;exact e h)|cases h)
 have:=(h.nd k j r y).bw c d (λa=>by obtain h|h|h|h|h:=a<;> cases h);show Uy w' own' (.nd k j) (P.gn k j) ((Af H.sh s x' k).nd j);by_cases e:k=s;subst e;rw[Aq,p];exact this;rw[Ay e];exact this
def RK.au{n g:Nat}{x:Bv}(h:RK w own n s g gn x)(f:Nat->Nd):RK w own n s g gn {x with nd:=f}:=by obtain⟨v,h⟩:=h;exact⟨v,h.row,h.cy,h.dd,h.dP,h.tab,h.cw,h.sto,h.cE,h.gt⟩
def HI.setNd'(h:HI w own P H){f:Nd}(c:Fr (OS own (λt=>t=.nd s j)) w w')(d:Ext own own' w.heap.size)(r:∀b,own' b≠B0->b<w'.heap.size)
  (z:Uy w' own' (.nd s j) (P.gn s j) f):HI w' own' P (H.au s j f):=by
 refine⟨r,h.hs.bw c d (λt q=>by rintro rfl;obtain h|h|h|h:=q<;> cases h),λk p=>?_,λk i p y=>?_,λk B A=>(h.tx k B A).bw c d Z3 Z3⟩;have:=(h.sh k p).bw c d (λt q=>by rintro rfl;obtain h|h|h|h|h:=q<;> cases h);show RK w' own' H.n k (P.gs k) (P.gn k) (Af H.sh s {H.sh s with nd:=Af (H.sh s).nd j f} k);by_cases e:k=s;subst e;rw[Aq];exact this.au _;rw[Ay e];exact this;show Uy w' own' (.nd k i) (P.gn k i) ((Af H.sh s {H.sh s with nd:=Af (H.sh s).nd j f} k).nd i);by_cases e:k=s;subst e;rw[Aq];show Uy w' own' (.nd k i) (P.gn k i) (Af (H.sh k).nd j f i);by_cases u:i=j;subst u;rw[Aq];exact z;rw[Ay u];exact(h.nd k i p y).bw c d (λa=>by injection a with _ a;exact u a);rw[Ay e];exact(h.nd k i p y).bw c d (λa=>by injection a with a;exact e a)
def HI.setHs'(h:HI w own P H){net':Be}{time':Int}(f:Fr (OS own OO) w w')(p:Ext own own' w.heap.size)(c:∀b,own' b≠B0->b<w'.heap.size)
  (q:HsC w' own' P H.c H.m net' time'):HI w' own' P {H with net:=net',ah:=time'}:=
 ⟨c,q,λk d=>(h.sh k d).bw f p (λt r a=>by obtain h|h|h|h|h:=r<;> subst h<;>obtain h|h|h|h:=a<;> cases h),
  λk j d s=>(h.nd k j d s).bw f p (λa=>by obtain h|h|h|h:=a<;> cases h),λk y u=>(h.tx k y u).bw f p (λa=>by obtain h|h|h|h:=a<;> cases h) (λa=>by obtain h|h|h|h:=a<;> cases h)⟩
def HI.dW(h:HI w own P H)(f:Nat->Bu)(d:∀i,1<=i->i<=H.m->f i=H.tx i):HI w own P {H with tx:=f}:=
 ⟨h.lt,h.hs,h.sh,h.nd,λi c a=>by show U3 w own i (P.gt i) (f i);rw[d i c a];exact h.tx i c a⟩
def names:List Sx:=[[97],[98],[99],[100]]
def Ex(h:x∈names):x.length<=20:=by unfold names at h;simp only[Ye,X9,or_false]at h;obtain rfl|rfl|rfl|rfl:=h<;> decide
structure Fb(k:Kx):Prop where
 dD:∀o m,k.h o=Bs m->1<=o/\o<=60
 wait:∀w∈k.ws,1<=w.1/\w.1<=60
 sort:k.ws.Pairwise (·.1 < ·.1)
def Dy(T:Tb):Prop:=∀x k,T x=Bs k->x∈names/\Fb k
def Dy.bo:Dy (λ_=>B0):=λ_ _ h=>by cases h
def Fb.zero:Fb k0:=⟨λ_ _ h=>(nomatch h),λ_ h=>(nomatch h),Yv⟩
def Dy.aN(h:Dy T)(x:Sx):Fb (Ad T x):=by
 unfold Ad;cases e:T x with
 |none=>exact Fb.zero
 |some k=>exact(h x k e).2
def q8k(ok:Int->Prop):∀(ws left:List (Int×Int)) (h:Int->Option Int),(∀o m,h o=Bs m->ok o)->(∀w∈left++ws,ok w.1)->(left++ws).Pairwise (·.1 < ·.1)->
  (∀o m,(DP h left ws).1 o=Bs m->ok o)/\(∀w∈(DP h left ws).2.1,w∈left++ws)/\(DP h left ws).2.1.Pairwise (·.1 < ·.1)
 |[],left,h,q,_,p=>by rw[q39];exact⟨q,λw s=>List.mem_append_left _ s,Z6 p⟩
 |w::ws,left,h,q,h2,p=>by
  rcases r:Ai h w.1 w.2 left with _|_;rw[q8l r];have e:left++w::ws=(left++[w])++ws:=by simp
  rw[e]at h2 p;obtain⟨a,b,c⟩:=q8k ok ws (left++[w]) h q h2 p;exact⟨a,λv f=>by rw[e];exact b v f,c⟩;rw[q73 r];have d:(left++ws).Sublist (left++w::ws):=List.Sublist.append_left (List.sublist_cons_self _ _) left;obtain⟨a,b,c⟩:=q8k ok ws left (Az h w.1 w.2) (λo m e=>by
   unfold Az Bj at e;split at e;rename_i e1;rw[e1];exact h2 w Z3;exact q o m e) (λv f=>h2 v (d.subset f)) (p.sublist d)
  exact⟨a,λv f=>d.subset (b v f),c⟩
def Fb.bF(h:Fb k)(tx:Int):Fb (Co k tx).1:=by
 have hs:(AG k.ws tx).Sublist k.ws:=List.filter_sublist;obtain⟨a,b,c⟩:=q8k (λo=>1<=o/\o<=60) (AG k.ws tx) [] (Bj k.h tx B0) (λo m e=>by
  unfold Bj at e;split at e;cases e;exact h.dD o m e) (λw d=>h.wait w (hs.subset (Z6 d))) (Z6 (h.sort.sublist hs))
 exact⟨a,λw d=>h.wait w (hs.subset (Z6 (b w d))),c⟩
def Dy.bF(h:Dy T)(tx:Int):Dy (Bp T tx):=λx k c=>by
 unfold Bp at c;cases e:T x with
 |none=>rw[e]at c;cases c
 |some k0=>
  rw[e]at c;have a:FH k0 tx=Bs k:=c;unfold FH at a;split at a;cases a;injection a with a;rw[<- a];exact⟨(h x k0 e).1,(h x k0 e).2.bF tx⟩
def Dy.put(h:Dy T)(a:x∈names)(c:Fb k):Dy (Ar T x (Bs k)):=λy k' e=>by
 unfold Ar at e;split at e;rename_i e1;injection e with e;rw[e1,<- e];exact⟨a,c⟩;exact h y k' e
def Dy.aJ(h:Dy T)(p:1<=tx/\tx<=60)(f:x∈names)(mode:Int):Dy (Ap T tx x mode):=by have c:=h.aN x;unfold Ap;rcases d:CF (Ad T x).ws tx with _|_;rw[Z7 Z3];rcases r:Ai (Ad T x).h tx mode (Ad T x).ws with _|_;rw[Z7 Z3];split;exact h;refine h.put f ⟨c.dD,λw a=>?_,q7b c.sort (λv q=>?_)⟩;obtain rfl|a:=q5j.1 a;exact p;exact c.wait w a;unfold CF at d;rw[Xw]at d;have:=d v q;simpa using this;rw[Z8 rfl];refine h.put f ⟨λo m e=>?_,c.wait,c.sort⟩;have e:Az (Ad T x).h tx mode o=Bs m:=e;unfold Az Bj at e;split at e;rename_i e1;rw[e1];exact p;exact c.dD o m e;rw[Z8 rfl];exact h
def DR:List Int:=(Ww 61).map Int.ofNat
def RA{o:Int}(c:0<=o)(a:o<=60):o∈DR:=ZE.2 ⟨o.toNat,ZH.2 Z0,by show(o.toNat:Int)=o;omega⟩
def q3y:DR.length=61:=by unfold DR;simp
def bs4:List ByteArray:=names.map λx=>⟨x.toArray⟩
def O2{s:ByteArray}(h:sx s∈names):s∈bs4:=ZE.2 ⟨sx s,h,Ks s⟩
section
variable {w w':D0}{base n g off:Nat}{ty:VR}{cs:Array S2}
def AF.bK{mb:Option Nat}{loc:Sx->Ax}{T:Tb}(h:AF w base n g off ty cs mb loc T)(f:Dy T):AF w base 100 g off ty cs mb loc T:=by
 refine⟨h.al,h.c0,?_,λx k p=>?_,h.apart,h.bJ,h.ne,h.dU,h.dj,h.bg⟩
 ·have d:=h.map;unfold LB at d ⊢;obtain _|b:=mb;exact d;refine(Ab.bK (C:=kS) d bs4 (λs _ hs=>O2 ?_)).mono Z2;unfold Bk at hs;cases e:T (sx s)with
  |none=>rw[e]at hs;exact ZB rfl hs
  |some k=>exact(f _ _ e).1
 have a:=h.bO x k p;have c:=(f x k p).2;refine⟨a.al,(a.holds.bK DR (λo _ q=>?_)).mono (by rw[q3y];omega),a.row,a.a4,a.loh,a.eg,a.okw,a.len⟩;cases e:k.h o with
 |none=>exact ZB (by unfold hM;rw[e];rfl) q
 |some m=>have:=c.dD o m e;exact RA Z0 this.2
def Dz(K:Kp):Prop:=∀x v,v∈K x->x∈names/\0<=v.t/\v.t<=60
def Dz.bo:Dz (λ_=>[]):=λ_ _ h=>by cases h
def Dz.len{K:Kp}(h:Dz K)(hs:∀x,Gs (K x))(x:Sx):(K x).length<=61:=by
 have c:((K x).map (·.t)).length<=DR.length:=by
  refine WL ?_ (λt d=>?_);rw[Yz,Xb];exact(hs x).imp (λh e=>Z0);obtain⟨v,a,rfl⟩:=ZE.1 d;exact RA (h x v a).2.1 (h x v a).2.2
 rw[V0,q3y]at c;exact c
def Cl.bK{mb:Option Nat}{loc:Sx->S2}{K:Kp}{low:Int}(h:Cl w base n g off ty cs mb loc K low)(c:Dz K):Cl w base 100 g off ty cs mb loc K low:=by
 refine⟨h.al,h.c0,h.c1,h.ne,?_,h.cJ,h.apart,h.bJ,h.cQ,h.aH,λx=>VK (c.len h.aH x) Z0,h.eb,h.e1,h.dU,h.lo⟩;have a:=h.map;unfold StM at a ⊢;obtain _|b:=mb;exact a;refine(Ab.bK (C:=kV) a bs4 (λs _ hs=>O2 ?_)).mono Z2;unfold ED at hs;rcases e:K (sx s)with _|⟨v,l⟩
 rw[e]at hs;exact ZB rfl hs;exact(c (sx s) v (by rw[e];exact VB ..)).1
def Dz.put{K:Kp}(h:Dz K){r:Rx}(c:r.key∈names)(f:0<=r.t)(d:r.t<=60):Dz (CT K 0 r).2:=by unfold CT;split;exact h;split;exact h;split;exact h;split;exact h;intro x v a;have a:v∈Cc K r.key (CK (K r.key) (Jg r)) x:=a;unfold Cc at a;split at a;rename_i e;rw[e];obtain rfl|a:=q80.1 a;exact⟨c,f,d⟩;exact h _ v a;exact h x v a
def Uk(p:Pr):Prop:=sx p.key∈names/\p.val.size<=40
def Dz.puts{t:Int}(c:0<=t)(a:t<=60):∀(ps:List Pr) {K:Kp},Dz K->(∀p∈ps,Uk p)->Dz (Dd K t ps)
 |[],_,h,_=>h
 |p::ps,K,h,hp=>Dz.puts c a ps (h.put (r:=⟨sx p.key,sx p.val,p.aR,t⟩) (hp p (VB ..)).1 c a) (λq d=>hp q (VE _ d))
structure Eo(c:Cm):Prop where
 tx:1<=c.tx/\c.tx<=60
 ah:0<=c.ah/\c.ah<=60
 cd:c.ae.length<=20
 ps:∀p∈c.ae,Uk p
def Dz.comm{c:Cm}(d:Eo c):∀(l:List Cm) {K:Kp},Dz K->(∀a∈l,Eo a)->Dz (Br K l c)
 |[],_,h,_=>h
 |a::l,K,h,hl=>by
  show Dz (Br (if a.aj=2/\a.tx=c.tx then Dd K c.ah a.ae else K) l c);refine Dz.comm d l ?_ (λb f=>hl b (VE _ f));split;exact Dz.puts d.ah.1 d.ah.2 _ h (hl a (VB ..)).ps;exact h
def Dy.prep{tx:Int}(a:1<=tx/\tx<=60):∀(ps:List Pr) {T:Tb},Dy T->(∀p∈ps,Uk p)->Dy (CU T tx ps)
 |[],_,h,_=>h
 |p::ps,T,h,hp=>Dy.prep a ps (h.aJ a (hp p (VB ..)).1 2) (λq c=>hp q (VE _ c))
def Gu{i:Int}(d:-1000000<=i)(c:i<=1000000):FB i:=by
 simp only[FB,Lit.wf,Wl,decide_eq_true_eq];have e1:IntKind.i64.min = -9223372036854775808:=by decide
 have a:IntKind.i64.max=9223372036854775807:=by decide
 rw[e1,a];omega
end
variable {w2:D0}{v:LW}{t:Bu}
def CL.bC(h:CL w own i g v t):v.Vw.ownBlock≠Bs g/\v.Vx.ownBlock≠Bs g/\v.bs≠g/\v.bp≠g/\v.Vw.ownBlock≠Bs v.bs/\v.Vw.ownBlock≠Bs v.bp/\v.Vx.ownBlock≠Bs v.bs/\v.Vx.ownBlock≠Bs v.bp:=
 ⟨Bh h.ae h.al Z2,Bh h.ak h.al Z2,h.af.aV h.al,h.aw.aV h.al,h.af.bn h.ae,h.aw.bn h.ae,h.af.bn h.ak,h.aw.bn h.ak⟩
def CL.dq(h:CL w own i g v t){t':Bu}{v':LW}(a:Ae w' g 78 (P8 v' i t'))(c:Fr (λk=>k=g) w w')(e1:v'.Vw=v.Vw)(f:v'.bs=v.bs)(d:v'.bp=v.bp)(p:v'.Vx=v.Vx)(A:t'.ae=t.ae)(z:t'.af=t.af)(y:t'.aw=t.aw)(u:t'.ak=t.ak) :
  CL w' own i g v' t':=by
 obtain⟨s,n2,r,q,_⟩:=h.bC;refine⟨a,?_,?_,?_,?_,by rw[f,d];exact h.ne,h.gt,by rw[e1];exact h.wt,by rw[f];exact h.st,by rw[d];exact h.pt,by rw[p];exact h.xt⟩;rw[e1,A];exact c.own h.ae (λb a e=>s (by rw[a,e]));rw[f,z];exact h.af.fr c r;rw[d,y];exact h.aw.fr c q;rw[p,u];exact c.own h.ak (λb a e=>n2 (by rw[a,e]))
def CL.cZ(h:CL w own i g v t)(s:Int):CL (w.setCell ⟨g,1,B0⟩ (Wm eQ s)) own i g v {t with aa:=s}:=
 h.dq (h.al.aZ 1 _) (Fr.aL g w 1 _) rfl rfl rfl rfl rfl rfl rfl rfl
def CL.dv(h:CL w own i g v t)(s:Int):CL (w.setCell ⟨g,5,B0⟩ (Wm eQ s)) own i g v {t with ah:=s}:=
 h.dq (h.al.aZ 5 _) (Fr.aL g w 5 _) rfl rfl rfl rfl rfl rfl rfl rfl
def CL.cX(h:CL w own i g v t)(f:Ext own own' w.heap.size)(q:Fr (λk=>v.Vx.ownBlock=Bs k\/w.heap.size<=k) w w2)(r:w2.ownsRow 0 129 2 V' l'.length (l'.flatMap EF))(B:∀b,V'.ownBlock=Bs b->own' b=Bs (.tx i)) :
  CL (w2.setCell ⟨g,8,B0⟩ V') own' i g {v with Vx:=V'} {t with ak:=l'}:=by
 obtain⟨A,n2,z,y,G,E,u,s⟩:=h.bC;have d:∀{b},b<w.heap.size->v.Vx.ownBlock≠Bs b->¬(v.Vx.ownBlock=Bs b\/w.heap.size<=b):=λc D hs=>hs.elim D Z0
 have p:Ae w2 g 78 (P8 v i t):=q.al h.al (d h.al.lt n2);have a:=Fr.aL g w2 8 V';refine⟨p.aZ 8 V',?_,?_,?_,a.own r (λb c e=>Bh r p Z2 (by rw[c,e])),h.ne,(f _ h.al.lt).trans h.gt,λb c=>(f _ (h.ae.lt b c).2).trans (h.wt b c),h.st.imp (λe=>(f _ h.af.lt).trans e) (λe=>(f _ h.af.lt).trans e),(f _ h.aw.lt).trans h.pt,B⟩;exact a.own (q.own h.ae (λb c=>d (h.ae.lt b c).2 (λe=>EX h.ae h.ak Z2 c e))) (λb c e=>A (by rw[c,e]));exact(h.af.fr q (d h.af.lt u)).fr a z;exact(h.aw.fr q (d h.aw.lt s)).fr a y
def CL.dZ(h:CL w own i g v t){l':List Pr}(f:Ext own own' w.heap.size)(q:Fr (λk=>v.Vw.ownBlock=Bs k\/w.heap.size<=k) w w2)(r:w2.ownsRow 0 45 3 V' l'.length (l'.flatMap Dj))(B:∀b,V'.ownBlock=Bs b->own' b=Bs (.tx i)) :
  CL (w2.setCell ⟨g,2,B0⟩ V') own' i g {v with Vw:=V'} {t with ae:=l'}:=by
 obtain⟨A,n2,z,y,u,s,G,E⟩:=h.bC;have d:∀{b},b<w.heap.size->v.Vw.ownBlock≠Bs b->¬(v.Vw.ownBlock=Bs b\/w.heap.size<=b):=λc D hs=>hs.elim D Z0
 have p:Ae w2 g 78 (P8 v i t):=q.al h.al (d h.al.lt A);have a:=Fr.aL g w2 2 V';refine⟨p.aZ 2 V',a.own r (λb c e=>Bh r p Z2 (by rw[c,e])),?_,?_,?_,h.ne,(f _ h.al.lt).trans h.gt,B,h.st.imp (λe=>(f _ h.af.lt).trans e) (λe=>(f _ h.af.lt).trans e),(f _ h.aw.lt).trans h.pt,λb c=>(f _ (h.ak.lt b c).2).trans (h.xt b c)⟩;exact(h.af.fr q (d h.af.lt u)).fr a z;exact(h.aw.fr q (d h.aw.lt s)).fr a y;exact a.own (q.own h.ak (λb c=>d (h.ak.lt b c).2 (λe=>EX h.ak h.ae Z2 c e))) (λb c e=>n2 (by rw[c,e]))
def CL.dr(h:CL w own i g v t){d:Int->Option Int}(a:Fr (λk=>k=v.bs) w w2)(r:Ab BP w2 v.bs 100 (Dl d)):CL w2 own i g v {t with af:=d}:=by obtain⟨z,n2,q,y,p,u,f,s⟩:=h.bC;exact⟨a.al h.al (λe=>q e.symm),a.own h.ae (λb c e=>p (by rw[c,e])),r,h.aw.fr a (λe=>h.ne e.symm),a.own h.ak (λb c e=>f (by rw[c,e])),h.ne,h.gt,h.wt,h.st,h.pt,h.xt⟩
def CL.ds(h:CL w own i g v t){d:Int->Option Int}(a:Fr (λk=>k=v.bp) w w2)(r:Ab BP w2 v.bp 100 (Dl d)):CL w2 own i g v {t with aw:=d}:=by obtain⟨z,n2,y,q,u,p,s,f⟩:=h.bC;exact⟨a.al h.al (λe=>q e.symm),a.own h.ae (λb c e=>p (by rw[c,e])),h.af.fr a h.ne,r,a.own h.ak (λb c e=>f (by rw[c,e])),h.ne,h.gt,h.wt,h.st,h.pt,h.xt⟩
def qdw(f:Int->Option Int)(k e:Int):AY (Dl f) k (Bs (Wm eQ e))=Dl (AS f k e):=by funext j;unfold AY Dl AS;split<;>rfl
def Cl.da{base k g:Nat}{a:Array S2}{loc:Sx->S2}{K:Kp}(h:Cl w base k g s e X D loc K tx)(p:Fr S w w')(f:∀b,DL D loc K b->¬S b)(c:Ae w' g e a)(r:a[s]? = Bs (.map D))(q:a[s+1]? = Bs (Wm eQ tx)) :
  Cl w' base k g s e a D loc K tx:=
 ⟨c,r,q,h.ne,h.map.fr p (λb c=>f b (eR c)),λx d=>(h.cJ x d).fr p (λb c=>f b (eS ⟨x,d,c⟩)),h.apart,h.bJ,h.cQ,h.aH,h.len,h.eb,h.e1,h.dU,h.lo⟩
def AF.da{base k g:Nat}{a:Array S2}{loc:Sx->Ax}(h:AF w base k g s e X D loc T)(d:Fr S w w')(p:∀b,AH D loc T b->¬S b)(c:Ae w' g e a)(q:a[s]? = Bs (.map D)) :
  AF w' base k g s e a D loc T:=
 ⟨c,q,h.map.fr d (λb c=>p b (eR c)),λx k f=>(h.bO x k f).fr d (λb c=>p b (eS ⟨x,by rw[f];simp,c⟩)),h.apart,h.bJ,h.ne,h.dU,h.dj,VK h.bg d.size⟩
def Er.dq{n g:Nat}{v:Pa}{x x':Bv}(h:Er w own n s g gn v x)(c:Ae w' g 105 (Gt v x'))(d:Fr (λk=>k=g) w w')(e1:x'.aq=x.aq)(p:x'.tab=x.tab)(f:x'.sto=x.sto):Er w' own n s g gn v x':=by
 have a:=h.gt;have u:∀b,AH v.mt v.e3 x.tab b->¬b=g:=λb c e=>by have:=h.cw b c;rw[e,a]at this;cases this
 have n2:∀b,DL v.ms v.e4 x.sto b->¬b=g:=λb c e=>by have:=h.cE b c;rw[e,a]at this;cases this
 have r:¬v.bd=g:=λe=>by have:=h.dP;rw[e,a]at this;cases this
 have q:∀b,v.Vn.ownBlock=Bs b->¬b=g:=λb c e=>by have:=h.cy b c;rw[e,a]at this;cases this
 exact⟨d.own h.row q,h.cy,by rw[e1];exact h.dd.fr d r,h.dP,by rw[p];exact h.tab.da d u c rfl,by rw[p];exact h.cw,by rw[f];exact h.sto.da d n2 c rfl rfl,by rw[f];exact h.cE,a⟩
def Er.cU{n g:Nat}{v:Pa}{x:Bv}(h:Er w own n s g gn v x)(d:Nat):Er (w.setCell ⟨g,7,B0⟩ (Wm eQ d)) own n s g gn v {x with done:=d}:=
 h.dq (h.tab.al.aZ 7 _) (Fr.aL g w 7 _) rfl rfl rfl
def wnV(x:Sx×Int):S2:=.agg #[ZV ⟨x.1.toArray⟩,Wm eQ x.2]
def nflat:∀(l:List (Sx×Int)) (j:Nat) (x:Sx×Int),l[j]? = Bs x->∀i,i<2->(l.flatMap EF)[j*2+i]? = (EF x)[i]?
 |[],j,p,h,i,a=>by simp at h
 |q::l,0,p,h,i,a=>by
  simp at h;subst h;rw[VH,VZ (by show _<2;omega)];simp
 |q::l,j+1,p,h,i,a=>by
  have d:l[j]? = Bs p:=Z6 h;have e:(j+1)*2+i=(j*2+i)+2:=by omega
  have c:(EF q).length=2:=rfl;rw[e,VH,Wg (by rw[c];omega),c,Xc];exact nflat l j p d i a
def nCells(w:D0)(g o:Nat)(x:Sx×Int):Prop:=w.cell? ⟨g,o,B0⟩=Bs (ZV ⟨x.1.toArray⟩)/\w.cell? ⟨g,o+1,B0⟩=Bs (Wm eQ x.2)
def nat{w:D0}{n:Nat}{A:Option Xo}{l:List (Sx×Int)}(h:Rd w B 2 A n (l.flatMap EF))(hl:l.length=n)(p:j<n):∃g off x,A=Bs ⟨g,off,B0⟩/\g<B/\l[j]? = Bs x/\nCells w g (off+j*2) x:=by obtain⟨g,off,e,f,d⟩:=h.2 Z0;have a:l[j]? = Bs l[j]:=K0 Z0;have c:=nflat l j _ a;exact⟨g,off,l[j],e,f,a,d (j*2) _ (c 0 Z0),d (j*2+1) _ (c 1 Z0)⟩
def Ey(F:Nat)(lb:Array S2)(p:Sx×Int->Bool)(g:Option Nat)(w:D0):Prop:=
 ∀(W:D0)(x:Sx×Int),Fr (λk=>g=Bs k) w W->VX Tryz.prog F (#[wnV x]++lb) W λe w'=>e=ZY (ZX (p x))/\VI W.heap.size W w'
def C9(p:Sx×Int->Bool)(L:List (Sx×Int)):Int:=match L.findIdx? p with|some i=>(i:Int)|none=>-1
def Tp(p:Sx×Int->Bool)(L:List (Sx×Int)):decide (0<=C9 p L)=L.any p:=by
 unfold C9;rcases h:L.findIdx? p with _|i;rw[Wp]at h;have:L.any p=L1:=by rw[Xw];intro x a;simp[h x a]
 rw[this];rfl;rw[VP]at h;obtain⟨hl,c,_⟩:=h;have:L.any p=VD:=by rw[X1];exact⟨L[i],Wy hl,c⟩
 rw[this];simp
def nIdx_lo(p:Sx×Int->Bool)(L:List (Sx×Int)):-1<=C9 p L/\C9 p L<=L.length:=by unfold C9;rcases h:L.findIdx? p with _|i;simp only;omega;rw[VP]at h;obtain⟨hl,a,_⟩:=h;simp only;omega
def nIRel(p:Sx×Int->Bool)(L:List (Sx×Int))(n:Nat)(w:D0)(v:S2)(wr:D0):Prop:=∃j:Nat,v=Wm eQ j/\j<=n/\(∀x∈L.take j,p x=L1)/\VI w.heap.size w wr
def nbfr{g:Option Nat}{w:D0}(a:VI w.heap.size w W):Fr (λk=>g=Bs k) w W:=⟨a.os,a.tape,a.output,a.size,λk c _=>a.block k c⟩
def q8p(F:Nat)(lb:Array S2)(p:Sx×Int->Bool)(S:Option Nat)(A:Option Xo)(n k:Nat)(L:List (Sx×Int))(w:D0)(eg:∀args w,(X4 F args).run Tryz.prog w=.ok (.enter F args) w)
  (d:Ey F lb p S w) (O:Rd w w.heap.size 2 A n (L.flatMap EF)) (hl:L.length=n) (hn:n<=100000) :
  VX Tryz.prog 84 #[WK A n k,.func (.func F) #[] lb] w λe w'=>e=ZY (Wm eQ (C9 p L))/\VI w.heap.size w w':=by
 have V:=LH O;clear O;have W:=LH d;clear d;go_enter Tryz.func84,Tryz.ntmps84;go_wp2_with fail;go_loopw [8] (nIRel p L n w) (λv _=>n-(intOf v).toNat)
 case atStart=>exact⟨0,rfl,VG _,(λx z=>by simp at z),VC _ _⟩
 obtain⟨j,rfl,hj,f,c⟩:=hrel;by_cases Q:(j:Int)<n
 ·obtain⟨U,Z,x,rfl,N,z,h0,h1⟩:=nat (V.o.below c) hl (j:=j) Z0;have R:U<wr.heap.size:=VF N c.size;have a:=W.o wr x (nbfr c);have I:j<L.length:=by omega
  have u:p x=VD->C9 p L=j:=λd=>by
   have:L.findIdx? p=Bs j:=by
    rw[VP];refine⟨I,?_,λi hi=>?_⟩;rw[<- Wn ((K0 I).symm.trans z)]at d;exact d;simp only[Yc];exact f _ (by rw[XF];exact⟨i,Z0,rfl⟩)
   unfold C9;rw[this]
  have q:p x=L1->∀y∈L.take (j+1),p y=L1:=λd y B=>by
   rw[VV,z]at B;obtain B|B:=XA.1 B;exact f y B;simp at B;rw[B];exact d
  have J:=LH u;clear u;have D:=LH q;clear q;have X:=LH f;clear f;have HX:=LH z;clear z;unfold wnV at a;rcases d:p x with _|_
  ·rw[d]at a;have E:=LH d;clear d;have M:=LH a;clear a;go_wp2_with fail;refine M.o.mono ?_;rintro e w2 ⟨rfl,s⟩;clear M;have G:=LH (c.trans (s.mono c.size));clear s;go_wp2_with fail;go_roundw
   case rel=>exact⟨j+1,rfl,Z0,D.o E.o,G.o⟩
   case measure=>simp[intOf];omega
  rw[d]at a;have E:=LH d;clear d;have M:=LH a;clear a;go_wp2_with fail;refine M.o.mono ?_;rintro e w2 ⟨rfl,s⟩;clear M;have G:=LH (c.trans (s.mono c.size));clear s;go_wp2_with fail;go_ret;exact⟨by rw[J.o E.o];rfl,G.o⟩
 obtain rfl:j=n:=by omega
 have r:C9 p L = -1:=by
  have:L.findIdx? p=B0:=by
   rw[Wp];intro x z;exact f x (by rw[VS Z0];exact z)
  unfold C9;rw[this]
 have Y:=LH r;clear r f;go_wp2_with fail;go_ret;rw[Y.o];exact⟨rfl,c⟩
def q7u(F:Nat)(lb:Array S2)(p:Sx×Int->Bool)(s:Option Nat)(A:Option Xo)(n k:Nat)(L:List (Sx×Int))(w:D0)(B:∀args w,(X4 F args).run Tryz.prog w=.ok (.enter F args) w)
  (q:Ey F lb p s w) (f:Rd w w.heap.size 2 A n (L.flatMap EF)) (hl:L.length=n) (u:n<=100000) :
  VX Tryz.prog 62 #[WK A n k,.func (.func F) #[] lb] w λe w'=>e=ZY (ZX (L.any p))/\VI w.heap.size w w':=by
 have a:=q8p F lb p s A n k L w B q f hl u;have r:=Tp p L;have d:=LH a;clear a q f;have D:=LH r;clear r;have y:=nIdx_lo p L;generalize C9 p L=z at *;go_enter Tryz.func62,Tryz.ntmps62;go_wp2_with fail;refine d.o.mono ?_;rintro e w2 ⟨rfl,c⟩;go_wp2_with fail;go_ret;rw[<- D.o];exact⟨rfl,c⟩
def OE(w:D0)(g o:Nat)(x:Sx×Int):D0:=(w.setCell ⟨g,o,B0⟩ (ZV ⟨x.1.toArray⟩)).setCell ⟨g,o+1,B0⟩ (Wm eQ x.2)
def Ti(w:D0)(g o:Nat)(x:Sx×Int):Fr (λi=>i=g) w (OE w g o x):=
 ((Fr.refl (λi=>i=g) w).setCell (p:=⟨g,o,B0⟩) (.inl rfl) _).setCell (p:=⟨g,o+1,B0⟩) (.inl rfl) _
def nset:∀(M:List (Sx×Int)) (i:Nat) (x:Sx×Int),i<M.length->(((M.flatMap EF).set (i*2) (ZV ⟨x.1.toArray⟩)).set (i*2+1) (Wm eQ x.2))=(M.set i x).flatMap EF
 |[],i,x,h=>by simp at h
 |y::M,0,x,_=>by simp[EF]
 |y::M,i+1,x,h=>by
  have a:=nset M i x (Z6 h);have c:(i+1)*2=i*2+2:=by omega
  rw[c,XY,VH,VH,<- a];simp[EF,Zh]
def Qn{w:D0}{base g n cap:Nat}{M:List (Sx×Int)}(h:w.ownsRow base 129 2 (WK (Bs ⟨g,0,B0⟩) n cap) n (M.flatMap EF))(x:Sx×Int)(a:i<M.length) :
  (OE w g (i*2) x).ownsRow base 129 2 (WK (Bs ⟨g,0,B0⟩) n cap) n ((M.set i x).flatMap EF):=by
 rw[<- nset M i x a];exact((h.stored _ _).1.stored _ _).1
def ntake'(L:List (Sx×Int))(i:Nat):(L.flatMap EF).take (i*2)=(L.take i).flatMap EF:=by
 induction L generalizing i with
 |nil=>simp
 |cons x L a=>
  cases i with
  |zero=>simp
  |succ i=>rw[show(i+1)*2=i*2+2 by omega,VH,WZ,VH,<- a];simp[EF]
def CA(p:Sx×Int->Bool)(L:List (Sx×Int)):List (Sx×Int):=L.filter λx=>!p x
def OF(base a n cap:Nat)(p:Sx×Int->Bool)(L:List (Sx×Int))(w:D0)(u v:S2)(wr:D0):Prop:=
 ∃(i j:Nat) (M:List (Sx×Int)),u=Wm eQ i/\v=Wm eQ j/\i<j/\j<=n/\M.length=n/\M.take i=CA p (L.take j)/\M.drop j=L.drop j/\wr.ownsRow base 129 2 (WK (Bs ⟨a,0,B0⟩) n cap) n (M.flatMap EF)/\Fr (λk=>Bs a=Bs k) w wr
def E0(base a cap:Nat)(n:Nat)(l:List (Sx×Int))(w:D0)(e:WE)(w':D0):Prop:=
 e=ZY (WK (Bs ⟨a,0,B0⟩) l.length cap)/\w'.ownsRow base 129 2 (WK (Bs ⟨a,0,B0⟩) l.length cap) l.length (l.flatMap EF)/\Fr (λk=>Bs a=Bs k) w w'/\l.length<=n
def qas{L:List (Sx×Int)}{x:Sx×Int}(h:L[j]? = Bs x):CA p (L.take (j+1))=if p x then CA p (L.take j)else CA p (L.take j)++[x]:=by unfold CA;rw[VV,h,XZ];rcases a:p x with _|_<;>simp[a]
def MV{L:List (Sx×Int)}(h:C9 p L=i):i<L.length/\L.take i=CA p (L.take (i+1)):=by
 unfold C9 at h;rcases a:L.findIdx? p with _|j;rw[a]at h;simp only at h;omega;rw[a]at h;have e:j=i:=by have r:(j:Int)=i:=h;omega
 subst e;rw[VP]at a;obtain⟨hl,f,d⟩:=a;refine⟨hl,?_⟩;rw[qas (K0 hl),Z8 f];unfold CA;rw[ZN.2];intro x c;obtain⟨k,q,rfl⟩:=XF.1 c;have:=d k Z0;simpa using this
def Th{L:List (Sx×Int)}(h:C9 p L = -1):CA p L=L:=by unfold C9 at h;rcases a:L.findIdx? p with _|j;unfold CA;rw[ZN.2];intro x c;rw[Wp]at a;have:=a x c;simpa using this;rw[a]at h;simp only at h;omega
def MY(p:Sx×Int->Bool)(L:List (Sx×Int)):C9 p L = -1\/∃i:Nat,C9 p L=i:=by unfold C9;split;exact eS ⟨_,rfl⟩;exact eR rfl
def nzero(w:D0):(Yh 129).run Tryz.prog w=.ok (.agg #[ZV ⟨#[]⟩,Wm eQ 0]) w:=by kernel_rfl
def Tl:Tryz.prog.elem 76=129:=by kernel_rfl
def nsize(w:D0):(sizeOf 129).run Tryz.prog w=.ok 2 w:=by kernel_rfl
def nund:Tryz.prog.underlying 76=Bs (.slice 129):=Tryz.underlying76
def nfrB{w:D0}(h:VI B w w'):Fr (λk=>B<=k) w w':=⟨h.os,h.tape,h.output,h.size,λk _ a=>h.block k Z0⟩
def Ix(F:Nat)(lb:Array S2)(p:Sx×Int->Bool)(base q n cap:Nat)(L:List (Sx×Int))(w:D0)(eg:∀args w,(X4 F args).run Tryz.prog w=.ok (.enter F args) w)(O:Ey F lb p (Bs q) w)
  (d:w.ownsRow base 129 2 (WK (Bs ⟨q,0,B0⟩) n cap) n (L.flatMap EF)) (hl:L.length=n) (hn:n<=100000) :
  VX Tryz.prog 98 #[WK (Bs ⟨q,0,B0⟩) n cap,.func (.func F) #[] lb] w (E0 base q cap n (CA p L) w):=by
 have a6:=q8p F lb p (Bs q) (Bs ⟨q,0,B0⟩) n cap L w eg O (Rd.a7 d) hl hn;have U:=LH a6;clear a6;have Y:=LH d;clear d;have ah:=LH O;clear O;have HL:=LH hl;clear hl;obtain hf|⟨i0,hf⟩:=MY p L
 ·rw[hf]at U;go_enter Tryz.func98,Tryz.ntmps98;go_wp2_with fail;refine U.o.mono ?_;rintro e w1 ⟨rfl,B⟩;have r:E0 base q cap n (CA p L) w (ZY (WK (Bs ⟨q,0,B0⟩) n cap)) w1:=by
   rw[Th hf];unfold E0;rw[HL.o];exact⟨rfl,Jc Y.o B,nbfr B,Hi _⟩
  have N:=LH r;clear r;go_wp2_with fail;go_ret;exact N.o
 rw[hf]at U;obtain⟨a7,a5⟩:=MV hf;have a7:i0<n:=Z4 HL.o;have a3:((i0:Int) == -1)=L1:=by rw[beq_eq_false_iff_ne];omega
 go_enter Tryz.func98,Tryz.ntmps98;go_wp2_with fail;refine U.o.mono ?_;rintro e w1 ⟨rfl,B⟩;have z:OF base q n cap p L w (Wm eQ i0) (Wm eQ ((i0:Int)+1)) w1:=⟨i0,i0+1,L,rfl,rfl,Z0,Z0,HL.o,a5,rfl,Jc Y.o B,nbfr B⟩
 have af:=LH z;clear z;clear hf a5;go_wp2_with fail;clear a3 a7 B;go_loopw [5,6] (OF base q n cap p L w) (λ_ v _=>n-(intOf v).toNat)
 case atStart=>exact af.o
 obtain⟨i,j,M,rfl,rfl,ak,hj,hM,D,R,d,I⟩:=hrel;by_cases aj:(j:Int)<n
 ·have hx:M[j]? = L[j]?:=by
   have:=congrArg (λl=>l[0]?) R;simpa using this
  obtain⟨g',o',x,hA,am,a1,h0,h1⟩:=nat (Rd.a7 d) hM (j:=j) Z0;simp only[VN,Xe,and_true]at hA;obtain⟨rfl,rfl⟩:=hA;rw[Wk]at h0 h1;have a2:L[j]? = Bs x:=hx▸a1;have Q:Fr (λ_=>False) wr (wr.alloc (eT #[ZV ⟨x.1.toArray⟩,Wm eQ x.2] 129)):=(Fr.refl _ _).alloc _;have u:=ah.o (wr.alloc (eT #[ZV ⟨x.1.toArray⟩,Wm eQ x.2] 129)) x (I.trans' Q (λ_ _ h=>h.elim));unfold wnV at u;have a8:Ae (wr.alloc (eT #[ZV ⟨x.1.toArray⟩,Wm eQ x.2] 129)) wr.heap.size 129 #[ZV ⟨x.1.toArray⟩,Wm eQ x.2]:=Ae.b4 wr _ _;have E:=Q.own d (λ_ _ h=>h);have HC:=LH u;clear u;have ae:=LH a8;clear a8;have ag:=LH E;clear E;have ac:=LH (I.trans' Q (λ_ _ h=>h.elim));clear I Q;have aa:=LH D;clear D;have ab:=LH R;clear R;have a9:=LH a2;clear a2 hx a1;have HM:=LH hM;clear hM;go_wp2_with fail;refine HC.o.mono ?_;rintro e w2 ⟨rfl,a0⟩;have J:Fr (λk=>Bs q=Bs k) w w2:=ac.o.trans' (nfrB a0) (λi hi (h:_<=i)=>by have:=ac.o.size;simp at h this;omega);have a:=Jc ag.o a0;have S:Ae w2 wr.heap.size 129 #[ZV ⟨x.1.toArray⟩,Wm eQ x.2]:=ae.o.below a0 ae.o.lt;have ad:=LH J;clear J;rcases O:p x with _|_
  ·have s:=qas (p:=p) a9.o;rw[O,Z7 Z3]at s;have Z:i<M.length:=by rw[HM.o];omega
   have q0:=S.cell 0;have q1:=S.cell 1;simp only[NW,O0,Ft]at q0 q1;obtain⟨g',o',y,hA,_,_,p0,p1⟩:=nat (Rd.a7 a) HM.o (j:=i) Z0;simp only[VN,Xe,and_true]at hA;obtain⟨rfl,rfl⟩:=hA;rw[Wk]at p0 p1;have f0:=a.frozenAt (i*2);have f1:=a.frozenAt (i*2+1);have al:q<w2.heap.size:=(a.lt q rfl).2;have V:=Qn a x Z;have f:OF base q n cap p L w (Wm eQ ((i:Int)+1)) (Wm eQ ((j:Int)+1)) (OE w2 q (i*2) x):=by
    refine⟨i+1,j+1,M.set i x,rfl,rfl,Z0,Z0,by rw[XU];exact HM.o,?_,?_,V,ad.o.trans ((Ti w2 q (i*2) x).mono (λi _ (e:i=q)=>by rw[e]))⟩;rw[s,<- aa.o,VV,List.take_set,YK Z,Ze (by rw[WD];omega)];simp;rw[List.drop_set_of_lt Z0,<- Xp,ab.o,Xp]
   have A:=LH f;clear f V s Z;have HP:=LH O;clear O;have ao:=LH a;clear a;clear S h0 h1;unfold OE at A;go_wp2_with fail;go_roundw;exact A.o;simp[intOf];omega
  have s:=qas (p:=p) a9.o;rw[O,Z8 rfl]at s;have f:OF base q n cap p L w (Wm eQ i) (Wm eQ ((j:Int)+1)) w2:=
   ⟨i,j+1,M,rfl,rfl,Z0,Z0,HM.o,by rw[aa.o,s],by rw[<- Xp,ab.o,Xp],a,ad.o⟩
  have A:=LH f;clear f s a;have HP:=LH O;clear O S h0 h1;go_wp2_with fail;go_roundw;exact A.o;simp[intOf];omega
 obtain rfl:j=n:=by omega
 have ai:=(q3w d).1;have X:L.take j=L:=VS (Z4 HL.o);rw[X]at D;have a4:(CA p L).length=i:=by rw[<- D,WD];omega
 have G:=q5f d (i:=i) Z0;rw[ntake',D]at G;obtain⟨w2,an,a,J⟩:=q5v 76 (.agg #[ZV ⟨#[]⟩,Wm eQ 0]) nund nzero (by rfl) Z2 G (m:=j-i) (c:=cap-i) Z0;have s1:=q5u (size:=2) 76 (by rw[Tl];exact nund) (λW=>by rw[Tl];exact nsize W) wr q j cap i (i:Int) rfl Z0;have s2:=q47 76 nund Tl nsize w2 q j cap i (i:Int) rfl Z0;have r:E0 base q cap j (CA p L) w (ZY (WK (Bs ⟨q,0,B0⟩) i cap)) w2:=by
  unfold E0;rw[a4];exact⟨rfl,a,I.trans (J.mono (λi _ (e:i=q)=>by rw[e])),Z0⟩
 have N:=LH r;clear r a J G d D R hM I a4 X;go_wp2_with fail;go_ret;exact N.o
def Km(F:Nat)(lb:Array S2)(p:Sx×Int->Bool)(w:D0)(q:∀args w,(X4 F args).run Tryz.prog w=.ok (.enter F args) w)(f:Ey F lb p B0 w) :
  VX Tryz.prog 98 #[WK B0 0 0,.func (.func F) #[] lb] w λe w'=>e=ZY (WK B0 0 0)/\VI w.heap.size w w':=by
 have a:=q8p F lb p B0 B0 0 0 [] w q f (Rd.bo _ _ _ _) rfl Z0;rw[show C9 p [] = -1 from rfl]at a;have d:=LH a;clear a;go_enter Tryz.func98,Tryz.ntmps98;go_wp2_with fail;refine d.o.mono ?_;rintro e s ⟨rfl,c⟩;have r:=LH c;clear c;go_wp2_with fail;go_ret;exact⟨rfl,r.o⟩
def Kn(F:Nat)(lb:Array S2)(p:Sx×Int->Bool)(base n:Nat)(V:S2)(L:List (Sx×Int))(w:D0)(q:∀args w,(X4 F args).run Tryz.prog w=.ok (.enter F args) w)(f:Ey F lb p V.ownBlock w)
  (a:w.ownsRow base 129 2 V n (L.flatMap EF)) (hl:L.length=n) (s:n<=100000) :
  VX Tryz.prog 98 #[V,.func (.func F) #[] lb] w λe w'=>
   ∃A c,e=ZY (WK A (CA p L).length c)/\w'.ownsRow base 129 2 (WK A (CA p L).length c) (CA p L).length ((CA p L).flatMap EF)/\Fr (λk=>V.ownBlock=Bs k) w w'/\(WK A (CA p L).length c).ownBlock=V.ownBlock:=by
 obtain⟨rfl,z⟩|⟨g,cap,y,rfl,_⟩:=a.2
 ·have e:L=[]:=We Z0;subst e;refine(Km F lb p w q f).mono ?_;rintro e w' ⟨rfl,d⟩;exact⟨B0,0,rfl,VW _ _ _ _,nbfr d,rfl⟩
 refine(Ix F lb p base g n cap L w q f a hl s).mono ?_;rintro e w' ⟨rfl,r,u,_⟩;exact⟨Bs ⟨g,0,B0⟩,cap,rfl,r,u.mono (λi _ h=>h),rfl⟩
def crV(x:BI):S2:=.agg #[Wm eQ x.c.aj,Wm eQ x.c.tx,Wm eQ x.c.ah,WK x.A x.n x.k]
def mflat:∀(l:List (BI)) (j:Nat) (x:BI),l[j]? = Bs x->∀i,i<4->(l.flatMap El)[j*4+i]? = (El x)[i]?
 |[],j,p,h,i,a=>by simp at h
 |q::l,0,p,h,i,a=>by
  simp at h;subst h;rw[VH,VZ (by show _<4;omega)];simp
 |q::l,j+1,p,h,i,a=>by
  have d:l[j]? = Bs p:=Z6 h;have e:(j+1)*4+i=(j*4+i)+4:=by omega
  have c:(El q).length=4:=rfl;rw[e,VH,Wg (by rw[c];omega),c,Xc];exact mflat l j p d i a
def mCells(w:D0)(g o:Nat)(x:BI):Prop:=w.cell? ⟨g,o,B0⟩=Bs (Wm eQ x.c.aj)/\w.cell? ⟨g,o+1,B0⟩=Bs (Wm eQ x.c.tx)/\w.cell? ⟨g,o+2,B0⟩=Bs (Wm eQ x.c.ah)/\w.cell? ⟨g,o+3,B0⟩=Bs (WK x.A x.n x.k)
def mat{w:D0}{n:Nat}{A:Option Xo}{l:List (BI)}(h:Rd w B 4 A n (l.flatMap El))(hl:l.length=n)(p:j<n):∃g off x,A=Bs ⟨g,off,B0⟩/\g<B/\l[j]? = Bs x/\mCells w g (off+j*4) x:=by obtain⟨g,off,e,f,c⟩:=h.2 Z0;have d:l[j]? = Bs l[j]:=K0 Z0;have a:=mflat l j _ d;exact⟨g,off,l[j],e,f,d,c (j*4) _ (a 0 Z0),c (j*4+1) _ (a 1 Z0),c (j*4+2) _ (a 2 Z0),c (j*4+3) _ (a 3 Z0)⟩
def mPred(F:Nat)(lb:Array S2)(p:BI->Bool)(g:Option Nat)(w:D0):Prop:=
 ∀(W:D0)(x:BI),Fr (λk=>g=Bs k) w W->VX Tryz.prog F (#[crV x]++lb) W λe w'=>e=ZY (ZX (p x))/\VI W.heap.size W w'
def M8(p:BI->Bool)(L:List (BI)):Int:=match L.findIdx? p with|some i=>(i:Int)|none=>-1
def mIRel(p:BI->Bool)(L:List (BI))(n:Nat)(w:D0)(v:S2)(wr:D0):Prop:=∃j:Nat,v=Wm eQ j/\j<=n/\(∀x∈L.take j,p x=L1)/\VI w.heap.size w wr
def mbfr{g:Option Nat}{w:D0}(a:VI w.heap.size w W):Fr (λk=>g=Bs k) w W:=⟨a.os,a.tape,a.output,a.size,λk c _=>a.block k c⟩
def M3(F:Nat)(lb:Array S2)(p:BI->Bool)(S:Option Nat)(A:Option Xo)(n k:Nat)(L:List (BI))(w:D0)(eg:∀args w,(X4 F args).run Tryz.prog w=.ok (.enter F args) w)
  (d:mPred F lb p S w) (O:Rd w w.heap.size 4 A n (L.flatMap El)) (hl:L.length=n) (hn:n<=100000) :
  VX Tryz.prog 118 #[WK A n k,.func (.func F) #[] lb] w λe w'=>e=ZY (Wm eQ (M8 p L))/\VI w.heap.size w w':=by
 have V:=LH O;clear O;have W:=LH d;clear d;go_enter Tryz.func118,Tryz.ntmps118;go_wp2_with fail;go_loopw [8] (mIRel p L n w) (λv _=>n-(intOf v).toNat)
 case atStart=>exact⟨0,rfl,VG _,(λx z=>by simp at z),VC _ _⟩
 obtain⟨j,rfl,hj,f,c⟩:=hrel;by_cases Q:(j:Int)<n
 ·obtain⟨U,Z,x,rfl,N,z,h0,h1,h2,h3⟩:=mat (V.o.below c) hl (j:=j) Z0;have R:U<wr.heap.size:=VF N c.size;have a:=W.o wr x (mbfr c);have I:j<L.length:=by omega
  have u:p x=VD->M8 p L=j:=λd=>by
   have:L.findIdx? p=Bs j:=by
    rw[VP];refine⟨I,?_,λi hi=>?_⟩;rw[<- Wn ((K0 I).symm.trans z)]at d;exact d;simp only[Yc];exact f _ (by rw[XF];exact⟨i,Z0,rfl⟩)
   unfold M8;rw[this]
  have q:p x=L1->∀y∈L.take (j+1),p y=L1:=λd y B=>by
   rw[VV,z]at B;obtain B|B:=XA.1 B;exact f y B;simp at B;rw[B];exact d
  have J:=LH u;clear u;have D:=LH q;clear q;have X:=LH f;clear f;have HX:=LH z;clear z;unfold crV at a;rcases d:p x with _|_
  ·rw[d]at a;have E:=LH d;clear d;have M:=LH a;clear a;go_wp2_with fail;refine M.o.mono ?_;rintro e w2 ⟨rfl,s⟩;clear M;have G:=LH (c.trans (s.mono c.size));clear s;go_wp2_with fail;go_roundw
   case rel=>exact⟨j+1,rfl,Z0,D.o E.o,G.o⟩
   case measure=>simp[intOf];omega
  rw[d]at a;have E:=LH d;clear d;have M:=LH a;clear a;go_wp2_with fail;refine M.o.mono ?_;rintro e w2 ⟨rfl,s⟩;clear M;have G:=LH (c.trans (s.mono c.size));clear s;go_wp2_with fail;go_ret;exact⟨by rw[J.o E.o];rfl,G.o⟩
 obtain rfl:j=n:=by omega
 have r:M8 p L = -1:=by
  have:L.findIdx? p=B0:=by
   rw[Wp];intro x z;exact f x (by rw[VS Z0];exact z)
  unfold M8;rw[this]
 have Y:=LH r;clear r f;go_wp2_with fail;go_ret;rw[Y.o];exact⟨rfl,c⟩
def qam(l:List Cm)(kind id:Int):Int:=match place l kind id with|some i=>(i:Int)|none=>-1
def qbd{α β:Type}(f:α->β)(p:β->Bool):∀L:List α,(L.map f).findIdx? p=L.findIdx? λx=>p (f x)
 |[]=>rfl
 |x::L=>by rw[WJ,List.findIdx?_cons,List.findIdx?_cons,qbd f p L]
def M7(L:List BI)(kind id:Int):M8 (λx=>KL kind id x.c) L=qam (AQ L) kind id:=by
 unfold M8 qam place AQ;rw[qbd]
 all_goals (cases List.findIdx? (λx:BI=>KL kind id x.c) L<;>rfl)
def MS(q f:Nat)(kind id:Int)(g:Option Nat)(w:D0)(y:w.cell? ⟨q,0,B0⟩=Bs (Wm eQ kind))(u:w.cell? ⟨f,0,B0⟩=Bs (Wm eQ id))(s:g≠Bs q/\g≠Bs f) :
  mPred 119 #[ZW (Bs ⟨q,0,B0⟩),ZW (Bs ⟨f,0,B0⟩)] (λx=>KL kind id x.c) g w:=by
 intro W x d;have c:=V5 w _ y;have a:=V5 w _ u;have E:=(d.cell (p:=⟨q,0,B0⟩) c (λe=>s.1 e)).trans y;have D:=(d.cell (p:=⟨f,0,B0⟩) a (λe=>s.2 e)).trans u;have B:q<W.heap.size:=VF c d.size;have A:f<W.heap.size:=VF a d.size;have r:=LH (λo=>(VC W.heap.size W).alloc (Hi _) o);clear y u c a d s;unfold crV KL;by_cases e1:x.c.aj=kind
 ·have z:(x.c.aj == kind)=VD:=Z6 e1;show VX _ _ #[_,_,_] _ λe w'=>e=ZY (ZX (x.c.aj == kind && x.c.tx == id))/\VI W.heap.size W w'
  rw[z,YQ];clear e1;go_enter Tryz.func119,Tryz.ntmps119;go_wp2_with fail;go_ret;exact⟨rfl,r.o _⟩
 have z:(x.c.aj == kind)=L1:=Z6 e1;show VX _ _ #[_,_,_] _ λe w'=>e=ZY (ZX (x.c.aj == kind && x.c.tx == id))/\VI W.heap.size W w'
 rw[z,Bool.false_and];clear e1;go_enter Tryz.func119,Tryz.ntmps119;go_wp2_with fail;go_ret;exact⟨rfl,r.o _⟩
def q7s(base n:Nat)(V:S2)(L:List BI)(kind id:Int)(w:D0)(d:w.ownsRow base 69 4 V n (L.flatMap El))(hl:L.length=n)(z:n<=100000) :
  VX Tryz.prog 93 #[V,Wm eQ kind,Wm eQ id] w λe w'=>e=ZY (Wm eQ (qam (AQ L) kind id))/\VI w.heap.size w w':=by
 have p:VI w.heap.size w ((w.alloc (eT #[Wm eQ kind] 3)).alloc (eT #[Wm eQ id] 3)):=((VC _ _).alloc (Hi _) _).alloc Z3 _;have q1:((w.alloc (eT #[Wm eQ kind] 3)).alloc (eT #[Wm eQ id] 3)).cell? ⟨w.heap.size,0,B0⟩=Bs (Wm eQ kind):=(((Ae.b4 w 3 #[Wm eQ kind]).alloc _).cell 0)
 have s:((w.alloc (eT #[Wm eQ kind] 3)).alloc (eT #[Wm eQ id] 3)).cell? ⟨w.heap.size+1,0,B0⟩=Bs (Wm eQ id):=by
  have:=(Ae.b4 (w.alloc (eT #[Wm eQ kind] 3)) 3 #[Wm eQ id]).cell 0;simpa using this
 have a:=Jc d p;obtain⟨A,c,rfl,_,B⟩:=AM d;have f:=M3 119 #[ZW (Bs ⟨w.heap.size,0,B0⟩),ZW (Bs ⟨w.heap.size+1,0,B0⟩)] (λx=>KL kind id x.c) B0 A n c L _ (Rz Tryz.func119 Z1 rfl) (MS w.heap.size (w.heap.size+1) kind id B0 _ q1 s ⟨Z3,Z3⟩) (Rd.a7 a) hl z;rw[M7]at f;have q:=LH f;clear f;have y:=LH p;clear p;clear q1 s d a B;go_enter Tryz.func93,Tryz.ntmps93;go_wp2_with fail;refine q.o.mono ?_;rintro e w2 ⟨rfl,u⟩;have r:=LH (y.o.trans (u.mono y.o.size));clear u;go_wp2_with fail;go_ret;exact⟨rfl,r.o⟩
def CL.cells{g:Nat}{v:LW}{t:Bu}(h:CL w own i g v t):w.cell? ⟨g,0,B0⟩=Bs (Wm eQ i)/\w.cell? ⟨g,1,B0⟩=Bs (Wm eQ t.aa)/\w.cell? ⟨g,2,B0⟩=Bs v.Vw/\w.cell? ⟨g,3,B0⟩=Bs (.map (Bs v.bs))/\w.cell? ⟨g,4,B0⟩=Bs (.map (Bs v.bp))/\w.cell? ⟨g,5,B0⟩=Bs (Wm eQ t.ah)/\w.cell? ⟨g,8,B0⟩=Bs v.Vx/\g<w.heap.size:=by have r:=h.al.cell 0;have q:=h.al.cell 1;have p:=h.al.cell 2;have f:=h.al.cell 3;have d:=h.al.cell 4;have c:=h.al.cell 5;have a:=h.al.cell 8;unfold P8 at r q p f d c a;simp only[NW,Ft,O0]at r q p f d c a;exact⟨r,q,p,f,d,c,a,h.al.lt⟩
def Er.cells{n g:Nat}{v:Pa}{x:Bv}(h:Er w own n s g gn v x):w.cell? ⟨g,0,B0⟩=Bs v.Vn/\w.cell? ⟨g,1,B0⟩=Bs (.map (Bs v.bd))/\w.cell? ⟨g,2,B0⟩=Bs (Wm eQ x.ad)/\w.cell? ⟨g,3,B0⟩=Bs (Wm eQ x.size)/\w.cell? ⟨g,7,B0⟩=Bs (Wm eQ x.done)/\g<w.heap.size:=by have p:=h.tab.al.cell 0;have f:=h.tab.al.cell 1;have d:=h.tab.al.cell 2;have c:=h.tab.al.cell 3;have a:=h.tab.al.cell 7;unfold Gt at p f d c a;simp only[NW,Ft,O0]at p f d c a;exact⟨p,f,d,c,a,h.tab.al.lt⟩
def stateH(H:Hs)(id:Int):H.aa id=if id<1\/H.m<id then 0 else(H.tx id.toNat).aa:=rfl
def q45(h:HI w own P H)(d:H.m<=1000)(id:Int):VX Tryz.prog 11 #[pw P.g,Wm eQ id] w λe w'=>e=ZY (Wm eQ (H.aa id))/\w=w':=by
 have a:=LH (q5k h d id);unfold Ez at a;rw[stateH];by_cases b:id<1\/(H.m:Int)<id
 ·rw[Z8 b]at a ⊢;clear h b;unfold pw at *;go_enter Tryz.func11,Tryz.ntmps11;go_wp2_with fail;refine a.o.mono ?_;rintro e w2 ⟨rfl,rfl⟩;go_wp2_with fail;go_ret;exact⟨rfl,rfl⟩
 rw[Z7 b]at a ⊢;obtain⟨v,c⟩:=h.tx id.toNat Z0 Z0;obtain⟨_,p,_,_,_,_,_,f⟩:=c.cells;clear h b c;unfold pw at *;go_enter Tryz.func11,Tryz.ntmps11;go_wp2_with fail;refine a.o.mono ?_;rintro e w2 ⟨rfl,rfl⟩;go_wp2_with fail;go_ret;exact⟨rfl,rfl⟩
def q82(h:HI w own P H):VX Tryz.prog 27 #[pw P.g] w λe w'=>e=ZY (Wm eQ H.net.l.length)/\w=w':=by
 obtain⟨v,h⟩:=h.hs;have a:=LH (Ku _ _ _ _ _ _ _ _ _ _ _ _ h.nt);have hl:H.net.l.length=v.L.length:=by rw[<- h.cb];simp[AI]
 rw[hl];have c:=h.nt.al.lt;clear h hl;unfold pw;go_enter Tryz.func27,Tryz.ntmps27;go_wp2_with fail;refine a.o.mono ?_;rintro e w2 ⟨rfl,rfl⟩;go_wp2_with fail;go_ret;exact⟨rfl,rfl⟩
def Kb:(Tryz.prog.info? 108).map (λi=>(i.zero,i.size,i.bytes))=Bs (Bs (ZW B0),1,8):=by kernel_rfl
def DN(P:Av)(n s:Nat)(x:Bv)(w:D0)(e:WE)(w':D0):Prop:=∃V,e=ZY V/\w'.ownsRow w.heap.size 108 1 V (x.ai n).length ((x.ai n).map λj=>pw (P.gn s j))/\VI w.heap.size w w'
def Uz(P:Av)(n s:Nat)(x:Bv)(w:D0)(c a:S2)(wr:D0):Prop:=∃i:Nat,a=Wm eQ i/\i<=n/\wr.ownsRow w.heap.size 108 1 c (x.ai i).length ((x.ai i).map λj=>pw (P.gn s j))/\VI w.heap.size w wr
def KB(x:Bv)(i:Nat):x.ai (i+1)=if x.aq (x.nd i).id then x.ai i else x.ai i++[i]:=by unfold Bv.ai;rw[List.range_succ,XZ];cases h:x.aq (x.nd i).id<;>simp[h]
def q2n(x:Bv)(i:Nat):(x.ai i).length<=i:=by unfold Bv.ai;exact VK (WC _ _) Z3
def KA(h:HI w own P H)(hs:s<H.c)(hn:H.n<=100)(S:∀j,j<H.n->FB ((H.sh s).nd j).id) :
  VX Tryz.prog 43 #[pw (P.gs s)] w (DN P H.n s (H.sh s) w):=by
 obtain⟨v,O⟩:=h.sh s hs;obtain⟨c0,_,_,_,_,gl⟩:=O.cells;obtain⟨A,c,hV,_,_⟩:=AM O.row;rw[hV]at c0;have HR:=LH (Rd.a7 (hV▸O.row));clear hV;have HH:=LH h;have a0:=LH O;have a1:=LH S;clear h O S;unfold pw at *;go_enter Tryz.func43,Tryz.ntmps43;go_wp2_with fail;go_loopw [3,11] (Uz P H.n s (H.sh s) w) (λ_ u _=>H.n-(intOf u).toNat)
 case atStart=>exact⟨0,rfl,VG _,VW _ _ _ _,VC _ _⟩
 obtain⟨i,rfl,hi,d,p⟩:=hrel;by_cases a4:(i:Int)<H.n
 ·have y:i<H.n:=by omega
  obtain⟨r,o,u,hA,hr,X,hc⟩:=(HR.o.below p).dg (k:=i) y;rw[VQ,List.getElem?_range y]at X;simp only[WA,VN]at X;subst X hA;have a3:r<wr.heap.size:=VF hr p.size;have I:=HH.o.below p;obtain⟨C,V,L,hN,_⟩:=I.nd s i hs y;have HQ:=LH (λq=>(Np (hN.aW (CI (VC wr.heap.size wr) q))).mono λe w' (h:e=_/\wr.drewN q=w')=>(⟨h.1,h.2.symm⟩:e=ZY (Wm eQ ((H.sh s).nd i).id)/\w'=wr.drewN q));have k1:=I.sh s hs;have E:=a0.o.bw (q6t own p) (Ext.refl own w.heap.size) (λ_ _ h=>h);obtain⟨_,k1,_,_,_,a5⟩:=E.cells;have Z:=λq=>(show Bz (wr.drewN q) 100 (Bs v.bd) (H.sh s).aq from E.dd).cn (a1.o i y)
  have f:=KB (H.sh s) i;have Y:=q2n (H.sh s) i;have HB:=LH p;clear p;have HO:=LH d;clear d;have z:=LH f;clear f;clear I E hN;go_upto_region 5 with (fail)
  go_quiet ((go_at_call 74;exact Calls.quiet_of_same (HQ.o _)));generalize N:wr.drewN _=w5;have G:VI wr.heap.size wr w5:=N▸CI (VC _ _) _;have U:=Jc HO.o G;have W:=HB.o.trans (G.mono HB.o.size);have M:=LH U;clear U;have B:=LH W;clear W G N Z k1 HQ HO HB;rcases hd:(H.sh s).aq ((H.sh s).nd i).id with _|_
  ·rw[hd]at z;have a2:=Y;go_wp2_with (at_builtin;refine stop ?_)
   refine CD ?_;refine Oq w5 _ rfl (.tmp 23) (.tmp 25) 97 rfl w.heap.size 108 (ZW B0) 1 8 Tryz.underlying97 Kb rfl Z2 _ _ _ #[ZW (Bs ⟨P.gn s i,0,B0⟩)] rfl M.o 1 rfl _ rfl rfl (by simp[Wx]) Zx Z0 B.o.size ?_;intro v' w9 Q R;have a:Uz P H.n s (H.sh s) w v' (Wm eQ ((i+1:Nat):Int)) w9:=by
    refine⟨i+1,rfl,Z0,?_,B.o.trans (R.below (λb p=>(M.o.lt b p).1) B.o.size)⟩;rw[z.o,Z7 Z3,VJ,WQ];exact Q
   have J:=LH a;clear a Q R;go_wp2_with fail;go_roundw;exact J.o;simp[intOf];omega
  rw[hd]at z;have a:Uz P H.n s (H.sh s) w u3 (Wm eQ ((i+1:Nat):Int)) w5:=by
   refine⟨i+1,rfl,Z0,?_,B.o⟩;rw[z.o,Z8 rfl];exact M.o
  have J:=LH a;clear a;go_wp2_with fail;go_roundw;exact J.o;simp[intOf];omega
 obtain rfl:i=H.n:=by omega
 have D:DN P H.n s (H.sh s) w (ZY u3) wr:=⟨u3,rfl,d,p⟩
 have HF:=LH D;clear D d p;go_wp2_with fail;go_ret;exact HF.o
def Dw(P:Av)(s:Nat):Option Nat->S2|none=>ZW B0|some j=>pw (P.gn s j)
def Ff(P:Av)(H:Hs)(s:Nat)(w:D0)(e:WE)(w':D0):Prop:=e=ZY (Dw P s (H.head s))/\VI w.heap.size w w'
def ShRel(l:List Nat)(p:Nat->Bool)(a:D0)(v:S2)(wr:D0):Prop:=∃i:Nat,v=Wm eQ i/\i<=l.length/\l.find? p=(l.drop i).find? p/\wr=a
def Q0{l:List Nat}{p:Nat->Bool}(a:l[i]? = Bs j):(l.drop i).find? p=if p j then Bs j else(l.drop (i+1)).find? p:=by obtain⟨c,e⟩:=ZC.1 a;rw[XG c,e,List.find?_cons];cases p j<;>rfl
def Gl(h:HI w own P H)(hs:s<H.c)(X:H.n<=100)(B:∀j,j<H.n->FB ((H.sh s).nd j).id) :
  VX Tryz.prog 61 #[pw (P.gs s)] w (Ff P H s w):=by
 have J:=LH (KA h hs X B);have Z:=q2n (H.sh s) H.n;have q:∀j,j∈(H.sh s).ai H.n->j<H.n:=λj Q=>by unfold Bv.ai at Q;exact ZH.1 (ZG.1 Q).1
 have E:=LH (show H.head s=((H.sh s).ai H.n).find? λj=>((H.sh s).nd j).head from rfl);have HM:=LH q;have S:=LH h;unfold Ff;unfold DN at J;generalize H.head s=hd at *;generalize (H.sh s).ai H.n=l at *;clear h q B;unfold pw at *;go_enter Tryz.func61,Tryz.ntmps61;go_wp2_with fail;refine J.o.mono ?_;rintro e W ⟨V,rfl,f,z⟩;obtain⟨A,c,rfl,_,_⟩:=AM f;have HR:=LH (Rd.a7 f);have U:=LH z;have M:=LH (S.o.below z);clear f z J S;go_wp2_with fail;go_loopw [8] (ShRel l (λj=>((H.sh s).nd j).head) W) (λv _=>l.length-(intOf v).toNat)
 case atStart=>exact⟨0,rfl,VG _,rfl,rfl⟩
 obtain⟨i,rfl,hi,a,rfl⟩:=hrel;by_cases Y:(i:Int)<l.length
 ·have y:i<l.length:=by omega
  obtain⟨r,o,u,hA,hr,G,hc⟩:=HR.o.dg (k:=i) y;have N:l[i]? = Bs l[i]:=K0 y;rw[VQ,N]at G;simp only[WA,VN]at G;subst G hA;have I:=HM.o l[i] (Wy y);obtain⟨C,V,L,R,_⟩:=M.o.nd s l[i] hs I;have D:=LH (qdz R);rw[Q0 N]at a;have d:=LH a;clear a R;generalize l[i]=j at *;rcases O:((H.sh s).nd j).head with _|_
  ·rw[O]at D d;have p:=LH (d.o.trans (Z7 Z3));clear d;go_wp2_with fail;refine D.o.mono ?_;rintro e w2 ⟨rfl,rfl⟩;go_wp2_with fail;go_roundw
   case rel=>exact⟨i+1,rfl,Z0,p.o,rfl⟩
   case measure=>simp[intOf];omega
  rw[O]at D d;have p:=LH (E.o.trans (d.o.trans (Z8 rfl)));clear d E;go_wp2_with fail;refine D.o.mono ?_;rintro e w2 ⟨rfl,rfl⟩;go_wp2_with fail;go_ret;exact⟨by rw[p.o];rfl,U.o⟩
 obtain rfl:i=l.length:=by omega
 rw[List.drop_length]at a;have p:=LH (E.o.trans a);clear E a;go_wp2_with fail;go_ret;exact⟨by rw[p.o];rfl,U.o⟩
def KQ(gs:List Ak)(i:Int)(x:Sx):Bool:=gs.any λa=>decide (a.tx=i) && decide (a.key=x)
def Hs.bk(H:Hs)(gs:List Ak):Hs:={H with tx:=λi=>{H.tx i with ak:=(H.tx i).ak.filter λw=>!KQ gs i w.1}}
def CX(x:Sx)(a:Sx×Int):Bool:=decide (a.1=x)
def IG(c:Nat)(a:Ak)(g:Option Nat)(w:D0)(s:w.cell? ⟨c,1,B0⟩=Bs (ZV ⟨a.key.toArray⟩))(u:g≠Bs c) :
  Ey 99 #[ZW (Bs ⟨c,0,B0⟩)] (CX a.key) g w:=by
 intro W x r;have f:=V5 w _ s;have z:=(r.cell (p:=⟨c,1,B0⟩) f (λe=>u e)).trans s;have y:c<W.heap.size:=VF f r.size;have q:=LH (λo=>(VC W.heap.size W).alloc (Hi _) o);clear s f r u;unfold wnV CX;show VX _ _ #[_,_] _ λe w'=>e=ZY (ZX (decide (x.1=a.key)))/\VI W.heap.size W w'
 by_cases e:x.1=a.key
 ·have d:(x.1 == a.key)=VD:=Z6 e;rw[ZA e];go_enter Tryz.func99,Tryz.ntmps99;go_wp2_with fail;go_ret;exact⟨rfl,q.o _⟩
 have d:(x.1 == a.key)=L1:=Z6 e;rw[Z9 e];go_enter Tryz.func99,Tryz.ntmps99;go_wp2_with fail;go_ret;exact⟨rfl,q.o _⟩
def qcs{a:Ak}(h:gs[j]? = Bs a)(i:Int)(x:Sx):KQ (gs.take (j+1)) i x=(KQ (gs.take j) i x || (decide (a.tx=i) && decide (a.key=x))):=by unfold KQ;rw[VV,h,List.any_append];simp
def q95{H:Hs}{a:Ak}(h:gs[j]? = Bs a)(c:a.tx≠(i:Int)):(H.bk (gs.take (j+1))).tx i=(H.bk (gs.take j)).tx i:=by unfold Hs.bk;simp only[qcs h,Z9 c,Bool.false_and,Bool.or_false]
def KU{H:Hs}{a:Ak}(h:gs[j]? = Bs a)(c:a.tx=(i:Int)):(H.bk (gs.take (j+1))).tx i = { (H.bk (gs.take j)).tx i with ak:=CA (CX a.key) ((H.bk (gs.take j)).tx i).ak}:=by unfold Hs.bk CA CX;simp only[qcs h,ZA c,YQ,List.filter_filter];congr 1;apply XK;intro w _;by_cases e:w.1=a.key;simp[e];simp[e];exact λ_ h=>e h.symm
def R9(t:Tg):Prop:=∃i,t=.tx i
def GrP(P:Av)(own:Ah)(H':Hs)(w:D0)(w':D0):Prop:=∃own',HI w' own' P H'/\HZ R9 w own w' own'
def UH(P:Av)(own:Ah)(H:Hs)(gs:List Ak)(w:D0)(v:S2)(wr:D0):Prop:=∃j:Nat,v=Wm eQ j/\j<=gs.length/\GrP P own (H.bk (gs.take j)) w wr
def Nt(H:Hs):H.bk []=H:=by
 have a:∀l:List (Sx×Int),l.filter (λ_=>VD)=l:=λl=>ZN.2 (λ_ _=>rfl)
 unfold Hs.bk KQ;simp[a]
def RB{Z:Tg->Prop}{base e size n:Nat}(h:w.ownsRow base e size V n xs)(c:∀b,V.ownBlock=Bs b->own b=B0)(hs:HZ Z w own w' own'):w'.ownsRow base e size V n xs:=
 hs.fr.own h (λb d a=>a.bR (c b d))
def Ug:∀(l:List Ak)(j:Nat)(x:Ak),l[j]? = Bs x->∀i,i<3->(l.flatMap Ru)[j*3+i]? = (Ru x)[i]?
 |[],j,p,h,i,a=>by simp at h
 |q::l,0,p,h,i,a=>by
  simp at h;subst h;rw[VH,VZ (by show _<3;omega)];simp
 |q::l,j+1,p,h,i,a=>by
  have d:l[j]? = Bs p:=Z6 h;have e:(j+1)*3+i=(j*3+i)+3:=by omega
  have c:(Ru q).length=3:=rfl;rw[e,VH,Wg (by rw[c];omega),c,Xc];exact Ug l j p d i a
def akAt{n:Nat}{A:Option Xo}{l:List Ak}(h:Rd w B 3 A n (l.flatMap Ru))(hl:l.length=n)(p:j<n):∃g off x,A=Bs ⟨g,off,B0⟩/\g<B/\l[j]? = Bs x/\w.cell? ⟨g,off+j*3,B0⟩=Bs (Wm eQ x.tx)/\w.cell? ⟨g,off+j*3+1,B0⟩=Bs (ZV ⟨x.key.toArray⟩)/\w.cell? ⟨g,off+j*3+2,B0⟩=Bs (Wm eQ x.bQ):=by obtain⟨g,off,e,f,c⟩:=h.2 Z0;have d:l[j]? = Bs l[j]:=K0 Z0;have a:=Ug l j _ d;exact⟨g,off,l[j],e,f,d,c (j*3) _ (a 0 Z0),c (j*3+1) _ (a 1 Z0),c (j*3+2) _ (a 2 Z0)⟩
def q7c{base:Nat}(h:HI w own P H)(hm:H.m<=1000)(hw:∀i,1<=i->i<=H.m->(H.tx i).ak.length<=1000)(y:w.ownsRow base 179 3 V gs.length (gs.flatMap Ru))(z:∀b,V.ownBlock=Bs b->own b=B0)(a9:gs.length<=100000) :
  VX Tryz.prog 69 #[pw P.g,pw (P.gs s),V] w λe w'=>e=ZY (ZZ #[])/\GrP P own (H.bk gs) w w':=by
 have HH:=LH h;have a6:=LH y;have Q:=LH z;have HW:=LH hw;obtain⟨A,c,rfl,_,hA⟩:=AM y;clear h y z hw hA;unfold pw;go_enter Tryz.func69,Tryz.ntmps69;go_wp2_with fail;go_loopw [11] (UH P own H gs w) (λv _=>gs.length-(intOf v).toNat)
 case atStart=>exact⟨0,rfl,VG _,own,by rw[X3,Nt];exact HH.o,HZ.refl _ _ _⟩
 obtain⟨j,rfl,hj,d,hI,hS⟩:=hrel;by_cases a8:(j:Int)<gs.length
 ·obtain⟨r,o,a,rfl,hr,hx,k0,k1,k2⟩:=akAt (Rd.a7 (RB a6.o Q.o hS)) rfl (j:=j) Z0;have M:VI wr.heap.size wr (wr.alloc (eT #[Wm eQ a.tx,ZV ⟨a.key.toArray⟩,Wm eQ a.bQ] 179)):=(VC _ _).alloc (Hi _) _;have a4:Ae (wr.alloc (eT #[Wm eQ a.tx,ZV ⟨a.key.toArray⟩,Wm eQ a.bQ] 179)) wr.heap.size 179 #[Wm eQ a.tx,ZV ⟨a.key.toArray⟩,Wm eQ a.bQ]:=Ae.b4 wr _ _;have O:=hI.below M;have a2:=q5k O (show(H.bk (gs.take j)).m<=1000 from hm) a.tx;have I:=LH O;clear O;have J:=LH a4;clear a4;have a5:=LH (hS.trans (HZ.below d M));clear M;have HX:=LH hx;clear hx;have a7:=LH a2;clear a2;go_upto_region 3 with (fail)
  clear k0 k1 k2;generalize wr.alloc (eT #[Wm eQ a.tx,ZV ⟨a.key.toArray⟩,Wm eQ a.bQ] 179)=R at *;have b0:=J.o.cell 0;have b1:=J.o.cell 1;have bl:=J.o.lt;simp only[NW,Ft,O0]at b0 b1;go_wp2_with fail;refine a7.o.mono ?_;rintro e w2 ⟨rfl,rfl⟩;unfold Ez;by_cases q:a.tx<1\/((H.bk (gs.take j)).m:Int)<a.tx
  ·rw[Z8 q];have f:UH P own H gs w (Wm eQ ((j+1:Nat):Int)) R:=by
    refine⟨j+1,rfl,Z0,d,?_,a5.o⟩;have:=I.o.dW (H.bk (gs.take (j+1))).tx (λi h1 h2=>q95 HX.o (λe=>by rw[e]at q;have:i<=(H.bk (gs.take j)).m:=h2;omega));exact this
   have HR:=LH f;clear f;clear q;go_wp2_with fail;go_roundw;exact HR.o;simp[intOf];omega
  rw[Z7 q];obtain⟨i,hi⟩:∃i:Nat,a.tx=i:=⟨a.tx.toNat,Z0⟩
  have a0:1<=i:=by omega
  have Z:i<=H.m:=by have h2:¬((H.m:Int)<a.tx):=λh=>q (eS h);omega
  obtain⟨v,S⟩:=I.o.tx i a0 Z;obtain⟨_,_,_,_,_,_,c8,gl⟩:=S.cells;have X:v.Vx.ownBlock≠Bs wr.heap.size:=Bh S.ak J.o Z2;have Y:((H.bk (gs.take j)).tx i).ak.length<=1000:=VK (WC _ _) (HW.o i a0 Z);have hd:=Kn 99 #[ZW (Bs ⟨wr.heap.size,0,B0⟩)] (CX a.key) 0 _ v.Vx _ R (Rz Tryz.func99 Z1 rfl) (IG _ a _ R b1 X) S.ak rfl Z0;have HD:=LH hd;clear hd;obtain⟨A8,aa,N,_,_⟩:=AM S.ak;rw[N]at c8 HD;have B:=LH N;clear N;have u:=LH S;clear S;rw[hi];rw[show((i:Int)).toNat=i from rfl];clear b0 b1 q X Y;unfold pw;go_wp2_with fail;refine HD.o.mono ?_;rintro e w2 ⟨A9,c9,rfl,U,E,W⟩;have G:=E.al u.o.al (λe=>u.o.bC.2.1 (by rw[B.o];exact e));have y8:=G.cell 8;have z8:=G.frozen 8;have yl:=G.lt;unfold P8 at y8;simp only[NW,Ft,O0]at y8;rw[B.o]at y8;have a1:Fr (λk=>v.Vx.ownBlock=Bs k\/R.heap.size<=k) R w2:=E.mono (λk _ e=>eR (by rw[B.o];exact e));have L:=u.o.cX (Ext.refl d _) a1 U (λb hb=>u.o.xt b (by rw[B.o,<- W];exact hb));have D:Fr (OS d (λt=>t=.tx i)) R (w2.setCell ⟨P.gt i,8,B0⟩ (WK A9 (CA (CX a.key) ((H.bk (gs.take j)).tx i).ak).length c9)):=
   (E.mono (T:=OS d (λt=>t=.tx i)) (λk _ e=>⟨_,u.o.xt k (by rw[B.o];exact e),rfl⟩)).setCell (p:=⟨P.gt i,8,B0⟩) (.inl ⟨_,u.o.gt,rfl⟩) _
  have a3:=I.o.setTx' D (Ext.refl d _) (λb hb=>VF (I.o.lt b hb) D.size) ⟨_,L⟩;have f:UH P own H gs w (Wm eQ ((j+1:Nat):Int)) (w2.setCell ⟨P.gt i,8,B0⟩ (WK A9 (CA (CX a.key) ((H.bk (gs.take j)).tx i).ak).length c9)):=by
   refine⟨j+1,rfl,Z0,d,?_,a5.o.trans (⟨Ext.refl d _,D.mono (λ_ _ ⟨t,a,b⟩=>⟨t,a,⟨i,b⟩⟩),λ_ _ h=>h⟩)⟩;have:=a3.dW (H.bk (gs.take (j+1))).tx (λk h1 h2=>by
    show _=Af (H.bk (gs.take j)).tx i _ k;by_cases e:k=i;subst e;rw[Aq];exact KU HX.o hi;rw[Ay e];exact q95 HX.o (λe2=>e Z0))
   exact this
  have HR:=LH f;clear f a3 D L a1 U E W G HD;go_wp2_with fail;go_roundw;exact HR.o;simp[intOf];omega
 obtain rfl:j=gs.length:=by omega
 rw[WU]at hI;have HF:=LH (show GrP P own (H.bk gs) w wr from⟨d,hI,hS⟩);clear hI hS;go_wp2_with fail
 go_end0
 exact⟨rfl,HF.o⟩
open Classical in
def Ej(own:Ah)(n:Nat)(F:Nat->Prop)(t:Tg):Ah:=λb=>if b<n then own b else if F b then Bs t else B0
section
variable {w w':D0}{own own':Ah}{P:Av}{H:Hs}{n:Nat}{F:Nat->Prop}{t:Tg}
def SV:Ext own (Ej own n F t) n:=λb h=>by unfold Ej;rw[Z8 h]
def SR(d:n<=n')(a:∀b,F b->b<n'):∀b,Ej own n F t b≠B0->b<n':=λb h=>by
 unfold Ej at h;split at h;omega;split at h;rename_i c;exact a b c;exact ZB rfl h
def SS(h:own b=Bs t\/n<=b)(c:F b):Ej own n F t b=Bs t:=by unfold Ej;by_cases a:b<n;rw[Z8 a];obtain h|h:=h;exact h;omega;rw[Z7 a,Z8 c]
def RC(a:∀i,t≠.sm i):∀b i,Ej own n F t b=Bs (.sm i)->own b=Bs (.sm i):=λb i h=>by
 unfold Ej at h;split at h;exact h;split at h;injection h with h;exact ZB h (a i);cases h
def qan(h:n<=b)(a:¬F b):Ej own n F t b=B0:=by unfold Ej;rw[Z7 Z0,Z7 a]
def Er.retab{k g:Nat}{v:Pa}{x:Bv}(h:Er w own k s g gn v x)(q:Fr (OS own (λt=>t=.sb s\/t=.tab s)) w w')(f:Ext own own' w.heap.size){c:Option Nat}{a:Sx->Ax} 
  (r:AF w' 0 100 g 4 105 (Gt {v with mt:=c,e3:=a} {x with tab:=T'}) c a T') (p:∀b,AH c a T' b->own' b=Bs (.tab s)):Er w' own' k s g gn {v with mt:=c,e3:=a} {x with tab:=T'}:=by
 refine⟨q.own h.row (λb d hs=>?_),λb d=>(f b (h.row.lt b d).2).trans (h.cy b d),h.dd.fr q (λhs=>?_),(f _ h.dd.lt).trans h.dP,r,p,h.sto.da q (λb d hs=>?_) r.al rfl rfl,λb d=>(f b (h.sto.a9 (eS d)).2).trans (h.cE b d),(f g h.tab.al.lt).trans h.gt⟩;obtain e|e:=hs.c6 (h.cy b d)<;> cases e;obtain e|e:=hs.c6 h.dP<;> cases e;obtain e|e:=hs.c6 (h.cE b d)<;> cases e
def Er.resto{k g:Nat}{v:Pa}{x:Bv}(h:Er w own k s g gn v x)(r:Fr (OS own (λt=>t=.sb s\/t=.sto s)) w w')(f:Ext own own' w.heap.size){c:Option Nat}{a:Sx->S2}{p:Kp}
  (u:Cl w' 0 100 g 5 105 (Gt {v with ms:=c,e4:=a} {x with sto:=p}) c a p 0) (q:∀b,DL c a p b->own' b=Bs (.sto s)):Er w' own' k s g gn {v with ms:=c,e4:=a} {x with sto:=p}:=by
 refine⟨r.own h.row (λb d hs=>?_),λb d=>(f b (h.row.lt b d).2).trans (h.cy b d),h.dd.fr r (λhs=>?_),(f _ h.dd.lt).trans h.dP,h.tab.da r (λb d hs=>?_) u.al rfl,λb d=>(f b (h.tab.a9 d).2).trans (h.cw b d),u,q,(f g h.tab.al.lt).trans h.gt⟩;obtain e|e:=hs.c6 (h.cy b d)<;> cases e;obtain e|e:=hs.c6 h.dP<;> cases e;obtain e|e:=hs.c6 (h.cw b d)<;> cases e
def Ii{Z Z':Tg->Prop}(c:Fr (OS own Z) w w')(h:∀t,Z t->Z' t):Fr (OS own Z') w w':=c.mono (λ_ _ ⟨t,a,b⟩=>⟨t,a,h t b⟩)
def Sj{g:Nat}{mt:Option Nat}{loc:Sx->Ax}(d:own g=Bs (.sb s))(c:∀b,AH mt loc T b->own b=Bs (.tab s))(f:Fr (TFr g mt loc T) w w'):Fr (OS own (λt=>t=.sb s\/t=.tab s)) w w':=
 f.mono (λb _ a=>a.elim (λe=>⟨_,by rw[e];exact d,eR rfl⟩) (λa=>⟨_,c b a,eS rfl⟩))
def sto_fr{g:Nat}{ms:Option Nat}{loc:Sx->S2}{K:Kp}(d:own g=Bs (.sb s))(c:∀b,DL ms loc K b->own b=Bs (.sto s))(f:Fr (FE g ms loc K) w w'):Fr (OS own (λt=>t=.sb s\/t=.sto s)) w w':=
 f.mono (λb _ a=>a.elim (λe=>⟨_,by rw[e];exact d,eR rfl⟩) (λa=>⟨_,c b a,eS rfl⟩))
def q74:∀(ws left:List (Int×Int)) (h:Int->Option Int),(DP h left ws).2.2.Sublist ws
 |[],left,h=>by rw[q39];exact XN _
 |w::ws,left,h=>by
  rcases a:Ai h w.1 w.2 left with _|_;rw[q8l a];exact(q74 ws _ h).cons _;rw[q73 a];exact(q74 ws _ _).cons_cons _
def Fb.len(h:Fb k):k.ws.length<=61:=by
 have a:(k.ws.map (·.1)).length<=DR.length:=by
  refine WL ?_ (λt d=>?_);rw[Yz,Xb];exact h.sort.imp (λh e=>Z0);obtain⟨v,c,rfl⟩:=ZE.1 d;have:=h.wait v c;exact RA Z0 this.2
 rw[V0,q3y]at a;exact a
def qcr{T:Tb}(a:Dy T)(tx:Int):∀ks:List Sx,(ks.flatMap (MH T tx)).length<=ks.length*61
 |[]=>Z3
 |x::ks=>by
  have c:=qcr a tx ks;have q:(MH T tx x).length<=61:=by
   unfold MH;cases e:T x with
   |none=>simp
   |some k=>
    have p:=(q74 (AG k.ws tx) [] (Bj k.h tx B0)).length_le;have f:(AG k.ws tx).length<=k.ws.length:=WC _ _;have d:=(a x k e).2.len;show((Co k tx).2.map _).length<=61;rw[V0];show(DP (Bj k.h tx B0) [] (AG k.ws tx)).2.2.length<=61;omega
  rw[VH,VJ,Wi];omega
def QE(a:Dy T)(h:Hm T ks):ks.length<=4:=by
 have:ks.length<=names.length:=WL (h.1.imp (λh e=>by subst e;exact List.lt_irrefl _ h)) (λx c=>by
  cases e:T x with
  |none=>exact ZB e ((h.2 x).1 c)
  |some k=>exact(a x k e).1)
 exact this
open Classical in
def QT(h:Hm T ks)(i:Nat)(y:Sx):KQ (ks.flatMap (MH T tx)) i y=VD↔decide (KV T tx i y)=VD:=by
 unfold KQ;rw[X1,decide_eq_true_eq];unfold KV;constructor;rintro ⟨a,c,f⟩;simp only[Wl,decide_eq_true_eq]at f;obtain⟨x,u,c⟩:=ZK.1 c;unfold MH at c;cases e:T x with
 |none=>rw[e]at c;cases c
 |some k=>
  rw[e]at c;obtain⟨g,s,rfl⟩:=ZE.1 c;obtain⟨q,p⟩:=f
  dsimp only at q p
  subst p;exact⟨k,g.2,e,by rw[<- q];exact s⟩
 rintro ⟨k,d,e,r⟩;refine⟨⟨i,y,d⟩,ZK.2 ⟨y,(h.2 y).2 (by rw[e];simp),?_⟩,Z3⟩;unfold MH;rw[e];exact ZE.2 ⟨(↑i,d),r,rfl⟩
open Classical in
def Ns(h:Hm T ks)(H':Hs):H'.bk (ks.flatMap (MH T tx))=H'.b6 T tx:=by
 have a:∀i:Nat,(H'.tx i).ak.filter (λw=>!KQ (ks.flatMap (MH T tx)) i w.1)=(H'.tx i).ak.filter (λw=>!decide (KV T tx i w.1)):=λi=>by
  apply XK;intro w _;congr 1;rw[XW];exact QT h i w.1
 unfold Hs.bk Hs.b6;simp only[a]
def HRelP(P:Av)(H:Hs)(own:Ah)(s:Nat)(tx:Int)(w:D0)(e:WE)(w':D0):Prop:=
 ∃(V:S2)(gs:List Ak)(own':Ah),e=ZY V/\w'.ownsRow (w.heap.size+1) 179 3 V gs.length (gs.flatMap Ru)/\(∀b,V.ownBlock=Bs b->own' b=B0)/\gs.length<=1000/\
  (∀H':Hs,H'.bk gs=H'.b6 (H.sh s).tab tx)/\HI w' own' P (H.ax s {H.sh s with tab:=Bp (H.sh s).tab tx})/\HZ (Dr s) w own w' own'
def q60(h:HI w own P H)(hs:s<H.c)(tx:Int)(u:CN tx)(r:Dy (H.sh s).tab) :
  VX Tryz.prog 70 #[ZW (Bs ⟨P.gs s,4,B0⟩),Wm eQ tx] w (HRelP P H own s tx w):=by
 obtain⟨v,f⟩:=h.sh s hs;refine(J2 0 100 (P.gs s) 4 _ _ v.mt v.e3 (H.sh s).tab tx w f.tab u Z0 Z2).mono ?_;rintro e w' ⟨V,ks,loc',rfl,p,a,I,B,D⟩;have q:=Sj f.gt f.cw D;have G:=I.bK (r.bF tx);have d:∀b,AH v.mt loc' (Bp (H.sh s).tab tx) b->own b=Bs (.tab s)\/w.heap.size<=b:=λb c=>(B b c).imp (f.cw b) id
 have E:Ext own (Ej own w.heap.size (AH v.mt loc' (Bp (H.sh s).tab tx)) (.tab s)) w.heap.size:=SV;have z:=f.retab q E G (λb c=>SS (d b c) c);have A:=SR (own:=own) (t:=.tab s) q.size (λb c=>(I.a9 c).2);refine⟨V,_,_,rfl,a,λb c=>qan (VK (WX _) (a.lt b c).1) (λJ=>(I.cL a Z2 Z2 Z2 c).2 J),?_,Ns p,
  h.setSh' rfl (Ii q (λt y=>y.elim eR (λe=>eS (eS (eS (eR e)))))) E A ⟨_,z⟩,⟨E,Ii q (λt y=>y.elim eR (λe=>eS (eS (eS (eR e))))),(by first|exact RC Z3|exact λ_ _ h=>h)⟩⟩
 have L:=qcr r tx ks;have J:=QE r p;omega
def lockP_T{mode:Int}{ok:Bool}{l:List Int}(h:DM T ⟨tx,x,mode⟩ ok l q T')(p:Bt mode)(f:x.length<=20):T'=Ap T tx x mode:=by
 unfold Ap;cases h with
 |arg h=>exact ZB p h
 |long _ h=>exact ZB f (Z6 h)
 |twice _ _ a=>rw[Z8 a]
 |got _ _ a d=>rw[Z7 (by rw[a];simp),Z8 d]
 |full _ _ a d c=>rw[Z7 (by rw[a];simp),Z7 (by rw[d];simp),Z8 c]
 |waits _ _ a d c=>rw[Z7 (by rw[a];simp),Z7 (by rw[d];simp),Z7 c]
def HLockP(P:Av)(H:Hs)(own:Ah)(s:Nat)(a:Ak)(w:D0)(e:WE)(w':D0):Prop:=
 ∃(ok:Bool)(l:List Int)(d:Int)(A:Option Xo)(c:Nat)(own':Ah),e=ZY (ZZ #[ZX ok,WK A l.length c,C0 d])/\DM (H.sh s).tab a ok l d (Ap (H.sh s).tab a.tx a.key a.bQ)/\
  HI w' own' P (H.ax s {H.sh s with tab:=Ap (H.sh s).tab a.tx a.key a.bQ})/\HZ (Dr s) w own w' own'/\Rd w' w'.heap.size 1 A l.length (l.map (Wm eQ))/\(∀b o,A=Bs ⟨b,o,B0⟩->0<l.length->own' b=B0)
def Tw(base n g off:Nat)(ty:VR)(cs:Array S2)(mb:Option Nat)(loc:Sx->Ax)(T:Tb)(s:ByteArray)(tx mode:Int)(w:D0)(hI:AF w base n g off ty cs mb loc T)(a:Bt mode)(hl:(sx s).length<=20)(c:CN tx)(p:n<1000000)
  (d:(Ad T (sx s)).ws.Pairwise (·.1 < ·.1)) :
  VX Tryz.prog 64 #[ZW (Bs ⟨g,off,B0⟩),Wm eQ tx,ZV s,Wm eQ mode] w (q4n base n g off ty cs mb loc T ⟨tx,sx s,mode⟩ w):=by
 rcases f:CF (Ad T (sx s)).ws tx with _|_;rcases q:Ai (Ad T (sx s)).h tx mode (Ad T (sx s)).ws with _|_;exact IB base n g off ty cs mb loc T s tx mode w hI a hl c p f q d;exact Tv base n g off ty cs mb loc T s tx mode w hI a hl c p f q;exact M9 base n g off ty cs mb loc T s tx mode w hI a hl c p f
def qb6(h:HI w own P H)(hs:s<H.c)(tx mode:Int)(x:ByteArray)(u:1<=tx/\tx<=60)(r:sx x∈names)(M:Bt mode)(L:Dy (H.sh s).tab) :
  VX Tryz.prog 64 #[ZW (Bs ⟨P.gs s,4,B0⟩),Wm eQ tx,ZV x,Wm eQ mode] w (HLockP P H own s ⟨tx,sx x,mode⟩ w):=by
 obtain⟨v,p⟩:=h.sh s hs;refine(Tw 0 100 (P.gs s) 4 _ _ v.mt v.e3 (H.sh s).tab x tx mode w p.tab M (Ex r) (Gu Z0 Z0) Z0 (L.aN (sx x)).sort).mono ?_;rintro e w' ⟨ok,l,R,T',A,c,a,loc',rfl,hP,N,E,G,B,O⟩;obtain rfl:=lockP_T hP M (Ex r);have q:=Sj p.gt p.cw G;have J:AF w' 0 100 (P.gs s) 4 105 (Gt {v with mt:=a,e3:=loc'} {H.sh s with tab:=Ap (H.sh s).tab tx (sx x) mode}) a loc' (Ap (H.sh s).tab tx (sx x) mode):=N.bK (L.aJ u r mode);have d:∀b,AH a loc' (Ap (H.sh s).tab tx (sx x) mode) b->own b=Bs (.tab s)\/w.heap.size<=b:=λb f=>(E b f).imp (p.cw b) id
 have I:Ext own (Ej own w.heap.size (AH a loc' (Ap (H.sh s).tab tx (sx x) mode)) (.tab s)) w.heap.size:=SV;have z:=p.retab q I J (λb f=>SS (d b f) f);have D:=SR (own:=own) (t:=.tab s) q.size (λb f=>(N.a9 f).2);exact⟨ok,l,R,A,c,_,rfl,hP,h.setSh' rfl (Ii q (λt y=>y.elim eR (λe=>eS (eS (eS (eR e)))))) I D ⟨_,z⟩,⟨I,Ii q (λt y=>y.elim eR (λe=>eS (eS (eS (eR e))))),(by first|exact RC Z3|exact λ_ _ h=>h)⟩,B,λb o e Q=>qan (O b o e Q).1 (O b o e Q).2⟩
def HPutP(P:Av)(H:Hs)(own:Ah)(s:Nat)(t:Int)(p:Pr)(w:D0)(e:WE)(w':D0):Prop:=
 ∃(a:Int)(own':Ah),e=ZY (C0 a)/\HI w' own' P (H.ax s {H.sh s with sto:=(CT (H.sh s).sto 0 ⟨sx p.key,sx p.val,p.aR,t⟩).2})/\HZ (Dr s) w own w' own'
def TH(h:HI w own P H)(hs:s<H.c)(t:Int)(p:Pr)(q:0<=t/\t<=60)(M:Uk p)(J:Dz (H.sh s).sto) :
  VX Tryz.prog 82 #[ZW (Bs ⟨P.gs s,5,B0⟩),Wm eQ t,.agg #[ZV p.key,ZV p.val,ZX p.aR]] w (HPutP P H own s t p w):=by
 obtain⟨v,u⟩:=h.sh s hs;refine(put_any 0 100 (P.gs s) 5 _ _ v.ms v.e4 (H.sh s).sto 0 p.key p.val p.aR t w u.sto Z0).mono ?_;rintro e w' ⟨rfl,c,loc',y,E,D⟩;have z:=sto_fr u.gt u.cE E;have I:Cl w' 0 100 (P.gs s) 5 105 (Gt {v with ms:=c,e4:=loc'} {H.sh s with sto:=(CT (H.sh s).sto 0 ⟨sx p.key,sx p.val,p.aR,t⟩).2}) c loc' (CT (H.sh s).sto 0 ⟨sx p.key,sx p.val,p.aR,t⟩).2 0:=y.bK (J.put (r:=⟨sx p.key,sx p.val,p.aR,t⟩) M.1 q.1 q.2);have d:∀b,DL c loc' (CT (H.sh s).sto 0 ⟨sx p.key,sx p.val,p.aR,t⟩).2 b->own b=Bs (.sto s)\/w.heap.size<=b:=λb a=>by
  obtain (rfl|f)|f:=D b (eS a);exact ZB rfl (by
   obtain a|⟨x,L,a⟩:=a;have:=y.map;rw[a]at this;exact Ab.aV (C:=kV) this y.al;exact λ_=>y.dy L a)
  exact eR (u.cE b f);exact eS f
 have G:Ext own (Ej own w.heap.size (DL c loc' (CT (H.sh s).sto 0 ⟨sx p.key,sx p.val,p.aR,t⟩).2) (.sto s)) w.heap.size:=SV;have A:=u.resto z G I (λb a=>SS (d b a) a);have B:=SR (own:=own) (t:=.sto s) z.size (λb a=>(y.a9 (eS a)).2);exact⟨_,_,rfl,h.setSh' rfl (Ii z (λt q=>q.elim eR (λe=>eS (eS (eS (eS e)))))) G B ⟨_,A⟩,⟨G,Ii z (λt q=>q.elim eR (λe=>eS (eS (eS (eS e))))),(by first|exact RC Z3|exact λ_ _ h=>h)⟩⟩
end
end
end Go.Proofs.YtccahlhdifadfaaGreatDoor
