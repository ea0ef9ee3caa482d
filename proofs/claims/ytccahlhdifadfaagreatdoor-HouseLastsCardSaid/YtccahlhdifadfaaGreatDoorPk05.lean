import Derived.Test.YtccahlhdifadfaaGreatDoorPk04
import Derived.Below
import Derived.ChangeSame
import Derived.Test.YtccahlhdifadfaaGreatDoorRows
import Derived.WalkKit
import Derived.ProofKit
import Derived.OpenShut
import Derived.Carry
import Derived.Deep.Slices
import Derived.Deep.DeepHandedRow
import Derived.LaidMore
import Derived.LaidLaws
import Derived.LaidHandle
import Derived.MakeChecks
import Derived.Stop.Joined
namespace Go.Proofs.YtccahlhdifadfaaGreatDoor
open Go.RowKit
open _root_.Go.Obj renaming cells->eT
open _root_.Go.IntKind renaming i64->eQ
open _root_.Go.Ending renaming returned->ZY
open _root_.Bool renaming false->L1,true->VD,and_eq_true->Wl,not_eq_true'->XQ,or_eq_true->X7
open _root_.Classical renaming byContradiction->Wc,not_not->X6
open _root_.Go renaming World->D0,Value->S2,TypeId->VR,Calls->VX,maxLen->VY,DataW->YI,MemPlace->Zf
open _root_.Go.DataW renaming TrodAll->YP
open _root_.Go.IntWalk renaming i64_in->V4
open _root_.Go.RowKit renaming Below->VI
open _root_.Go.RowKit.Below renaming refl->VC
open _root_.Go.Value renaming oneCell'->Wx,slice->WK,int->ZT,string->ZV,pointer->ZW,bool->ZX,tuple->ZZ
open _root_.Go.World renaming ownsRow_nil->VW,block_lt_of_cell?->V5,setCell->YB
open _root_.Int renaming le_refl->WH
open _root_.List renaming getElem?_cons_zero->Ft,getElem?_eq_getElem->K0,getElem?_toArray->NW,mem_of_getElem?->N2,mem_cons_self->VB,mem_cons_of_mem->VE,flatMap_cons->VH,length_append->VJ,mem_append_left->VM,prefix_refl->VO,mem_singleton->VU,getElem?_append_left->VZ,length_map->V0,eq_nil_of_length_eq_zero->We,getElem?_append_right->Wg,range'->Wh,length_cons->Wi,flatMap_append->Wq,range->Ww,getElem_mem->Wy,append_nil->WB,length_filter_le->WC,map_cons->WJ,map_append->WQ,mem_append_right->WW,pairwise_map->Xb,nodup_append->Xg,getElem?_concat_length->Xv,prefix_append->Xy,map_congr_left->XH,mem_range'_1->XJ,filter_congr->XK,append_assoc->XM,map_nil->XT,filter_append->XZ,flatMap_nil->Ym,range_succ->Ys,Nodup->Yz,sublist_append_right->Y4,mem_map_of_mem->Y9,sublist_append_left->Zd,sublist_cons_self->Zq,getElem?_eq_some_iff->ZC,mem_append->ZD,mem_map->ZE,mem_cons->ZF,mem_filter->ZG,mem_range->ZH,mem_iff_getElem?->ZI,pairwise_cons->ZL,pairwise_append->ZM,sublist_cons_iff->ZR
open _root_.List.Nodup renaming length_le_of_subset->WL
open _root_.List.Sublist renaming refl->XN
open _root_.Nat renaming le_refl->Hi,lt_of_lt_of_le->VF,zero_le->VG,le_trans->VK,le_succ->WX,lt_succ_self->Y1
open _root_.Option renaming some->Bs,none->B0
open _root_.Option.some renaming inj->Wn
open _root_.Or renaming imp->Y7,inl->eR,inr->eS
variable {P1:Av}{D h q u:Bool}{G:Gh}{A C H':Hs}{c f fr tx:Int}{T T':List Au}{L:List Cu}{pa pv:List Zf}{m:Ms}{K i j k n p r s:Nat}{F F1:Nat->Prop}{d:Nd}{y:Sx}{α:Type}{tb:VR}{V V' v:S2}{W w w1:D0}
set_option linter.all false
set_option maxRecDepth 100000
set_option maxHeartbeats 16000000
def J1(L:List CO)(B n c:Nat)(A:Option Addr)(w:D0)(h:ME w B A n L)(I:B<=w.heap.size)(N:n<=8)(hs:∀x∈L,x.n<=1000) :
  VX Tryz.prog 8 #[WK A n c] w (q7f (Cn (Aj L) n []) w):=by
 have E:∀v:S2,VI w.heap.size w (((w.alloc (eT #[WK A n c] 29)).alloc (eT #[.nilFunc] 70)).setCell ⟨w.heap.size+1,0,B0⟩ v):=λv=>(((VC _ _).alloc (Hi _) _).alloc Z3 _).setCell Z3 _
 have R:=LH E;clear E;have H:=LH h;clear h;have O:=LH hs;clear hs;go_enter Tryz.func8,Tryz.ntmps8;go_wp2_with fail;have f:VI w.heap.size w ((w.alloc (eT #[WK A n c] 29)).alloc (eT #[fnV w.heap.size (w.heap.size+1)] 70)):=((VC _ _).alloc (Hi _) _).alloc Z3 _;have e1:(w.alloc (eT #[WK A n c] 29)).heap.size=w.heap.size+1:=by simp
 have z:((w.alloc (eT #[WK A n c] 29)).alloc (eT #[fnV w.heap.size (w.heap.size+1)] 70)).cell? ⟨w.heap.size,0,B0⟩=Bs (WK A n c):=by simp
 have y:((w.alloc (eT #[WK A n c] 29)).alloc (eT #[fnV w.heap.size (w.heap.size+1)] 70)).cell? ⟨w.heap.size+1,0,B0⟩=Bs (fnV w.heap.size (w.heap.size+1)):=by rw[<- e1];simp
 refine(Vv L B n c w.heap.size (w.heap.size+1) A N O.o n [] _ 0 0 B0 z y (H.o.below (f.mono I)) (VK I f.size) List.nodup_nil Z3 Z3 (Rd.bo _ _ _ _) (VG _)).mono ?_;rintro e M ⟨K,D,J,rfl,u,q,C⟩;have d:q7f (Cn (Aj L) n []) w (ZY (ZZ #[WK K D J,ZX (Cn (Aj L) n []).isSome])) M:=⟨K,D,J,rfl,u,q,f.trans (C.mono f.size)⟩
 have Q:=LH d;clear d u q C f z y e1;go_wp2_with fail;go_ret2;exact Q.o
def sx0:Cu:=⟨tx0,WK B0 0 0⟩
def Ds(H:Hs)(L:List Cu)(i:Nat):List Cu:=(E4 H i).map λj=>L[j]?.getD sx0
def KI(H:Hs)(n:Nat):E4 H (n+1)=E4 H n++(if (H.tx (n+1)).aa=3\/(H.tx (n+1)).aa=2 then [n]else []):=by unfold E4;rw[Ys,XZ];congr 1;rw[List.filter_cons];by_cases h:(H.tx (n+1)).aa=3\/(H.tx (n+1)).aa=2;rw[Z8 h,Z8 (Z6 h)];rfl;rw[Z7 h,Z7 (Z6 h)];rfl
def SC{H:Hs}{x:Cu}(c:L[i]? = Bs x)(h:(H.tx (i+1)).aa=3\/(H.tx (i+1)).aa=2):Ds H L (i+1)=Ds H L i++[x]:=by unfold Ds;rw[KI,Z8 h,WQ,WJ,XT,c];rfl
def selS_no{H:Hs}(h:¬((H.tx (i+1)).aa=3\/(H.tx (i+1)).aa=2)):Ds H L (i+1)=Ds H L i:=by unfold Ds;rw[KI,Z7 h,WB]
def SD(H:Hs)(L:List Cu)(i:Nat):(Ds H L i).length<=i:=by unfold Ds E4;rw[V0];exact VK (WC _ _) Z3
def qdh{H:Hs}{x:Cu}(h:x∈Ds H L L.length):x∈L:=by unfold Ds at h;obtain⟨j,c,rfl⟩:=ZE.1 h;have:=(qay.1 c).1;rw[K0 this];exact Wy this
def PR{H:Hs}(h:L.map (·.t)=T):(Ds H L L.length).map (·.t)=Bn H T:=by
 unfold Ds Bn;have hl:T.length=L.length:=by rw[<- h,V0]
 rw[hl,List.map_map];refine XH λj c=>?_
 have c:=(qay.1 c).1;show(L[j]?.getD sx0).t=T[j]?.getD tx0;subst h;rw[List.getElem?_map,K0 c];rfl
structure Fe(w:D0)(b0:Nat)(V:S2)(l:List Cu)(B:Nat):Prop where
 row:w.ownsRow b0 52 3 V l.length (l.flatMap Ij)
 bh:∀x∈l,w.ownsRow 0 56 4 x.V x.t.bh.length (x.t.bh.flatMap SP)/\x.t.bh.length<=B
 dk:BH (l.map (·.t))
def Un(T':List Au)(B:Nat)(w:D0)(e:Ending)(w':D0):Prop:=∃(V:S2)(l:List Cu),e=ZY V/\Fe w' w.heap.size V l B/\l.map (·.t)=T'/\VI w.heap.size w w'
def Uo(w:D0)(H:Hs)(L:List Cu)(V v:S2)(wr:D0):Prop:=∃i:Nat,v=ZT eQ i/\i<=L.length/\wr.ownsRow w.heap.size 52 3 V (Ds H L i).length ((Ds H L i).flatMap Ij)/\VI w.heap.size w wr
def Fe.below{w':D0}{f:Nat}{l:List Cu}{B:Nat}(h:Fe w f V l B)(d:VI w.heap.size w w'):Fe w' f V l B:=
 ⟨Jc h.row d,λx c=>⟨Jc (h.bh x c).1 d,(h.bh x c).2⟩,h.dk⟩
def Fe.bB{l:List Cu}{B:Nat}(h:Fe w K V l B) :
  ∃(A:Option Addr)(c:Nat)(L':List CO),L'.length=l.length/\V=WK A L'.length c/\ME w w.heap.size A L'.length L'/\Aj L'=l.map (·.t)/\∀x∈L',x.n<=B:=by
 have f:∀m:List Cu,(∀x∈m,x∈l)->∃L':List CO,L'.length=m.length/\L'.flatMap UU=m.flatMap Ij/\Aj L'=m.map (·.t)/\(∀x∈L',x.n<=B)/\∀x∈L',q98 w w.heap.size x.A x.n x.t.bh/\∀o∈x.t.bh,Iu o:=by
  intro m;induction m with
  |nil=>exact λ_=>⟨[],rfl,rfl,rfl,λ_ h=>(nomatch h),λ_ h=>(nomatch h)⟩
  |cons x m E=>
   intro hl;obtain⟨L',e1,z,v,u,q⟩:=E (λy d=>hl y (VE _ d));have C:=hl x VB;obtain⟨n,J⟩:=h.bh x C;obtain⟨A,c,e,_,_⟩:=AM n;rw[e]at n;refine⟨⟨x.t,A,x.t.bh.length,c⟩::L',by simp[e1],?_,?_,λy d=>?_,λy d=>?_⟩;rw[VH,VH,z];show [WK A x.t.bh.length c,_,_]++_=[x.V,_,_]++_;rw[e];show x.t::Aj L'=x.t::m.map (·.t);rw[v];obtain rfl|d:=ZF.1 d;exact J;exact u y d;obtain rfl|d:=ZF.1 d;refine⟨⟨rfl,Rd.a7 n⟩,λo I=>?_⟩;have:=h.dk x.t (Y9 C) o I;unfold UI at this;unfold Iu VY;omega;exact q y d
 obtain⟨L',e1,z,v,u,q⟩:=f l (λ_ h=>h);have D:=h.row;obtain⟨A,c,e,_,_⟩:=AM D;subst e;refine⟨A,c,L',e1,by rw[e1],⟨rfl,?_,q⟩,v,u⟩;rw[z,e1];exact Rd.a7 D
def qat{c:D0}{e:VR}{size:Nat}{xs:List S2}(d:Am w1 c V.ownBlock V'.ownBlock)(h:w1.ownsRow w.heap.size e size V n xs)(f:VI w.heap.size w w1):VI w.heap.size w1 c:=
 d.1.below (λb e=>(h.lt b e.symm).1) f.size
variable {w':D0}{own own':Ah}{P:Av}{g o nodes:Nat}{H:Hs}{now:Int}{safe:Bool}
section
variable {B:Nat}
def Sa(c:Dg w own P F g r o k H T now safe nodes B)(hm:T.length<=H.m)(a3:H.m<=60)(h7:T.length<=8)(hf:BH T):VX Tryz.prog 9 #[pw g] w (Un (Bn H T) B w):=by
 have a2:=λwr (n:VI w.heap.size w wr) (i:Int)=>q45 (w:=wr) (c.hi.below n) Z0 i
 have ac:=LH a2;obtain⟨V,L,I,hT,hF,c0,c1,c2,c3,c4,gl⟩:=c.cells;have aa:T.length=L.length:=by rw[<- hT,V0]
 have a5:∀i:Nat,i<L.length->H.aa ((i:Int)+1)=(H.tx (i+1)).aa:=λi hi=>by
  unfold Hs.aa;rw[Z7 Z0,show((i:Int)+1).toNat=i+1 by omega]
 have ad:=LH a5;obtain⟨A0,k0,a4,_,_⟩:=AM I.row;have ai:L.length<=8:=by omega
 have Y:=LH I;have ae:=LH (show BH (L.map (·.t))from by rw[hT];exact hf);have ab:=LH (PR (H:=H) hT);have u:=I.row;rw[a4]at u c1;have a7:=LH u;clear a2 c I hT hF c2 c3 c4 a4 hf a5 aa h7 hm a3 u;unfold pw at *;go_enter Tryz.func9,Tryz.ntmps9;go_wp2_with fail;go_loopw [3,4] (λV v wr=>Uo w H L V v wr) (λ_ v _=>L.length-(intOf v).toNat)
 case atStart=>exact⟨0,rfl,VG _,VW _ _ _ _,VC _ _⟩
 obtain⟨i,rfl,hi,hw,n⟩:=hrel;have d0:=(n.cell (p:=⟨g,0,B0⟩) gl).trans c0;have d1:=(n.cell (p:=⟨g,1,B0⟩) gl).trans c1;have al:=VF gl n.size;by_cases ah:(i:Int)<L.length
 ·have X:i<L.length:=by omega
  have af:IntKind.i64.wrap ((i:Int)+1)=(i:Int)+1:=V4 _ ⟨Z0,Z0⟩;obtain⟨x,E⟩:∃x,L[i]? = Bs x:=⟨_,K0 X⟩
  have M:=LH (ac.o wr n ((i:Int)+1));rw[ad.o i X]at M;obtain⟨r0,o0,x',hA,y,U,J⟩:=(Rd.a7 a7.o).elem (e1:=Ij) (λ_=>rfl) rfl X;obtain rfl:x'=x:=by rw[E]at U;injection U with e;exact e.symm
  have q0:=J 0 _ rfl;have q1:=J 1 _ rfl;have q2:=J 2 _ rfl;subst hA;have S:=(n.cell (p:=⟨r0,o0+i*3,B0⟩) y).trans q0;have R:=(n.cell (p:=⟨r0,o0+i*3+1,B0⟩) y).trans q1;have Q:=(n.cell (p:=⟨r0,o0+i*3+2,B0⟩) y).trans q2;have N:=VF y n.size;have HW:=LH hw;have HB:=LH n;have ag:=SD H L i;have a1:=n.size;clear hw n c0 c1 gl q0 q1 q2 y;have HX:=LH E;have C:=LH (λh=>SC (H:=H) E h);have a0:=LH (λh=>selS_no (H:=H) (L:=L) (i:=i) h);clear E U J;generalize (H.tx (i+1)).aa=D at *;by_cases h3:D=3\/D=2
  ·have z:∀V2 O,O.ownsRow w.heap.size 52 3 V2 ((Ds H L i).length+1) ((Ds H L i).flatMap Ij++[x'.V,ZT eQ x'.t.ar,ZT eQ x'.t.a8])->VI w.heap.size w O->Uo w H L V2 (ZT eQ ((i:Int)+1)) O:=λV2 O ho a9=>by
    refine⟨i+1,rfl,Z0,?_,a9⟩;rw[C.o h3,VJ,Wq];exact ho
   have d:=LH z;clear z;have a8:(D=3/\True)\/(¬D=3/\D=2):=by
    by_cases e:D=3;exact eR ⟨e,trivial⟩;exact eS ⟨e,h3.resolve_left e⟩
   have q:=AM (Y.o.bh x' (N2 HX.o)).1;clear HX;obtain⟨xt,xV⟩:=x';obtain⟨A7,c7,q,_,_⟩:=q;simp only at q;subst q;simp only at S R Q;obtain⟨K,_⟩|⟨K,a6⟩:=a8
   ·subst K;clear h3 C a0;go_wp2_with fail;refine M.o.mono ?_;rintro e O ⟨rfl,rfl⟩;go_wp2_with (at_builtin;refine stop ?_)
    refine CD ?_;refine Oq wr _ rfl (.tmp 28) (.tmp 36) 29 rfl w.heap.size 52 _ 3 40 Tryz.underlying29 qd9 rfl Z2 _ _ _ #[WK A7 xt.bh.length c7,ZT eQ xt.ar,ZT eQ xt.a8] rfl HW.o 1 rfl _ rfl rfl (by simp[Wx]) Zx Z0 a1 ?_;intro V6 w6 f A;have Z:=LH (d.o V6 w6 f (HB.o.trans (qat A HW.o HB.o)));clear f A S R Q N d;go_wp2_with fail;go_roundw;exact Z.o;simp[intOf];omega
   subst a6;clear h3 K C a0;go_wp2_with fail;refine M.o.mono ?_;rintro e O ⟨rfl,rfl⟩;go_wp2_with (at_builtin;refine stop ?_)
   refine CD ?_;refine Oq wr _ rfl (.tmp 28) (.tmp 36) 29 rfl w.heap.size 52 _ 3 40 Tryz.underlying29 qd9 rfl Z2 _ _ _ #[WK A7 xt.bh.length c7,ZT eQ xt.ar,ZT eQ xt.a8] rfl HW.o 1 rfl _ rfl rfl (by simp[Wx]) Zx Z0 a1 ?_;intro V6 w6 f A;have Z:=LH (d.o V6 w6 f (HB.o.trans (qat A HW.o HB.o)));clear f A S R Q N d;go_wp2_with fail;go_roundw;exact Z.o;simp[intOf];omega
  have K:(D == 3)=L1:=by simp;omega
  have a6:(D == 2)=L1:=by simp;omega
  have ak:decide (D=3)=L1:=by simp;omega
  have aj:decide (D=2)=L1:=by simp;omega
  have d:=LH (show Uo w H L u3 (ZT eQ ((i:Int)+1)) wr from⟨i+1,rfl,Z0,by rw[a0.o h3];exact HW.o,HB.o⟩);clear h3;go_wp2_with fail;refine M.o.mono ?_;rintro e O ⟨rfl,rfl⟩;go_wp2_with fail;go_roundw;exact d.o;simp[intOf];omega
 obtain rfl:i=L.length:=by omega
 have HF:=LH (show Un (Bn H T) B w (ZY u3) wr from⟨u3,Ds H L L.length,rfl,⟨hw,λx E=>⟨Jc (Y.o.bh x (qdh E)).1 n,(Y.o.bh x (qdh E)).2.1⟩,λt ht=>by
  obtain⟨x,E,rfl⟩:=ZE.1 ht;exact ae.o x.t (Y9 (qdh E))⟩,ab.o,n⟩)
 clear hw;go_wp2_with fail;go_ret;exact HF.o
end
def q6a(x:ActX):List S2:=[ZT eQ x.aX,ZT eQ x.tx,ZT eQ x.a,ZV x.val]
def TP:∀(l:List ActX)(j:Nat)(x:ActX),l[j]? = Bs x->∀i,i<4->(l.flatMap q6a)[j*4+i]? = (q6a x)[i]?
 |[],j,p,h,i,c=>by simp at h
 |q::l,0,p,h,i,c=>by
  simp at h;subst h;rw[VH,VZ (by show _<4;omega)];simp
 |q::l,j+1,p,h,i,c=>by
  have f:l[j]? = Bs p:=Z6 h;have e:(j+1)*4+i=(j*4+i)+4:=by omega
  have d:(q6a q).length=4:=rfl;rw[e,VH,Wg (by rw[d];omega),d,Nat.add_sub_cancel];exact TP l j p f i c
def Rd.eO{B:Nat}{A:Option Addr}{l:List ActX}(h:Rd w B 4 A n (l.flatMap q6a))(hl:l.length=n)(v:j<n):∃g c x,A=Bs ⟨g,c,B0⟩/\g<B/\l[j]? = Bs x/\
  w.cell? ⟨g,c+j*4,B0⟩=Bs (ZT eQ x.aX)/\w.cell? ⟨g,c+j*4+1,B0⟩=Bs (ZT eQ x.tx)/\w.cell? ⟨g,c+j*4+2,B0⟩=Bs (ZT eQ x.a)/\w.cell? ⟨g,c+j*4+3,B0⟩=Bs (ZV x.val):=by
 obtain⟨g,c,e,u,f⟩:=h.2 Z0;have q:l[j]? = Bs l[j]:=K0 Z0;have d:=TP l j _ q;exact⟨g,c,l[j],e,u,q,f (j*4) _ (d 0 Z0),f (j*4+1) _ (d 1 Z0),f (j*4+2) _ (d 2 Z0),f (j*4+3) _ (d 3 Z0)⟩
def Dg.a5{own:Ah}{P:Av}{H:Hs}{o:Nat}{safe:Bool}(K:EO w w1 own P H)(u:NmI w r o k)(nodes:Int){f:D0}(d:VI w1.heap.size w1 f)(c:Ae f w1.heap.size 37 #[pw P.g,WK B0 0 0,ZT eQ 0,ZX safe,ZT eQ nodes]) :
  Dg f own P (λb=>b=w1.heap.size) w1.heap.size r o k H [] 0 safe nodes n:=by
 have v:=K.below d;have C:=u.lt0;have A:=u.lt;have z:=K.bl.size;refine⟨v.hi,v.ns,⟨WK B0 0 0,[],⟨c,VW _ _ _ _,λx q=>(nomatch q),λi j x y h=>by simp at h⟩,rfl,λb d=>?_⟩,u.fr (Ef v.bl) (λh=>Z0) (λh=>Z0),?_,?_,?_,?_⟩;obtain rfl|d|⟨x,q,_⟩:=d;rfl;simp[Value.ownBlock]at d;cases q;cases e:own 0 with
 |none=>rfl
 |some t=>have:=K.lo 0 (by rw[e];simp);omega
 cases e:own r with
 |none=>rfl
 |some t=>have:=K.lo r (by rw[e];simp);omega
 rintro b rfl;exact⟨K.hi.free (Hi _),Z0,Z0⟩;rintro b rfl;exact c.lt
structure StuI(H:Hs)(G:Gh)(T:List Au)(i:Int):Prop where
 eH:AA H G (4+3*i)
 sto:Bm H G T i
 dk:BH T
 m7:T.length<=7
def StuI.dp{H:Hs}{i:Int}{safe:Bool}{nodes:Nat}{x:ActX}(h:StuI H G T i)(q:0<=i/\i<=10000)(r:Bf safe nodes (i+1) x H T H' T'):∃c,StuI H' c (Bq H' (i+1) T') (i+1):=by have f:=h.sto.len;have d:=h.m7;have n:=r.cnt h.eH.a Z0 f d;obtain⟨c,s1,s2⟩:=h.eH.mid h.sto Z0 Z0 d r;exact⟨c,s1.mono Z0,s2.late,(h.dk.mid h.eH Z0 r).late _ _,by rw[QC];exact n.2.1⟩
def Ri{d:List (Int×Int)}{mode:Int}(h:q6x d tx mode=L1){w:Int×Int}(f:w∈d)(c:w.1<tx):w.2≠2/\mode≠2:=by unfold q6x at h;rw[List.any_eq_false]at h;have:=h w f;unfold AN at this;simp only[Wl,decide_eq_true_eq,X7,not_and,not_or]at this;exact this c
def OX{h:Int->Option Int}{mode:Int}{q:List (Int×Int)}(r:DV h)(d:Bt mode)(n:Cx h tx mode q){w:Int×Int}(u:w∈q){p m:Int}(c:Az h tx mode p=Bs m)(f:w.1<p)(y:m=2\/w.2=2):h p=Bs m:=by by_cases e:p=tx;subst e;obtain n|⟨_,v⟩:=n;rw[q8r d n]at c;exact c;have z:=Ri v u f;by_cases x:mode<=AE h p;rw[q8r d x]at c;exact c;rw[q4d]at c;injection c with c;have:=r.dD p;unfold Bt at d;omega;rw[UX e]at c;exact c
def q8j:∀(ws left:List (Int×Int)) (h:Int->Option Int),DV h->(∀w∈left++ws,Bt w.2)->(left++ws).Pairwise (·.1 < ·.1)->DX h left->
  ∀w∈(DP h left ws).2.1,∀p m,(DP h left ws).1 p=Bs m->w.1<p->(m=2\/w.2=2)->h p=Bs m
 |[],left,h,r,C,hs,K=>λw d p m c _ _=>by rw[q39]at c;exact c
 |v::ws,left,h,r,C,hs,K=>λw d p m c n J=>by
  have f:=C v Z3;have y:(left++ws).Pairwise (·.1 < ·.1):=hs.sublist Z3;have I:∀u∈left++ws,u.1≠v.1:=λu q=>Gg hs q
  unfold DP at d c;by_cases e:Ai h v.1 v.2 left=VD;rw[Z8 e]at d c;have D:=SU.1 e;have L:=r.dN f D;have z:∀u∈left++ws,Bt u.2:=λu q=>C u (by simp at *;obtain h|h:=q;exact eR h;exact eS (eS h))
  have A:=K.dN r f (λu q=>I u (by simp[q]));have E:=q8j ws left (Az h v.1 v.2) L z y A w d p m c n J;have x:=(q7r ws left (Az h v.1 v.2) L z y A).e0 w d;by_cases M:p=v.1;obtain g|g:=ZD.1 x;exact OX r f D g E n J;have:=(ZL.1 (ZM.1 hs).2.1).1 w g;omega;rw[UX M]at E;exact E;rw[Z7 e]at d c;exact q8j ws (left++[v]) h r (Z6 C) (Z6 hs) (K.cR (λD=>e (SU.2 D))) w d p m c n J
def SH{T:Tb}(g:GT T){x:Sx}{o m p:Int}(c:Wt (Bp T tx) x o m)(h:(Ad (Bp T tx) x).h p=Bs f)(n:o<p)(u:f=2\/m=2):Wt T x o m/\(Ad T x).h p=Bs f/\p≠tx:=by obtain⟨_,v⟩:=qci g c;have d:=(qdk g h).1;rw[(q5m T tx x).1]at h;unfold Wt at c;rw[(q5m T tx x).2]at c;have q:=g x;have:=q8j (AG (Ad T x).ws tx) [] (Bj (Ad T x).h tx B0) (q.eF.off tx) (λw c=>q.wm w (ZG.1 c).1) (qar q.aH tx) (DX.nil _) (o,m) c p f h n u;unfold Bj at this;rw[Z7 d]at this;exact⟨v,this,d⟩
def lock_yb{T:Tb}(g:GT T){mode:Int}(u:Bt mode){x:Sx}{o m p:Int}(d:Wt (Ap T tx y mode) x o m)(c:(Ad (Ap T tx y mode) x).h p=Bs f)(n:o<p)(v:f=2\/m=2) :
  (Wt T x o m\/(o=tx/\x=y/\m=mode/\Ai (Ad T y).h tx mode (Ad T y).ws=L1))/\(Ad T x).h p=Bs f:=by
 refine⟨E2 d,?_⟩;obtain h|⟨rfl,z,⟨q,h⟩|⟨q,h⟩⟩:=q4l T tx y mode x;rw[h]at c;exact c;unfold Wt at d;rw[h]at d c;exact OX (g x).eF u (SU.1 q) d c n v;rw[h]at c;exact c
def Do(d c:Nd):Prop:=c.id=d.id/\c.ad=d.ad/\c.aI=d.aI/\c.aN=d.aN
def Do.refl(d:Nd):Do d d:=⟨rfl,rfl,rfl,rfl⟩
def Do.trans{a b c:Nd}(h:Do a b)(k:Do b c):Do a c:=⟨k.1.trans h.1,k.2.1.trans h.2.1,k.2.2.1.trans h.2.2.1,k.2.2.2.trans h.2.2.2⟩
def Do.aD(d:Nd):Do d d.aD.1:=⟨(ES d).1,(ES d).2.2.1,(ES d).2.2.2.1,(ES d).2.2.2.2⟩
def Do.aP(d:Nd)(c:Cm):Do d (d.aP c).1:=by unfold Nd.aP;split;exact Do.trans (b:=d.push c) ⟨rfl,rfl,rfl,rfl⟩ (Do.aD _);exact⟨rfl,rfl,rfl,rfl⟩
def Do.add(d:Nd)(c:Cm)(b:Bool):Do d (d.add c b).1.1:=by by_cases f:(d.add c b).2.2=0;rw[(P5 f).1];exact .aP d c;rw[qea f];exact .refl d
def Do.step(d:Nd)(m:Ms):Do d (d.step m).1:=by unfold Nd.step;split;exact .refl d;simp only;split;exact .refl d;split;exact .refl d;split;exact .aP d _;split;exact⟨rfl,rfl,rfl,rfl⟩;exact .refl d
structure AX(H H':Hs):Prop where
 n:H'.n=H.n
 c:H'.c=H.c
 nd:∀s j,Do ((H.sh s).nd j) ((H'.sh s).nd j)
 aq:∀s,(H'.sh s).aq=(H.sh s).aq
 ad:∀s,(H'.sh s).ad=(H.sh s).ad
 size:∀s,(H'.sh s).size=(H.sh s).size
 down:H'.net.aq=H.net.aq
def AX.refl(H:Hs):AX H H:=⟨rfl,rfl,λ_ _=>.refl _,λ_=>rfl,λ_=>rfl,λ_=>rfl,rfl⟩
def AX.trans{A B C:Hs}(h:AX A B)(k:AX B C):AX A C:=
 ⟨k.n.trans h.n,k.c.trans h.c,λs j=>(h.nd s j).trans (k.nd s j),λs=>(k.aq s).trans (h.aq s),λs=>(k.ad s).trans (h.ad s),λs=>(k.size s).trans (h.size s),k.down.trans h.down⟩
section
variable {H H':Hs}{i:Nat}
def AX.lv(h:AX H H') : Lv H' s j↔Lv H s j:=by unfold Lv;rw[h.n,h.aq,(h.nd s j).1]
def AX.head(h:AX H H')(k:Nat):H'.head k=H.head k:=PZ h.n (h.aq k) (λj=>⟨(h.nd k j).1,by unfold Nd.head;rw[(h.nd k j).2.2.2]⟩)
def AX.cN(h:AX H H')(k:Nat):(H'.sh k).ai H'.n=(H.sh k).ai H.n:=by unfold Bv.ai;rw[h.n,h.aq];exact XK (λj _=>by rw[(h.nd k j).1])
def AX.bX(h:AX H H'){L:List Nat}(g:Cfg H s L):Cfg H' s L:=
 ⟨g.aH,by rw[h.n];exact g.lt,λj c=>g.mem j (h.lv.1 c),λj c=>by
  obtain⟨a,b,p,q1,d⟩:=g.nd j (h.lv.1 c);exact⟨by rw[(h.nd s j).2.1,h.ad];exact a,by rw[(h.nd s j).2.2.1];exact b,p,q1,by rw[(h.nd s j).2.2.2];exact d⟩⟩
def AX.ay(H:Hs)(i:Nat)(t:Bu):AX H (H.ay i t):=⟨rfl,rfl,λ_ _=>.refl _,λ_=>rfl,λ_=>rfl,λ_=>rfl,rfl⟩
def AX.take(H:Hs)(s:Nat):AX H (H.take s):=by
 have t:=BK.take H s;have c:∀k,((H.take s).sh k).nd=(H.sh k).nd/\((H.take s).sh k).aq=(H.sh k).aq/\((H.take s).sh k).ad=(H.sh k).ad/\((H.take s).sh k).size=(H.sh k).size:=λk=>by
  by_cases e:k=s;subst e;exact⟨t.nd,t.aq,t.ad,t.size⟩;rw[t.sh k e];exact⟨rfl,rfl,rfl,rfl⟩
 exact⟨t.n,t.c,λk j=>by rw[(c k).1];exact .refl _,λk=>(c k).2.1,λk=>(c k).2.2.1,λk=>(c k).2.2.2,by rw[t.net]⟩
def AX.au{s j:Nat}{d:Nd}(h:Do ((H.sh s).nd j) d):AX H (H.au s j d):=by
 have c:∀k a,Do ((H.sh k).nd a) (((H.au s j d).sh k).nd a)/\((H.au s j d).sh k).aq=(H.sh k).aq/\((H.au s j d).sh k).ad=(H.sh k).ad/\((H.au s j d).sh k).size=(H.sh k).size:=λk a=>by
  by_cases e:k=s;subst e;rw[EH];refine⟨?_,rfl,rfl,rfl⟩;show Do _ (Af (H.sh k).nd j d a);by_cases f:a=j;subst f;rw[Aq];exact h;rw[Ay f];exact .refl _;rw[Jb H j d e];exact⟨.refl _,rfl,rfl,rfl⟩
 exact⟨rfl,rfl,λk a=>(c k a).1,λk=>(c k 0).2.1,λk=>(c k 0).2.2.1,λk=>(c k 0).2.2.2,rfl⟩
def AX.aO(H:Hs)(ms:List Ms):AX H (H.aO ms):=⟨rfl,rfl,λ_ _=>.refl _,λ_=>rfl,λ_=>rfl,λ_=>rfl,q38 _ _⟩
def AX.net(H:Hs){n:Be}(h:n.aq=H.net.aq):AX H {H with net:=n}:=⟨rfl,rfl,λ_ _=>.refl _,λ_=>rfl,λ_=>rfl,λ_=>rfl,h⟩
def AX.add(H:Hs)(s j:Nat)(c:Cm)(b:Bool):AX H (H.add s j c b).2:=by unfold Hs.add;split;exact .refl H;exact((AX.au (Do.add _ c b)).trans (.aO _ _)).trans (.take _ _)
def AX.aC(H:Hs)(i:Nat)(kind:Int)(k:Nat):AX H (H.aC i kind k):=by
 cases c:H.head k with
 |none=>rw[J6 c];exact .refl H
 |some j=>
  rw[Jd c];split;exact .add _ _ _ _ _;exact .refl H
def AX.br(i:Nat)(kind:Int):∀(ks:List Nat)(H:Hs),AX H (telld H i kind ks)
 |[],H=>.refl H
 |k::ks,H=>(AX.aC H i kind k).trans (AX.br i kind ks _)
def AX.cK(i:Nat):∀(ks:List Nat)(H:Hs),AX H (reld H i ks)
 |[],H=>.refl H
 |k::ks,H=>by
  refine AX.trans (B:=H.bF k i) ?_ (AX.cK i ks (H.bF k i));have c:∀a,(H.bF k i).sh a=if a=k then {H.sh k with tab:=Bp (H.sh k).tab i}else H.sh a:=λa=>by
   show(Af H.sh k _ a)=_;unfold Af;rfl
  refine⟨rfl,rfl,λa j=>?_,λa=>?_,λa=>?_,λa=>?_,rfl⟩<;>rw[c]<;>split<;>first|(rename_i e;subst e;first|rfl|exact .refl _)|first|rfl|exact .refl _
def AX.a3(H:Hs)(i:Nat):AX H (H.a3 i):=by rw[I9];exact((AX.ay H i _).trans (.cK i _ _)).trans (.br i 4 _ _)
def AX.aD(H:Hs)(s j:Nat):AX H (Hs.bf s H j):=(AX.au (Do.aD _)).trans (.aO _ _)
def AX.av(H:Hs)(i:Nat):AX H (H.av i):=by have e:=FI H i;exact⟨e.1,e.2.1,λs j=>by rw[e.2.2.2.1];exact .refl _,λs=>by rw[e.2.2.2.1],λs=>by rw[e.2.2.2.1],λs=>by rw[e.2.2.2.1],by rw[e.2.2.2.2]⟩
def AX.aE(H:Hs)(k:Nat)(m:Ms):AX H (({H with net:=takeS H.net k} : Hs).aE m):=by
 cases c:Hs.node {H with net:=takeS H.net k} m.a8 with
 |none=>rw[Je c];exact .net H rfl
 |some r=>
  obtain⟨s,j⟩:=r;rw[Jf c];have f:AX H {H with net:=takeS H.net k}:=.net H rfl;exact((f.trans (AX.au (H:={H with net:=takeS H.net k}) (s:=s) (j:=j) (d:=(((H.sh s).nd j).step m).1) (Do.step _ m))).trans (.aO _ _)).trans (.take _ _)
def AX.b7(H:Hs)(i k:Nat)(x:Sx)(mode:Int):AX H (H.b7 i k x mode):=by
 have c:∀a,(H.b7 i k x mode).sh a=if a=k then {H.sh k with tab:=Ap (H.sh k).tab i x mode}else H.sh a:=λa=>by
  show(Af H.sh k _ a)=_;unfold Af;rfl
 refine⟨rfl,rfl,λa j=>?_,λa=>?_,λa=>?_,λa=>?_,rfl⟩<;>rw[c]<;>split<;>first|(rename_i e;subst e;first|rfl|exact .refl _)|first|rfl|exact .refl _
def By.bz(s:By H H'):AX H H':=by
 cases s with
 |a3=>exact .a3 _ _
 |tell=>exact .aC _ _ _ _
 |prep=>exact .add _ _ _ _ _
 |place=>exact .ay _ _ _
 |av=>exact .av _ _
 |decide=>exact .add _ _ _ _ _
 |commit=>exact .ay _ _ _
 |aA=>exact .ay _ _ _
 |@got i x mode=>exact .b7 _ _ _ _ _
 |@wait i x mode=>exact(AX.b7 _ _ _ _ _).trans (.ay _ _ _)
 |aD=>exact .aD _ _ _
 |aE=>exact .aE _ _ _
def Ag.bz(s:Ag H H'):AX H H':=by
 induction s with
 |refl=>exact .refl _
 |step h _ c=>exact h.bz.trans c
def SzI(H:Hs):Prop:=∀s,s<3->∀j,Lv H s j->(H.sh s).size=(((H.sh s).nd j).aI.length:Int)
def SzI.bz(h:SzI H)(c:AX H H'):SzI H':=λs hs j d=>by
 rw[c.size,(c.nd s j).2.2.1];exact h s hs j (c.lv.1 d)
end
structure Bi(H:Hs)(ex:Int->Prop):Prop where
 cq:∀k,k<2->∀x (o m:Int),(Ad (H.sh k).tab x).h o=Bs m->(1<=o/\o<=H.m)/\k∈(H.tx o.toNat).ag/\((H.tx o.toNat).aa=1\/(H.tx o.toNat).aa=2\/∀j,H.head k=Bs j->EL (lg H k j) o)
 yb:∀k,k<2->∀x (o m p mp:Int),Wt (H.sh k).tab x o m->(Ad (H.sh k).tab x).h p=Bs mp->o<p->(mp=2\/m=2)->¬ex p->(H.tx p.toNat).aa≠1
structure CaS(H H':Hs):Prop where
 m:H.m<=H'.m
 tab:∀k,k<2->(H'.sh k).tab=(H.sh k).tab
 hd:∀k j,k<2->H'.head k=Bs j->H.head k=Bs j/\lg H' k j=lg H k j
 cm:∀i,1<=i->i<=H.m->∀k∈(H.tx i).ag,k∈(H'.tx i).ag
 st:∀i,1<=i->i<=H.m->(H'.tx i).aa=(H.tx i).aa\/((H.tx i).aa=1/\(H'.tx i).aa=2)
section
variable {H H':Hs}{G:Gh}{ex:Int->Prop}{i:Nat}{B:Int}
def Bi.mono{f:Int->Prop}(h:Bi H ex)(u:∀p,ex p->f p):Bi H f:=⟨h.cq,λk q x o m p n a b c d e=>h.yb k q x o m p n a b c d (λg=>e (u p g))⟩
def Bi.same(h:Bi H ex)(s:CaS H H'):Bi H' ex:=by
 refine⟨λk c x o m u=>?_,λk c x o m p n q d f E D=>?_⟩;rw[s.tab k c]at u;obtain⟨⟨C,J⟩,a3,I⟩:=h.cq k c x o m u;have A:1<=o.toNat:=by omega
 have z:o.toNat<=H.m:=by omega
 refine⟨⟨C,Z4 s.m⟩,s.cm _ A z k a3,?_⟩;obtain e|⟨_,e⟩:=s.st _ A z;rw[e];exact I.imp id (Y7 id (λh j v=>by rw[(s.hd k j c v).2];exact h j (s.hd k j c v).1));exact eS (eR e);rw[s.tab k c]at q d;have y:=h.yb k c x o m p n q d f E D;obtain⟨⟨C,J⟩,_⟩:=h.cq k c x p n d;obtain e|⟨e,_⟩:=s.st p.toNat Z0 Z0;rw[e];exact y;exact ZB e y
def O9.ca(s:O9 H H'):CaS H H':=
 ⟨by rw[s.m];exact Hi _,λk c=>(s.tab k Z0).1,λk j c d=>⟨s.hd k j Z0 d,s.lh k j Z0 d⟩,λi _ _ k c=>by rw[DQ (s.tx i).2.2.1];exact c,λi _ _=>eR (s.tx i).1⟩
def EL.cR{l:List Cm}{o:Int}(h:EL l o){c:Cm}(q:c.tx≠o\/c.aj=2):EL (l++[c]) o:=by
 obtain⟨C,A,z⟩:=h;have f:∀n,n=3\/n=4->¬An l n o->¬An (l++[c]) n o:=λn D x y=>by
  obtain⟨d,u,e1,v⟩:=y;obtain g|g:=ZD.1 u;exact x ⟨d,g,e1,v⟩;rw[VU]at g;subst g;obtain q|q:=q;exact q v;omega
 exact⟨C.mono (λd u=>VM _ u),f 3 (eR rfl) A,f 4 (eS rfl) z⟩
def Bi.ee{c:Cm}{X:Nat->Int->Prop}(h:Bi H ex)(D:SI H G X)(hs:s<3)(hh:H.head s=Bs j)(a:UO H s j i c)(f:AddF H H' s j c):Bi H' ex:=by
 have U:∀x,(H'.tx x).ag=(H.tx x).ag:=λx=>DQ (f.tx x).2.2.1
 have R:∀k q,k≠s->lg H' k q=lg H k q:=λk q e=>by rw[f.lg,Z7 (λh=>e h.1)]
 have I:lg H' s j=lg H s j++[c]:=by rw[f.lg,Z8 ⟨rfl,rfl⟩]
 refine⟨λk A x o m z=>?_,λk A x o m p K u n v C S=>?_⟩;rw[f.m,U,(f.tx _).1];by_cases e:k=s;subst e;rw[f.tab]at z;have Y:∀m,(Ad (H.sh k).tab x).h o=Bs m->(c.tx≠o\/c.aj=2)->(1<=o/\o<=H.m)/\k∈(H.tx o.toNat).ag/\((H.tx o.toNat).aa=1\/(H.tx o.toNat).aa=2\/∀j,H'.head k=Bs j->EL (lg H' k j) o):=λm hm C=>by
  obtain⟨q1,E,L⟩:=h.cq k A x o m hm;refine⟨q1,E,L.imp id (Y7 id (λh O d=>?_))⟩;rw[f.head,hh]at d;injection d with d;subst d;rw[I];exact(h _ hh).cR C
 by_cases y:c.aj=2;rw[q7k y]at z;obtain⟨N,Z,_,_,_,_,_,M⟩:=a.pr y;have J:=SO c.ae (i:=c.tx) (D.gt k hs) (λp n=>by rw[a.tx];exact M p n);obtain g|⟨g,_⟩:=J.cq x o m z;exact Y m g (eS y);rw[a.tx]at g;subst g;have:=a.ir.1;have:=a.ir.2;rw[show((i:Int)).toNat=i by omega];exact⟨⟨Z0,Z0⟩,Z,eS (eR N)⟩;rw[SQ (by obtain g|g|g:=a.aj;exact ZB g y;exact eR g;exact eS g)]at z;obtain⟨Q,g|⟨md,g⟩⟩:=qdk (D.gt k hs) z;exact Y m g (eR (Ne.symm Q));obtain⟨w1,w2,w3,w4⟩:=D.wt k A x o md g;exact⟨w1,D5.2 ⟨Z0,by rw[w3];simp⟩,eR w2⟩;rw[f.sh k e]at z;obtain⟨q1,E,L⟩:=h.cq k A x o m z;exact⟨q1,E,L.imp id (Y7 id (λh O d=>by rw[f.head]at d;rw[R k O e];exact h O d))⟩;rw[(f.tx _).1];by_cases e:k=s;subst e;rw[f.tab]at u n;by_cases y:c.aj=2;rw[q7k y]at u n;obtain⟨N,Z,_,_,_,_,_,M⟩:=a.pr y;have J:=SO c.ae (i:=c.tx) (D.gt k hs) (λp n=>by rw[a.tx];exact M p n);unfold Wt at u;rw[J.ws]at u;obtain g|⟨g,_⟩:=J.cq x p K n;exact h.yb k A x o m p K u g v C S;rw[a.tx]at g;subst g;rw[show((i:Int)).toNat=i by have:=a.ir.1;omega,N];decide;rw[SQ (by obtain g|g|g:=a.aj;exact ZB g y;exact eR g;exact eS g)]at u n;obtain⟨q1,E,_⟩:=SH (D.gt k hs) u n v C;exact h.yb k A x o m p K q1 E v C S;rw[f.sh k e]at u n;exact h.yb k A x o m p K u n v C S
def Bi.aC{n:Nat->Int->Prop}(h:Bi H ex)(d:SI H G n)(q:Wf H)(f:Di H)(y:1<=i)(x:i<=H.m){kind:Int}{k:Nat}(v:k<2)(hs:(kind=3/\(H.tx i).aa=3)\/(kind=4/\(H.tx i).aa=4)):Bi (H.aC i kind k) ex:=by
 cases c:H.head k with
 |none=>rw[J6 c];exact h
 |some j=>
  rw[Jd c];split;rename_i u;exact h.ee d Z0 c (FZ q y x v hs (RE.1 u.1)) (q5n (b:=L1) c (d.dB f q.cr Z0 c _ _) (d.dn k j Z0 c));exact h
def Bi.br{kind:Int}(f:1<=i):∀(ks:List Nat) {H:Hs} {d:Nat->Int->Prop},Bi H ex->SI H G d->Wf H->Di H->H.c=3->i<=H.m->(∀k∈ks,k<2)->((kind=3/\(H.tx i).aa=3)\/(kind=4/\(H.tx i).aa=4))->Bi (Go.Proofs.YtccahlhdifadfaaGreatDoor.telld H i kind ks) ex
 |[],H,d,h,_,_,_,_,_,_,_=>h
 |k::ks,H,d,h,si,wf,lgi,hc,hi,hk,hs=>by
  have e:=Ee H i kind k;have c:=hk k VB;exact Bi.br f ks (h.aC si wf lgi f hi c hs) (si.aC wf lgi hc f hi c hs) (wf.aC f hi Z0 _)
   (lgi.aC f hi c (hs.imp (λ⟨a,b⟩=>⟨a,b,lgi.ct i f hi b⟩) id)) (e.2.1.trans hc) (by rw[e.2.2.1];exact hi) (λx n=>hk x (VE _ n)) (by rw[(e.2.2.2.2 i).1];exact hs)
def Bi.bM(h:Bi H ex)(M:SI H G (λ_ _=>False))(h1:1<=i)(hi:i<=H.m):Bi (reld (H.an i) i (H.tx i).ag) (λp=>ex p/\p≠(i:Int)):=by
 have L:=q2x (H.tx i);have a1:∀k∈(H.tx i).ag,k<2:=λk c=>Cb c
 have a0:∀k,k∈(H.tx i).ag↔k∈(H.tx i).ag:=λ_=>Iff.rfl
 generalize R:(H.tx i).ag=ks at *;have u:=Gv i ks (H.an i);have Q:=q8i i ks (H.an i) L;have S:∀k,(reld (H.an i) i ks).head k=H.head k:=λk=>(qae i ks (H.an i) L k).trans (RD rfl rfl)
 have U:AP H (reld (H.an i) i ks):=(AP.ay H i _).trans (LV i ks _);generalize hK:reld (H.an i) i ks=K at *;have D:∀a,((H.an i).tx a).aa=(if a=i then 4 else(H.tx a).aa)/\((H.an i).tx a).af=(H.tx a).af:=λa=>by
  show((Af H.tx i _ a).aa=_/\(Af H.tx i _ a).af=_);by_cases e:a=i;subst e;rw[Aq,Z8 rfl];exact⟨rfl,rfl⟩;rw[Ay e,Z7 e];exact⟨rfl,rfl⟩
 have q:∀a,(K.tx a).aa=if a=i then 4 else(H.tx a).aa:=λa=>((u.2.2.2.2 a).1).trans (D a).1
 have E:∀a,(K.tx a).ag=(H.tx a).ag:=λa=>DQ (((u.2.2.2.2 a).2.2.1).trans (D a).2)
 have X:K.m=H.m:=u.2.2.1;have n:∀k,(K.sh k).tab=if k∈ks then Bp (H.sh k).tab i else(H.sh k).tab:=λk=>by rw[Q];split<;>rfl
 have z:∀k,k<2->∀x (o m:Int),(Ad (H.sh k).tab x).h o=Bs m->o≠i->(1<=o/\o<=K.m)/\k∈(K.tx o.toNat).ag/\((K.tx o.toNat).aa=1\/(K.tx o.toNat).aa=2\/∀j,K.head k=Bs j->EL (lg K k j) o):=λk c x o m d f=>by
  obtain⟨q1,y,N⟩:=h.cq k c x o m d;rw[X,E,q,Z7 Z0];exact⟨q1,y,N.imp id (Y7 id (λh j Y=>by rw[U.lg];rw[S]at Y;exact h j Y))⟩
 have A:∀k,k<2->k ∉ ks->∀x (o m:Int),(Ad (H.sh k).tab x).h o=Bs m->o≠i:=λk c L x o m d e=>by
  have:=(h.cq k c x o m d).2.1;rw[e,show((i:Int)).toNat=i by omega,R]at this;exact L this
 refine⟨λk c x o m d=>?_,λk c x o m p O J v C Z he=>?_⟩;rw[n]at d;split at d;obtain⟨f,g|⟨md,g⟩⟩:=qdk (M.gt k Z0) d;exact z k c x o m g f;obtain⟨w1,w2,w3,w4⟩:=M.wt k c x o md g;rw[X,E,q,Z7 Z0];exact⟨w1,D5.2 ⟨Z0,by rw[w3];simp⟩,eR w2⟩;rename_i g;exact z k c x o m d (A k c g x o m d);rw[n]at J v;have I:p≠i->Wt (H.sh k).tab x o m->(Ad (H.sh k).tab x).h p=Bs O->(K.tx p.toNat).aa≠1:=λf q1 y=>by
  rw[q];split;decide;exact h.yb k c x o m p O q1 y C Z (λg=>he ⟨g,f⟩)
 split at J;rename_i g;rw[Z8 g]at v;obtain⟨q1,y,N⟩:=SH (M.gt k Z0) J v C Z;exact I N q1 y;rename_i g;rw[Z7 g]at v;exact I (A k c g x p O v) J v
def Li(d:Di H)(hs:(H.tx i).aa=1\/((H.tx i).aa=2/\(H.tx i).ah=0)):Di (reld (H.an i) i (H.tx i).ag):=by
 have c:=Gv i (H.tx i).ag (H.an i);have t1:BC H (H.an i):=by
  refine⟨Hi _,λa _ _ e=>?_,λa _ _ e=>?_,λa _ _ e=>?_⟩;show(Af H.tx i _ a).aa=_;by_cases c:a=i;subst c;rw[e]at hs;obtain h|⟨h,_⟩:=hs<;> cases h;rw[Ay c];exact e;show(Af H.tx i _ a).aa=_;by_cases c:a=i;subst c;rw[Aq];rw[Ay c];exact e;show(Af H.tx i _ a).ah=_;by_cases c:a=i;subst c;rw[Aq];rw[Ay c]
 have u:BC (H.an i) (reld (H.an i) i (H.tx i).ag):=BC.of c.2.2.1 (λa=>⟨(c.2.2.2.2 a).1,(c.2.2.2.2 a).2.2.2.2⟩);have f:AU H (reld (H.an i) i (H.tx i).ag):=λa v n e=>by
  rw[(c.2.2.2.2 a).1]at e;have e:(Af H.tx i _ a).aa=3:=e;refine⟨by rw[c.2.2.1]at n;exact n,?_⟩;by_cases q:a=i;subst q;rw[Aq]at e;cases e;rw[Ay q]at e;exact e
 exact d.sub (t1.trans u) f (BU.same ((AP.ay H i _).trans (LV i _ _)))
def Bi.a3(h:Bi H ex)(y:SI H G (λ_ _=>False))(z:Wf H)(q:Di H)(A:H.c=3)(d:1<=i)(c:i<=H.m)(hs:(H.tx i).aa=1\/((H.tx i).aa=2/\(H.tx i).ah=0)):Bi (H.a3 i) (λp=>ex p/\p≠(i:Int)):=by
 rw[I9];have C:=h.bM y d c;have s2:=y.bM d c hs;have f:=Gv i (H.tx i).ag (H.an i);have n:Wf (reld (H.an i) i (H.tx i).ag):=(z.an d c).cK i _ (λk v=>by show k<H.c;have:=Cb v;omega);have u:((reld (H.an i) i (H.tx i).ag).tx i).aa=4:=by
  rw[(f.2.2.2.2 i).1];show(Af H.tx i _ i).aa=4;rw[Aq]
 have x:((reld (H.an i) i (H.tx i).ag).tx i).ag=(H.tx i).ag:=DQ (by rw[(f.2.2.2.2 i).2.2.1];show(Af H.tx i _ i).af=_;rw[Aq]);show Bi (Go.Proofs.YtccahlhdifadfaaGreatDoor.telld _ i 4 _) _;rw[x];exact Bi.br (kind:=4) d (H.tx i).ag C s2 n (Li q hs) (f.1.trans A) (by rw[f.2.2.1];exact c) (λk v=>Cb v) (eS ⟨rfl,u⟩)
def Bi.prep(h:Bi H ex)(d:SI H G (λ_ _=>False))(a:Ac H B){k j:Nat}(b:Bool)(x:1<=i)(u:i<=H.m)(f:k∈(H.tx i).ag)(c:H.head k=Bs j)(n:¬An (lg H k j) 2 i)(hs:(H.tx i).aa=2)
  (v:(H.tx i).af k=Bs (H.sh k).ad):Bi (H.add k j ⟨2,i,0,(H.tx i).of k⟩ b).2 ex:=by
 have q:=Cb f;exact h.ee d Z0 c (d.db a x u f c n hs v) (q5n (b:=b) c (d.dB a.bT a.wf.cr Z0 c _ _) (d.dn k j Z0 c))
def Bi.decide(h:Bi H ex){j:Nat}(c:Cm)(b:Bool):Bi (H.add 2 j c b).2 ex:=by have e:=Dt H 2 j c b;refine h.same ⟨by rw[e.2.2.1];exact Hi _,λk d=>by rw[qcy H 2 j c b Z0],λk q d f=>?_,λa _ _ k d=>by rw[DQ (e.2.2.2.2 a).2.2.1];exact d,λa _ _=>eR (e.2.2.2.2 a).1⟩;rw[q4m]at f;exact⟨f,by unfold lg;rw[qcy H 2 j c b Z0]⟩
def Bi.av(h:Bi H ex)(i:Nat):Bi (H.av i) ex:=by
 have e:=FI H i;have d:∀a,((H.av i).tx a).af=(H.tx a).af:=λa=>by
  unfold Hs.av;split;show(Af H.tx i _ a).af=_;by_cases e:a=i;subst e;rw[Aq];rw[Ay e];rfl
 exact h.same ⟨by rw[e.2.2.1];exact Hi _,λk c=>by rw[e.2.2.2.1],λk q c f=>⟨by rw[<- RD e.1 (by rw[e.2.2.2.1])];exact f,by unfold lg;rw[e.2.2.2.1]⟩,λa _ _ k c=>by rw[DQ (d a)];exact c,λa _ _=>eR (q2e H i a)⟩
def Bi.ay(h:Bi H ex){t:Bu}(hs:t.aa=(H.tx i).aa\/((H.tx i).aa=1/\t.aa=2))(f:∀k∈(H.tx i).ag,k∈t.ag):Bi (H.ay i t) ex:=by refine h.same ⟨Hi _,λ_ _=>rfl,λk q _ d=>⟨d,rfl⟩,λa _ _ k c=>?_,λa _ _=>?_⟩;show k∈(Af H.tx i t a).ag;by_cases e:a=i;subst e;rw[Aq];exact f k c;rw[Ay e];exact c;show(Af H.tx i t a).aa=_\/(_/\(Af H.tx i t a).aa=_);by_cases e:a=i;subst e;rw[Aq];exact hs;rw[Ay e];exact eR rfl
def Bi.commit(h:Bi H ex)(D:SI H G (λ_ _=>False))(a:Ac H B)(R:1<=i)(N:i<=H.m)(hs:(H.tx i).aa=2)(K:(H.tx i).ah≠0):Bi (H.aF i 3) ex:=by
 have y:∀b,((H.aF i 3).tx b).aa=(if b=i then 3 else(H.tx b).aa)/\((H.aF i 3).tx b).ag=(H.tx b).ag:=λb=>by
  show(Af H.tx i _ b).aa=_/\(Af H.tx i _ b).ag=_;by_cases e:b=i;subst e;rw[Aq,Z8 rfl];exact⟨rfl,rfl⟩;rw[Ay e,Z7 e];exact⟨rfl,rfl⟩
 refine⟨λk u x o m L=>?_,λk u x o m p I J z A n O=>?_⟩;obtain⟨q1,v,E⟩:=h.cq k u x o m L;rw[(y _).1,(y _).2];refine⟨q1,v,?_⟩;split;rename_i e;refine eS (eS (λj C=>?_));have C:H.head k=Bs j:=C;rw[e]at v;have hl:=(CS C).1;have Q:=(D.tp i ⟨R,N⟩ K).2 k v j hl;have d:∀q,q=3\/q=4->¬An (lg H k j) q i:=λq M n=>by
  obtain⟨c,n,e1,S⟩:=n;obtain⟨p,z⟩:=ZI.1 n;obtain⟨_,f⟩:=a.bT.pl k u j hl p c z;have U:Sn H c.tx=(H.tx i).aa:=by rw[S];rfl
  obtain f|f|f:=f;omega;have:=f.2.1;omega;have:=f.2;omega
 rw[show o=(i:Int) by omega];exact⟨Q,d 3 (eR rfl),d 4 (eS rfl)⟩;exact E;rw[(y _).1];split;decide;exact h.yb k u x o m p I J z A n O
def Bi.aA(h:Bi H ex)(i k:Nat):Bi (H.aA i k) ex:=by refine h.ay (eR rfl) (λq c=>?_);rw[D5]at c ⊢;refine⟨c.1,?_⟩;show AS (H.tx i).af k (H.sh k).ad q≠B0;unfold AS;split;simp;exact c.2
def Bi.b7{n:Int->Prop}{x:Sx}{mode:Int}(h:Bi H ex)(gt:GT (H.sh (Aa x)).tab)(U:1<=i)(S:i<=H.m)(hs:(H.tx i).aa=1)(O:Bt mode)(R:(H.tx i).af (Aa x)=Bs (H.sh (Aa x)).ad)
  (f:∀p,ex p->n p) (L:Ai (Ad (H.sh (Aa x)).tab x).h i mode (Ad (H.sh (Aa x)).tab x).ws=L1->∀p q,(Ad (H.sh (Aa x)).tab x).h p=Bs q->(i:Int)<p->(q=2\/mode=2)->n p):Bi (H.b7 i (Aa x) x mode) n:=by
 have c:∀k,(H.b7 i (Aa x) x mode).sh k=if k=Aa x then {H.sh (Aa x)with tab:=Ap (H.sh (Aa x)).tab i x mode}else H.sh k:=λk=>by
  show(Af H.sh (Aa x) _ k)=_;unfold Af;rfl
 have K:∀k,(H.b7 i (Aa x) x mode).head k=H.head k:=λk=>by
  refine PZ rfl ?_ (λj=>?_)<;>rw[c]<;>split;rename_i e;rw[e];rfl;rename_i e;rw[e];exact⟨rfl,rfl⟩;exact⟨rfl,rfl⟩
 have J:∀k j,lg (H.b7 i (Aa x) x mode) k j=lg H k j:=λk j=>by
  unfold lg;rw[c];split;rename_i e;rw[e];rfl
 have Q:=FJ x;refine⟨λk D y o m u=>?_,λk D y o m p q C v d E I=>?_⟩;have z:∀m,(Ad (H.sh k).tab y).h o=Bs m->(1<=o/\o<=H.m)/\k∈(H.tx o.toNat).ag/\((H.tx o.toNat).aa=1\/(H.tx o.toNat).aa=2\/∀j,(H.b7 i (Aa x) x mode).head k=Bs j->EL (lg (H.b7 i (Aa x) x mode) k j) o):=λm u=>by
  obtain⟨q1,A,N⟩:=h.cq k D y o m u;exact⟨q1,A,N.imp id (Y7 id (λh j M=>by rw[J];rw[K]at M;exact h j M))⟩
 rw[c]at u;split at u;rename_i e;subst e;obtain g|⟨g,rfl⟩:=OG u;exact z m g;subst g;show(_/\_<=(H.m:Int))/\_∈(H.tx _).ag/\((H.tx _).aa=1\/(H.tx _).aa=2\/_)
 rw[show((i:Int)).toNat=i by omega];exact⟨⟨Z0,Z0⟩,D5.2 ⟨Z0,by rw[R];simp⟩,eR hs⟩;exact z m u;rw[c]at C v;split at C;rename_i e;subst e;rw[Z8 rfl]at v;obtain⟨q1,A⟩:=lock_yb gt O C v d E;obtain q1|⟨rfl,rfl,rfl,q1⟩:=q1;exact h.yb _ D y o m p q q1 A d E (λg=>I (f p g));exact ZB (L q1 p q A d E) I;rename_i e;rw[Z7 e]at v;exact h.yb k D y o m p q C v d E (λg=>I (f p g))
def Bi.bc{o:Int}{l:List Int}(h:Bi H (·∈o::l))(u:SI H G (λ_ _=>False))(a:Ac H B):Bi (H.bc o) (·∈l):=by
 unfold Hs.bc;split
 ·rename_i g;refine(h.a3 u a.wf a.bT a.c Z0 Z0 (eR g.2.2)).mono (λp c=>?_);obtain e|e:=ZF.1 c.1;exact ZB e (Z4 c.2);exact e
 rename_i g;refine⟨h.cq,λk n x q m p f y c d A z=>?_⟩;by_cases e:p=o;subst e;obtain⟨⟨q1,v⟩,_⟩:=h.cq k n x p f c;exact λhs=>g ⟨q1,v,hs⟩
 exact h.yb k n x q m p f y c d A (λg=>(ZF.1 g).elim e z)
def Bi.bD:∀(l:List Int) {H:Hs},Bi H (·∈l)->SI H G (λ_ _=>False)->Ac H B->H.m<=40->Bi (Go.Proofs.YtccahlhdifadfaaGreatDoor.woundd H l) (·∈([]:List Int))
 |[],H,h,_,_,_=>h
 |o::l,H,h,si,a,h40=>by
  have c:=q6c a.wf o;obtain⟨s2,d⟩:=SI.aK c si a h40;exact Bi.bD l (h.bc si a) s2 d (by rw[c.sm.m];exact h40)
def Bi.noEx(h:Bi H (·∈([]:List Int))):Bi H (λ_=>False):=h.mono (λ_ g=>(nomatch g))
def Bi.bA{k:Sx}{mode:Int}(h:Bi H (λ_=>False))(D:SI H G (λ_ _=>False))(a:Ac H B)(u:H.m<=40)(C:1<=i)(y:i<=H.m)(hs:(H.tx i).aa=1)(L:k∈names)(v:Bt mode)(M:H.head (Aa k)≠B0)(z:(H.tx i).af (Aa k)=Bs (H.sh (Aa k)).ad)
  (J:Cp (H.tx i).ak k=L1):Bi (H.bA i k mode).2 (λ_=>False):=by
 have n:=D.gt (Aa k) (Z4 (FJ k));by_cases c:CF (Ad (H.sh (Aa k)).tab k).ws i=VD;rw[q2z c];show Bi (H.b7 i (Aa k) k mode) _;rw[q9k (by unfold Ap;rw[Z8 c])];exact h;have c:CF (Ad (H.sh (Aa k)).tab k).ws i=L1:=Z6 c;by_cases d:Ai (Ad (H.sh (Aa k)).tab k).h i mode (Ad (H.sh (Aa k)).tab k).ws=VD;rw[q3d c d];exact h.b7 n C y hs v z (λ_ g=>g) (λg=>by rw[d]at g;cases g);have d:Ai (Ad (H.sh (Aa k)).tab k).h i mode (Ad (H.sh (Aa k)).tab k).ws=L1:=Z6 d;by_cases A:(Ad (H.sh (Aa k)).tab k).ws.length=50;rw[q3e c d A];show Bi (H.b7 i (Aa k) k mode) _;rw[q9k (by unfold Ap;rw[c,Z7 Z3,d,Z7 Z3,Z8 A])];exact h;rw[q2k c d A];have f:=By.wait C y hs L v M z J c d;have s2:=D.step a u f;have R:=(a.step f).1;have Q:Bi ((H.b7 i (Aa k) k mode).bq i k mode) (·∈EG (Ad (H.sh (Aa k)).tab k).h i mode):=by
  refine Bi.ay ?_ (eR rfl) (λq K=>K);refine h.b7 n C y hs v z (λ_ g=>g.elim) (λ_ p E I x N=>?_);have S:=(h.cq (Aa k) (FJ k) k p E I).1;have O:=a.wf.cr;unfold EG;refine ZG.2 ⟨ZE.2 ⟨p.toNat,ZH.2 Z0,by show((p.toNat:Nat):Int)=p;omega⟩,?_⟩;rw[decide_eq_true_iff];exact⟨x,E,I,by unfold AN;simpa using N⟩
 exact(Bi.bD _ Q s2 R u).noEx
def Bi.aJ{id:Int}{k:Sx}{mode:Int}(h:Bi H (λ_=>False))(A:SI H G (λ_ _=>False))(a:Ac H B)(y:H.m<=40)(u:k∈names)(C:Bt mode):Bi (H.aJ id k mode).2 (λ_=>False):=by
 by_cases D:id<1\/H.m<id;rw[q1l D];exact h;obtain⟨i,rfl⟩:∃i:Nat,id=i:=⟨id.toNat,Z0⟩
 have f:1<=i:=by omega
 have d:i<=H.m:=by omega
 by_cases hs:(H.tx i).aa=1
 ·by_cases n:H.head (Aa k)=B0;rw[q4z f d hs (Ex u) n];exact h;by_cases c:Rs H i (Aa k)
  ·rw[q41 f d hs (Ex u) n c];exact(h.a3 A a.wf a.bT a.c f d (eR hs)).mono (λ_ g=>g.1)
  have z:(H.tx i).af (Aa k)=B0\/(H.tx i).af (Aa k)=Bs (H.sh (Aa k)).ad:=by
   cases e:(H.tx i).af (Aa k)with
   |none=>exact eR rfl
   |some v=>exact eS (by rw[Wc (λh=>c ⟨v,e,h⟩)])
  have x:=By.aA f d (FJ k) hs n z;have s2:=A.step a y x;have E:=(a.step x).1;by_cases q:Cp (H.tx i).ak k=VD;rw[q3z f d hs (Ex u) n c q];exact h.aA _ _;have q:Cp (H.tx i).ak k=L1:=Z6 q;rw[q78 f d hs (Ex u) n c q];refine(h.aA i (Aa k)).bA s2 E y f d ?_ u C n ?_ ?_;show(Af H.tx i _ i).aa=1;rw[Aq];exact hs;show(Af H.tx i _ i).af _=_;rw[Aq];show AS _ _ _ _=_;unfold AS;rw[Z8 rfl];rfl;show Cp (Af H.tx i _ i).ak k=L1;rw[Aq];exact q
 rw[q40 f d hs];exact h
def Bi.fix{s:Nat}(h:Bi H ex)(I:SI H G (λ_ _=>False))(a:Ac H B)(K:B<=1000000)(hs:s<3):Bi (H.fix s) ex:=by
 by_cases hl:(H.sh s).ai H.n=[];rw[qe3 hl];exact h;have t:=I.fixT a K hs hl;have f:=(a.fix K hs).2.2.2;have z:=f.lv;have D:∀k,k≠s->(H.fix s).head k=H.head k:=λk d=>RD f.n (f.sh k d)
 have E:∀x,((H.fix s).tx x).ag=(H.tx x).ag:=λx=>DQ (f.tx x).2.2.1
 refine⟨λk d x o m n=>?_,λk d x o m p N c J A R Q=>?_⟩;rw[f.m,E,(f.tx _).1];by_cases e:k=s;subst e;obtain⟨j,v,n,w,c,C,rfl⟩:=t.cq x o m n;have u:Lv H k j:=(z k j (by rw[a.c];omega)).1 (CS v).1;have O:=a.txLog d u c;refine⟨O,(I.pw k j d u w c C).2.1,eS (eS (λq y=>?_))⟩;rw[v]at y;injection y with y;subst y;rw[f.lg];exact n;rw[f.sh k e]at n;obtain⟨q1,M,L⟩:=h.cq k d x o m n;exact⟨q1,M,L.imp id (Y7 id (λh j v=>by rw[f.lg];rw[D k e]at v;exact h j v))⟩;rw[(f.tx _).1];by_cases e:k=s;subst e;unfold Wt at c;rw[t.ws]at c;cases c;rw[f.sh k e]at c J;exact h.yb k d x o m p N c J A R Q
end
inductive Ss:Hs->Hs->Prop where
 |a3 {H:Hs} {i:Nat} (h1:1<=i) (hi:i<=H.m) (hs:(H.tx i).aa=2) (ht:(H.tx i).ah=0)
   (hb:∃k j,k∈(H.tx i).ag/\H.head k=Bs j/\¬An (lg H k j) 2 i/\((H.tx i).af k≠Bs (H.sh k).ad\/0<=((H.tx i).aw k).getD 0)):Ss H (H.a3 i)
 |tell {H:Hs} {i k:Nat} {kind:Int} (h1:1<=i) (hi:i<=H.m) (hk:k<2) (hs:(kind=3/\(H.tx i).aa=3)\/(kind=4/\(H.tx i).aa=4)):Ss H (H.aC i kind k)
 |prep {H:Hs} {i k j:Nat} (b:Bool) (h1:1<=i) (hi:i<=H.m) (hk:k∈(H.tx i).ag) (hh:H.head k=Bs j) (hp:¬An (lg H k j) 2 i) (hs:(H.tx i).aa=2) (ht:(H.tx i).ah=0)
   (he:(H.tx i).af k=Bs (H.sh k).ad) (hpl:((H.tx i).aw k).getD 0<0):Ss H (H.add k j ⟨2,i,0,(H.tx i).of k⟩ b).2
 |place {H:Hs} {i k:Nat} (a:Int) (h1:1<=i) (hi:i<=H.m) (hk:k∈(H.tx i).ag) (ha:0<=a) (hs:(H.tx i).aa=2) (hc:∀j,H.head k=Bs j->An (lg H k j) 2 i):Ss H (H.aS i k a)
 |av {H:Hs} {i:Nat} (h1:1<=i) (hi:i<=H.m) (hs:(H.tx i).aa=2) (hp:∀k∈(H.tx i).ag,AK H k 2 i):Ss H (H.av i)
 |decide {H:Hs} {i j:Nat} (b:Bool) (h1:1<=i) (hi:i<=H.m) (hh:H.head 2=Bs j) (hp:¬An (lg H 2 j) 3 i) (hs:(H.tx i).aa=2) (ht:(H.tx i).ah≠0):Ss H (H.add 2 j ⟨3,i,(H.tx i).ah,[]⟩ b).2
 |commit {H:Hs} {i:Nat} (h1:1<=i) (hi:i<=H.m) (hs:(H.tx i).aa=2) (hp:AK H 2 3 i):Ss H (H.aF i 3)
def Ss.cp{H:Hs}(s:Ss H H'):By H H':=by
 cases s with
 |a3 d c hs h z=>exact .a3 d c (eS ⟨hs,h⟩)
 |tell d c n hs=>exact .tell d c n hs
 |prep b d c n u f hs h v q=>exact .prep b d c n u f hs h v q
 |place a d c n x hs y=>exact .place a d c n x hs
 |av d c hs f=>exact .av d c hs f
 |decide b d c u f hs h=>exact .decide b d c u f hs h
 |commit d c hs f=>exact .commit d c hs f
inductive CP:Hs->Hs->Prop where
 |refl (H:Hs):CP H H
 |step {A B C:Hs} (h:Ss A B) (r:CP B C):CP A C
def CP.cS{B:Hs}(h:Ss A B):CP A B:=.step h (.refl B)
def CP.trans{B:Hs}(h:CP A B)(k:CP B C):CP A C:=by
 induction h with
 |refl=>exact k
 |step h _ c=>exact .step h (c k)
def CP.aK{B:Hs}(h:CP A B):Ag A B:=by
 induction h with
 |refl=>exact .refl _
 |step h _ c=>exact .step h.cp c
structure Bl(H:Hs)(G:Gh)(B:Int):Prop where
 a:Ac H B
 s:SI H G (λ_ _=>False)
 m40:H.m<=40
 ca:Bi H (λ_=>False)
 sz:SzI H
section
variable {H H':Hs}{G:Gh}{i:Nat}{B:Int}
def Sc(a:Ac H B)(d:AK H 2 3 i):(H.tx i).ah≠0:=by
 obtain⟨j,p,c,f,h,u,q,_⟩:=d;have n:=(a.bT.p2 j (CS f).1 c (N2 h)).2.2;have e:c.ah=(H.tx i).ah:=by rw[n.1,q];rfl
 omega
def Bi.ss{ex:Int->Prop}(h:Bi H ex)(n:SI H G (λ_ _=>False))(a:Ac H B)(s:Ss H H'):Bi H' ex:=by
 cases s with
 |a3 d c hs u A=>exact(h.a3 n a.wf a.bT a.c d c (eS ⟨hs,u⟩)).mono (λ_ g=>g.1)
 |tell d c q hs=>exact h.aC n a.wf a.bT d c q hs
 |prep b d c q v f hs u y x=>exact h.prep n a b d c q v f hs y
 |place a d c q C hs z=>exact h.ay (eR rfl) (λ_ g=>g)
 |av d c hs f=>exact h.av _
 |decide b d c v f hs u=>exact h.decide _ _
 |commit d c hs f=>exact h.commit n a d c hs (Sc a f)
def Bl.ss(h:Bl H G B)(s:Ss H H'):Bl H' G B:=
 ⟨(h.a.step s.cp).1,h.s.step h.a h.m40 s.cp,by rw[s.cp.sm.m];exact h.m40,h.ca.ss h.s h.a s,h.sz.bz s.cp.bz⟩
def Bl.dG(s:CP H H'):Bl H G B->Bl H' G B:=by
 induction s with
 |refl=>exact id
 |step s _ c=>exact λh=>c (h.ss s)
def Bl.aD(h:Bl H G B){s j:Nat}(hs:s<3)(hl:Lv H s j):Bl (Hs.bf s H j) G B:=by have c:=By.aD hs hl;refine⟨(h.a.step c).1,h.s.step h.a h.m40 c,h.m40,h.ca.same (O9.ca ?_),h.sz.bz c.bz⟩;exact O9.nd (H:=H) hs (ES _).1 (ES _).2.2.2.2 (by rw[(ES _).2.1];exact VO _) (λhl=>⟨j,hl,by rw[(ES _).2.1];exact VO _⟩) (λ_=>(ES _).2.1) _ H.net
def NQ(h:SI H G (λ_ _=>False))(a:Ac H B)(v:H.net.l[k]? = Bs m):O9 H (({H with net:=takeS H.net k} : Hs).aE m):=by
 cases d:Hs.node {H with net:=takeS H.net k} m.a8 with
 |none=>
  rw[Je d];exact⟨rfl,λ_ _ _ h=>h,λ_ _ _ h=>h,λ_ _ _ _=>VO _,λ_ j _ h=>⟨j,h,VO _⟩,λ_ _ _ _=>rfl,λ_ _=>⟨rfl,rfl,rfl,rfl⟩,λ_=>⟨rfl,rfl,rfl,rfl,rfl⟩⟩
 |some r=>
  obtain⟨s,j⟩:=r;obtain⟨hs,hl,_⟩:=q4c (H:={H with net:=takeS H.net k}) a.c d;have c:s<3:=by have:=a.c;have hs:s<H.c:=hs;omega
  rw[Jf d];have n:O9 H ((({H with net:=takeS H.net k} : Hs).au s j (((H.sh s).nd j).step m).1).aO (((H.sh s).nd j).step m).2):=
   O9.nd c (q5g _ m).2 (q9g _ m).1 (q5g _ m).1 (λf=>qdb a.ch (s:=s) (j:=j) (by rw[a.c];exact c) f (N2 v)) (λx=>(q9g _ m).2 x) _ _
  have y:=h.same n;have e:(((({H with net:=takeS H.net k} : Hs).au s j (((H.sh s).nd j).step m).1).aO (((H.sh s).nd j).step m).2).take s)=((({H with net:=takeS H.net k} : Hs).au s j (((H.sh s).nd j).step m).1).aO (((H.sh s).nd j).step m).2):=H7 (λq u=>y.dn s q c u);show O9 H (((({H with net:=takeS H.net k} : Hs).au s j (((H.sh s).nd j).step m).1).aO (((H.sh s).nd j).step m).2).take s);rw[e];exact n
def Bl.aE(h:Bl H G B){k:Nat}{m:Ms}(d:H.net.l[k]? = Bs m):Bl (({H with net:=takeS H.net k} : Hs).aE m) G B:=by have c:=By.aE d;exact⟨(h.a.step c).1,h.s.step h.a h.m40 c,by rw[c.sm.m];exact h.m40,h.ca.same (NQ h.s h.a d).ca,h.sz.bz c.bz⟩
def qe9(h:Bl H G B)(d:k<3)(f:H.head k=Bs j)(c:Cm)(b:Bool):¬(H.add k j c b).1<0:=by have e:=h.s.dB h.a.bT h.a.wf.cr d f c b;unfold Hs.add;rw[Z7 (by simp[e])];have:=(P5 e).2;show ¬(((H.sh k).nd j).add c b).2.1<0;omega
def An.up{l l':List Cm}{kind id:Int}(h:An l kind id)(hl:l <+: l'):An l' kind id:=h.mono (λ_ c=>hl.subset c)
def end1_ss(b:Bool)(h:Bl H G B)(D:1<=i)(C:i<=H.m)(y:k∈(H.tx i).ag)(hs:(H.tx i).aa=2) :
  CP H (H.aU i k b).1/\((H.aU i k b).2≠B0->∀j,(H.aU i k b).1.head k=Bs j->An (lg (H.aU i k b).1 k j) 2 i):=by
 have U:=Cb y;cases u:H.head k with
 |none=>rw[q64 u];exact⟨.refl H,λ_ j R=>by rw[u]at R;cases R⟩
 |some j=>
  have I:An (lg H k j) 2 i->∀q,H.head k=Bs q->An (lg H k q) 2 i:=λg q n=>by rw[u]at n;injection n with n;subst n;exact g
  cases E:place ((H.sh k).nd j).a4 2 i with
  |some p=>
   rw[q42 u E];obtain⟨c,X,Q⟩:=q4x E;have d:An (lg H k j) 2 i:=⟨c,N2 X,Q⟩
   exact⟨.cS (.place p D C y Z0 hs (I d)),λ_ q n=>I d q n⟩
  |none=>
   have x:=RE.1 E;by_cases K:DB H i k;by_cases M:(H.tx i).ah=0;rw[q65 u E K M];refine⟨.cS (.a3 D C hs M ⟨k,j,y,u,x,?_⟩),λg=>ZB rfl g⟩;obtain g|g|g:=K;omega;exact eR (λe=>g (by rw[e];rfl));exact eS g;exact ZB ((h.s.tp i ⟨D,C⟩ M).2 k y j (CS u).1) x;have z:=K;unfold DB at z;simp only[not_or]at z;obtain⟨Z,A,Y⟩:=z;have O:(H.tx i).af k=Bs (H.sh k).ad:=by
    have h5:=(D5.1 y).2;cases e:(H.tx i).af k with
    |none=>exact ZB e h5
    |some v=>rw[e]at A;simp only[Option.getD_some,ne_eq,X6]at A;rw[A]
   have f:=Dt H k j ⟨2,i,0,(H.tx i).of k⟩ b;have L:(H.tx i).ah=0:=Z4 (h.a.wf.dY i D C);have N:=Ss.prep b D C y u x hs L O Z0;have S:=qe9 h Z0 u ⟨2,i,0,(H.tx i).of k⟩ b;rw[q87 u E K S];have J:((H.add k j ⟨2,i,0,(H.tx i).of k⟩ b).2.tx i).ag=(H.tx i).ag:=by unfold Bu.ag;rw[(f.2.2.2.2 i).2.2.1]
   obtain⟨g1,g2⟩:=SL S;have d:∀q,(H.add k j ⟨2,i,0,(H.tx i).of k⟩ b).2.head k=Bs q->An (lg (H.add k j ⟨2,i,0,(H.tx i).of k⟩ b).2 k q) 2 i:=λq n=>by
    rw[q4m,u]at n;injection n with n;subst n;rw[g1];exact⟨_,WW _ (VU.2 rfl),rfl,rfl⟩
   exact⟨.step N (.cS (.place _ D (by rw[f.2.2.1];exact C) (by rw[J];exact y) Z0 (by rw[(f.2.2.2.2 i).1];exact hs) d)),λ_ q n=>d q n⟩
def CP.has(s:CP H H'){kind id:Int}(h:∀j,H.head k=Bs j->An (lg H k j) kind id):∀j,H'.head k=Bs j->An (lg H' k j) kind id:=λj c=>by
 rw[s.aK.bz.head]at c;refine(h j c).up ?_;have:∀{A C:Hs},Ag A C->Cg A C:=λ{A C} d=>by
  induction d with
  |refl=>exact .refl _
  |step s _ f=>exact s.up.trans f
 exact(this s.aK).lg k j
def Lg(b:Nat->Bool)(y:1<=i):∀(ks:List Nat) {H:Hs} (c:Bool),Bl H G B->i<=H.m->(H.tx i).aa=2->(∀k∈ks,k∈(H.tx i).ag)->
  CP H (Hs.aG i b ks H c).1/\((Hs.aG i b ks H c).2≠B0->∀k∈ks,∀j,(Hs.aG i b ks H c).1.head k=Bs j->An (lg (Hs.aG i b ks H c).1 k j) 2 i)
 |[],H,c,_,_,_,_=>⟨.refl H,λ_ k v=>by cases v⟩
 |k::ks,H,c,h,hi,hs,hks=>by
  have v:=hks k VB;obtain⟨z,E⟩:=end1_ss (b k) h y hi v hs;have D:=(G5 (b k) h.a.wf y hi v hs).2.1;have A:=q6q H i k (b k);have q:Hs.aG i b (k::ks) H c=(match (H.aU i k (b k)).2 with|none=>((H.aU i k (b k)).1,B0)|some a=>Hs.aG i b ks (H.aU i k (b k)).1 (c && a)):=rfl;rw[q];cases e:(H.aU i k (b k)).2 with
  |none=>exact⟨z,λh=>ZB rfl h⟩
  |some a=>
   have d:(H.aU i k (b k)).2≠B0:=by rw[e];simp
   have u:((H.aU i k (b k)).1.tx i).ag=(H.tx i).ag:=by unfold Bu.ag;rw[(D d).2]
   obtain⟨q1,C⟩:=Lg b y ks (c && a) (Bl.dG z h) (by rw[A.sm.m];exact hi) (by rw[A.on d];exact hs) (λx f=>by rw[u];exact hks x (VE _ f));simp only;refine⟨z.trans q1,λn x f=>?_⟩;obtain rfl|f:=ZF.1 f;exact q1.has (E d);exact C n x f
def q9c{kind:Int}(c:1<=i):∀(ks:List Nat) {H:Hs},i<=H.m->(∀k∈ks,k<2)->((kind=3/\(H.tx i).aa=3)\/(kind=4/\(H.tx i).aa=4))->CP H (telld H i kind ks)
 |[],H,_,_,_=>.refl H
 |k::ks,H,hi,hk,hs=>by
  have e:=Ee H i kind k;refine .step (.tell c hi (hk k VB) hs) ?_;exact q9c c ks (by rw[e.2.2.1];exact hi) (λx d=>hk x (VE _ d)) (by rw[(e.2.2.2.2 i).1];exact hs)
def Gf(d:1<=i)(c:i<=H.m)(hs:(H.tx i).aa=2)(f:AK H 2 3 i):CP H (H.commit i):=by refine .step (.commit d c hs f) ?_;refine q9c (H:=H.aF i 3) d _ c (λ_ h=>Cb h) (eR ⟨rfl,?_⟩);show(Af H.tx i _ i).aa=3;rw[Aq]
def NF(b:Bool)(A:Wf H)(y:1<=i)(u:i<=H.m)(hs:(H.tx i).aa=2)(C:∀k∈(H.tx i).ag,AK H k 2 i):CP H (H.bj i b).1:=by
 cases x:H.head 2 with
 |none=>rw[q6s x];exact .refl H
 |some j=>
  cases f:place ((H.sh 2).nd j).a4 3 i with
  |some p=>
   rw[q6r x f];split;exact .refl H;rename_i z;obtain⟨c,L,K,J⟩:=q4x f;exact Gf y u hs ⟨j,p,c,x,L,K,J,Z0⟩
  |none=>
   rw[q8v x f];have h:=FI H i;have I:=Ss.av y u hs C;have v:(H.av i).head 2=Bs j:=by rw[RD h.1 (by rw[h.2.2.2.1])];exact x
   have q:¬An (lg (H.av i) 2 j) 3 i:=by unfold lg;rw[h.2.2.2.1];exact RE.1 f
   have d:=Dt (H.av i) 2 j ⟨3,i,((H.av i).tx i).ah,[]⟩ b;have n:((H.av i).tx i).aa=2:=(q2e H i i).trans hs;have e1:CP H ((H.av i).add 2 j ⟨3,i,((H.av i).tx i).ah,[]⟩ b).2:=.step I (.cS (.decide b y (by rw[h.2.2.1];exact u) v q n (JG A y u)));split;exact e1;rename_i D;split;exact e1;rename_i z;obtain⟨E,M⟩:=SL D;refine e1.trans (Gf y (by rw[d.2.2.1,h.2.2.1];exact u) (by rw[(d.2.2.2.2 i).1];exact n) ⟨j,(lg (H.av i) 2 j).length,⟨3,i,((H.av i).tx i).ah,[]⟩,(q4m _ 2 j _ b 2).trans v,by rw[E];simp,rfl,rfl,?_⟩);omega
def ER(H:Hs)(i:Nat):Prop:=((H.tx i).aa=2->∀k∈(H.tx i).ag,∀j,H.head k=Bs j->An (lg H k j) 2 i)/\((H.tx i).aa=3\/(H.tx i).aa=4->∀k∈(H.tx i).ag,∀j,H.head k=Bs j->¬EL (lg H k j) i)
def ends_ss(b:Nat->Bool)(h:Bl H G B)(v:1<=i)(u:i<=H.m)(hs:(H.tx i).aa=2) :
  CP H (H.ends i b).1/\((H.ends i b).2=L1->∀k∈(H.tx i).ag,∀j,(H.ends i b).1.head k=Bs j->An (lg (H.ends i b).1 k j) 2 i):=by
 obtain⟨q,x⟩:=Lg b v (H.tx i).ag VD h u hs (λ_ h=>h);obtain⟨_,s2,s3⟩:=q8u b v (H.tx i).ag VD h.a.wf h.a.c u hs (λ_ h=>h) (q2x _);have f:=q4e i b (H.tx i).ag H VD;cases e:(Hs.aG i b (H.tx i).ag H VD).2 with
 |none=>rw[q63 (show _=((Hs.aG i b (H.tx i).ag H VD).1,B0)from by rw[<- e])];exact⟨q,λh=>by cases h⟩
 |some a=>
  have c:(Hs.aG i b (H.tx i).ag H VD).2≠B0:=by rw[e];simp
  cases a with
  |false=>rw[q55 (show _=((Hs.aG i b (H.tx i).ag H VD).1,Bs L1)from by rw[<- e])];exact⟨q,λ_=>x c⟩
  |true=>
   rw[q54 (show _=((Hs.aG i b (H.tx i).ag H VD).1,Bs VD)from by rw[<- e])];have n:((Hs.aG i b (H.tx i).ag H VD).1.tx i).ag=(H.tx i).ag:=DQ (s2 c).2;have d:=NF (b 2) (Bl.dG q h).a.wf v (by rw[f.sm.m];exact u) (by rw[f.on c];exact hs) (by rw[n];exact s3 e);exact⟨q.trans d,λ_ k y=>d.has (x c k y)⟩
end
variable {t:Nat}{B:Int}
structure O6(H H':Hs):Prop where
 m:H'.m=H.m
 sh:∀t,(H'.tx t).af=(H.tx t).af
 s1:∀t,(H.tx t).aa=1->(H'.tx t).aa=1
 s2:∀t,(H'.tx t).aa=2->(H.tx t).aa=2
 s34:∀t,((H.tx t).aa=3->(H'.tx t).aa=3)/\((H.tx t).aa=4->(H'.tx t).aa=4)
def O6.refl(H:Hs):O6 H H:=⟨rfl,λ_=>rfl,λ_ h=>h,λ_ h=>h,λ_=>⟨λh=>h,λh=>h⟩⟩
def O6.trans{A B C:Hs}(h:O6 A B)(k:O6 B C):O6 A C:=
 ⟨k.m.trans h.m,λt=>(k.sh t).trans (h.sh t),λt e=>k.s1 t (h.s1 t e),λt e=>h.s2 t (k.s2 t e),λt=>⟨λe=>(k.s34 t).1 ((h.s34 t).1 e),λe=>(k.s34 t).2 ((h.s34 t).2 e)⟩⟩
def O6.of(c:H'.m=H.m)(h:∀t,(H'.tx t).aa=(H.tx t).aa/\(H'.tx t).af=(H.tx t).af):O6 H H':=
 ⟨c,λt=>(h t).2,λt e=>(h t).1.trans e,λt e=>(h t).1.symm.trans e,λt=>⟨λe=>(h t).1.trans e,λe=>(h t).1.trans e⟩⟩
def JH(H:Hs)(i a:Nat):((H.av i).tx a).af=(H.tx a).af/\((H.av i).tx a).aw=(H.tx a).aw:=by unfold Hs.av;split;show(Af H.tx i _ a).af=_/\(Af H.tx i _ a).aw=_;by_cases e:a=i;subst e;rw[Aq];exact⟨rfl,rfl⟩;rw[Ay e];exact⟨rfl,rfl⟩;exact⟨rfl,rfl⟩
def Ss.cD(s:Ss H H'):O6 H H':=by
 cases s with
 |@a3 i h f hs q v=>
  obtain⟨n,_,d⟩:=Ik H i;refine⟨n.m,λt=>(d t).2.2.1,λt e=>?_,λt e=>?_,λt=>⟨λe=>?_,λe=>?_⟩⟩;rw[(d t).1];split;rename_i g;rw[g]at e;omega;exact e;rw[(d t).1]at e;split at e;omega;exact e;rw[(d t).1];split;rename_i g;rw[g]at e;omega;exact e;rw[(d t).1];split;rfl;exact e
 |tell=>exact .of (Ee _ _ _ _).2.2.1 (λt=>⟨((Ee _ _ _ _).2.2.2.2 t).1,((Ee _ _ _ _).2.2.2.2 t).2.2.1⟩)
 |prep=>exact .of (Dt _ _ _ _ _).2.2.1 (λt=>⟨((Dt _ _ _ _ _).2.2.2.2 t).1,((Dt _ _ _ _ _).2.2.2.2 t).2.2.1⟩)
 |@place i k a=>
  refine .of rfl (λt=>?_);show(Af H.tx i _ t).aa=_/\(Af H.tx i _ t).af=_;by_cases e:t=i;subst e;rw[Aq];exact⟨rfl,rfl⟩;rw[Ay e];exact⟨rfl,rfl⟩
 |@av i=>exact .of (FI H i).2.2.1 (λt=>⟨q2e H i t,(JH H i t).1⟩)
 |decide=>exact .of (Dt _ _ _ _ _).2.2.1 (λt=>⟨((Dt _ _ _ _ _).2.2.2.2 t).1,((Dt _ _ _ _ _).2.2.2.2 t).2.2.1⟩)
 |@commit i h f hs u=>
  have c:∀t,((H.aF i 3).tx t).aa=(if t=i then 3 else(H.tx t).aa)/\((H.aF i 3).tx t).af=(H.tx t).af:=λt=>by
   show(Af H.tx i _ t).aa=_/\(Af H.tx i _ t).af=_;by_cases e:t=i;subst e;rw[Aq,Z8 rfl];exact⟨rfl,rfl⟩;rw[Ay e,Z7 e];exact⟨rfl,rfl⟩
  refine⟨rfl,λt=>(c t).2,λt e=>?_,λt e=>?_,λt=>⟨λe=>?_,λe=>?_⟩⟩;rw[(c t).1];split;rename_i g;rw[g]at e;omega;exact e;rw[(c t).1]at e;split at e;omega;exact e;rw[(c t).1];split;rfl;exact e;rw[(c t).1];split;rename_i g;rw[g]at e;omega;exact e
def CP.cD(s:CP H H'):O6 H H':=by
 induction s with
 |refl=>exact .refl _
 |step h _ c=>exact h.cD.trans c
def O6.ag(h:O6 H H')(t:Nat):(H'.tx t).ag=(H.tx t).ag:=DQ (h.sh t)
def Ag.up(s:Ag H H'):Cg H H':=by
 induction s with
 |refl=>exact .refl _
 |step s _ c=>exact s.up.trans c
def LX(H H':Hs):Prop:=∀k j,H.head k=Bs j->∃d,lg H' k j=lg H k j++d/\∀c∈d,c.aj=2->0<=c.tx/\(H.tx c.tx.toNat).aa=2
def LX.refl(H:Hs):LX H H:=λk j _=>⟨[],Z3,λ_ h=>(nomatch h)⟩
def IW{c:Cm}(b:Bool)(x:H.head s=Bs j)(v:c.aj=2->0<=c.tx/\(H.tx c.tx.toNat).aa=2):LX H (H.add s j c b).2:=λk q n=>by
 obtain e|e:=(IY H s j c b).1;rw[e];exact LX.refl H k q n;rw[e];split;rename_i g;obtain⟨rfl,rfl⟩:=g;exact⟨[c],rfl,λd f u=>by rw[VU]at f;subst f;exact v u⟩;exact⟨[],Z3,λ_ h=>(nomatch h)⟩
def LX.trans{B:Hs}(h:LX A B)(k:LX B C)(v:∀s,B.head s=A.head s)(u:∀t,(B.tx t).aa=2->(A.tx t).aa=2):LX A C:=λs j n=>by
 obtain⟨D,e1,q⟩:=h s j n;obtain⟨z,y,f⟩:=k s j (by rw[v];exact n);refine⟨D++z,by rw[y,e1,XM],λc x d=>?_⟩;obtain g|g:=ZD.1 x;exact q c g d;exact⟨(f c g d).1,u _ (f c g d).2⟩
def F5{kind:Int}(d:kind≠2)(k:Nat):LX H (H.aC i kind k):=by
 cases c:H.head k with
 |none=>rw[J6 c];exact .refl H
 |some j=>
  rw[Jd c];split;exact IW _ c (λe=>ZB e d);exact .refl H
def qa1{kind:Int}(c:kind≠2):∀(ks:List Nat)(H:Hs),LX H (telld H i kind ks)
 |[],H=>.refl H
 |k::ks,H=>(F5 c k).trans (qa1 c ks _) (λs=>(AX.aC H i kind k).head s) (λt e=>by rw[((Ee H i kind k).2.2.2.2 t).1]at e;exact e)
def Ss.lgx(s:Ss H H'):LX H H':=by
 have c:∀{H':Hs},(∀k,(H'.sh k).nd=(H.sh k).nd)->LX H H':=λe k j _=>⟨[],by unfold lg;rw[e];simp,λ_ h=>(nomatch h)⟩
 cases s with
 |@a3 i q f hs y A=>
  rw[I9];have d:AP H (reld (H.an i) i (H.tx i).ag):=(AP.ay H i _).trans (LV i _ _);have x:=Gv i (H.tx i).ag (H.an i);have v:LX (reld (H.an i) i (H.tx i).ag) (telld (reld (H.an i) i (H.tx i).ag) i 4 ((reld (H.an i) i (H.tx i).ag).tx i).ag):=qa1 Z2 _ _;refine(c d.nd).trans v (λs=>PZ d.n (d.aq s) (λj=>by rw[d.nd];exact⟨rfl,rfl⟩)) (λt e=>?_);rw[(x.2.2.2.2 t).1]at e;have e:(Af H.tx i _ t).aa=2:=e;by_cases g:t=i;subst g;exact hs;rw[Ay g]at e;exact e
 |@tell i k kind q f u hs=>exact F5 (by obtain⟨h,_⟩|⟨h,_⟩:=hs<;> omega) k
 |@prep i k j b q f u n z hs=>exact IW b n (λ_=>⟨by show(0:Int)<=(i:Int);omega,by show(H.tx ((i:Int)).toNat).aa=2;rw[show((i:Int)).toNat=i by omega];exact hs⟩)
 |place=>exact c (λ_=>rfl)
 |@av i=>exact c (λk=>by rw[(FI H i).2.2.2.1])
 |decide b q f n=>exact IW b n (λe=>by have e:(3:Int)=2:=e;omega)
 |commit=>exact c (λ_=>rfl)
def CP.lgx(s:CP H H'):LX H H':=by
 induction s with
 |refl=>exact .refl _
 |step h _ c=>exact h.lgx.trans c (λs=>h.cp.bz.head s) h.cD.s2
def CP.noOpn(s:CP H H')(y:(H.tx t).aa=3\/(H.tx t).aa=4)(h:∀j,H.head k=Bs j->¬EL (lg H k j) t):∀j,H'.head k=Bs j->¬EL (lg H' k j) t:=λj d f=>by
 rw[s.aK.bz.head]at d;obtain⟨z,e,p⟩:=s.lgx k j d;rw[e]at f;obtain⟨⟨c,x,e1,n⟩,v,u⟩:=f;obtain g|g:=ZD.1 x;exact h j d ⟨⟨c,g,e1,n⟩,λq=>v (q.up (Xy _ _)),λq=>u (q.up (Xy _ _))⟩;have:=(p c g e1).2;rw[n,show((t:Int)).toNat=t by omega]at this;omega
def Mj(h:Bl H G B){kind:Int}(u:k<2)(hs:kind=3\/kind=4):∀j,(H.aC i kind k).head k=Bs j->¬EL (lg (H.aC i kind k) k j) i:=λj d=>by
 rw[(AX.aC H i kind k).head]at d;rw[Jd d];have n:∀l,An l kind i->¬EL l i:=λl hl c=>by
  obtain e|e:=hs<;> subst e;exact c.2.1 hl;exact c.2.2 hl
 split;have f:=q5n (b:=L1) d (h.s.dB h.a.bT h.a.wf.cr Z0 d (tellC H i kind) L1) (h.s.dn k j Z0 d);rw[f.lg,Z8 ⟨rfl,rfl⟩];exact n _ ⟨_,WW _ (VU.2 rfl),rfl,rfl⟩;rename_i g;intro c;refine g ⟨RE.2 (λhl=>n _ hl c),λq=>RE.1 q c.1⟩
def qc3{kind:Int}(u:1<=i)(BJ:kind=3\/kind=4):∀(ks:List Nat) {H:Hs},Bl H G B->i<=H.m->(∀k∈ks,k<2)->((kind=3/\(H.tx i).aa=3)\/(kind=4/\(H.tx i).aa=4))->∀k∈ks,∀j,(telld H i kind ks).head k=Bs j->¬EL (lg (telld H i kind ks) k j) i
 |[],_,_,_,_,_=>λ_ h=>(nomatch h)
 |k::ks,H,h,hi,hk,hs=>λq n=>by
  have e:=Ee H i kind k;have v:=Ss.tell u hi (hk k VB) hs;have c:(kind=3/\((H.aC i kind k).tx i).aa=3)\/(kind=4/\((H.aC i kind k).tx i).aa=4):=by rw[(e.2.2.2.2 i).1];exact hs
  have f:i<=(H.aC i kind k).m:=by rw[e.2.2.1];exact hi
  have d:∀x∈ks,x<2:=λx y=>hk x (VE _ y)
  obtain rfl|n:=ZF.1 n;exact(q9c u ks f d c).noOpn (c.imp (λg=>g.2) (λg=>g.2)) (Mj h (hk _ VB) BJ);exact qc3 u BJ ks (h.ss v) f d c q n
def ER.of{K R:Hs}(d:ER K t)(s:CP K R)(h:(R.tx t).aa=(K.tx t).aa):ER R t:=by refine⟨λn k f=>?_,λc k f=>?_⟩;rw[s.cD.ag]at f;rw[h]at n;exact s.has (d.1 n k f);rw[s.cD.ag]at f;rw[h]at c;exact s.noOpn c (d.2 c k f)
def qca(b:Nat->Bool)(h:Bl H G B)(C:1<=i)(y:i<=H.m):CP H (H.az i b).1/\((H.az i b).2=L1->ER (H.az i b).1 i):=by
 have f:=(q20 H i b).1;have n:=f.no;unfold Hs.az at n ⊢;split;rename_i x;rw[Z8 x]at n;obtain⟨q,v⟩:=ends_ss b h C y x;refine⟨q,λe=>⟨λ_ k d=>?_,λg=>?_⟩⟩;rw[q.cD.ag]at d;exact v e k d;have:=n e;omega;rename_i x;have c:∀kind:Int,kind=3\/kind=4->((kind=3/\(H.tx i).aa=3)\/(kind=4/\(H.tx i).aa=4))->CP H (H.b3 i kind)/\ER (H.b3 i kind) i:=λkind d hs=>by
  have D:CP H (H.b3 i kind):=q9c C _ y (λk d=>Cb d) hs;have E:((H.b3 i kind).tx i).aa=(H.tx i).aa:=((UZ i kind _ H).2.2.2.2 i).1;refine⟨D,λg=>?_,λ_ k u=>?_⟩;omega;rw[D.cD.ag]at u;exact qc3 C d _ h y (λk d=>Cb d) hs k u
 split;rename_i A;obtain⟨q,v⟩:=c 3 (eR rfl) (eR ⟨rfl,A⟩);exact⟨q,λ_=>v⟩;rename_i A;split;rename_i z;obtain⟨q,v⟩:=c 4 (eS rfl) (eS ⟨rfl,z⟩);exact⟨q,λ_=>v⟩;rename_i z;exact⟨.refl H,λ_=>⟨λg=>ZB g x,λg=>g.elim (λg=>ZB g A) (λg=>ZB g z)⟩⟩
def qac(bs:Nat->Nat->Bool):∀(k i:Nat)(r:Hs×Bool),t<i->((Hs.round bs k i r).1.tx t).aa=(r.1.tx t).aa
 |0,_,r,_=>rfl
 |k+1,i,r,h=>by
  have f:=(q20 r.1 i (bs i)).1;exact(qac bs k (i+1) ((r.1.az i (bs i)).1,(r.1.az i (bs i)).2 || r.2) Z0).trans (f.other t Z0)
def q7p(bs:Nat->Nat->Bool):∀(k i:Nat)(r:Hs×Bool),Bl r.1 G B->1<=i->i+k<=r.1.m+1->
  CP r.1 (Hs.round bs k i r).1/\((Hs.round bs k i r).2=L1->r.2=L1/\∀t,i<=t->t<i+k->ER (Hs.round bs k i r).1 t)
 |0,i,r,_,_,_=>⟨.refl r.1,λh=>⟨h,λt d z=>Z0⟩⟩
 |k+1,i,r,h,d,y=>by
  obtain⟨c,u⟩:=qca (bs i) h d (show i<=r.1.m by omega);have sm:=c.aK.sm;obtain⟨q1,f⟩:=q7p bs k (i+1) ((r.1.az i (bs i)).1,(r.1.az i (bs i)).2 || r.2) (Bl.dG c h) Z0 (by show _<=(r.1.az i (bs i)).1.m+1;rw[sm.m];omega);refine⟨c.trans q1,λe=>?_⟩;obtain⟨e1,x⟩:=f e;simp only[Bool.or_eq_false_iff]at e1;refine⟨e1.2,λt q n=>?_⟩;by_cases v:t=i;subst v;exact(u e1.1).of q1 (qac bs k (t+1) ((r.1.az t (bs t)).1,(r.1.az t (bs t)).2 || r.2) Z0);exact x t Z0 Z0
def Qa(h:Ek H H'):Bl H G B->CP H H'/\∀t,1<=t->t<=H'.m->ER H' t:=by
 induction h with
 |@stop H bs e=>
  intro h;obtain⟨c,u⟩:=q7p bs H.m 1 (H,L1) h (Hi _) (by show 1+H.m<=H.m+1;omega);refine⟨c,λt q d=>(u e).2 t q ?_⟩;rw[c.aK.sm.m]at d;have d:t<=H.m:=d;omega
 |@more H H' bs e _ n=>
  intro h;obtain⟨c,_⟩:=q7p bs H.m 1 (H,L1) h (Hi _) (by show 1+H.m<=H.m+1;omega);obtain⟨q1,f⟩:=n (Bl.dG c h);exact⟨c.trans q1,f⟩
structure Nbr(a b:Nd):Prop where
 ep:b.ad=a.ad
 ab:a.a8 1=b.id
 ba:b.a8 (-1)=a.id
 at0:0<=a.aN
 eP:0<b.aN
 tl:a.tail=L1
 ne:a.id≠b.id
def Iy{c:Nd}(h:Do d c)(k b n:Int):c.b9 k b n=d.b9 k b n:=by obtain⟨v,u,q,f⟩:=h;unfold Nd.b9 Nd.a8;rw[v,u,q,f]
def fwd_of{c:Nd}(h:Do d c)(hl:d.a4 <+: c.a4)(n:k<d.a4.length):c.a6 k=d.a6 k:=by obtain⟨x,v,u,q⟩:=h;obtain⟨t,f⟩:=hl;unfold Nd.a6 Nd.a8;rw[x,v,u,q,<- f,VZ n]
structure BG(a b:Nd)(l:List Ms):Prop where
 le:b.a4.length<=a.a4.length
 fw:b.a4.length=a.a4.length\/(∃n,a.b9 1 1 n∈l)\/(∃n:Int,0<=n/\n<=b.a4.length/\b.b9 2 (-1) n∈l)\/((Wh b.a4.length (a.a4.length-b.a4.length)).map a.a6).Sublist l
 st:b.ao<=a.ao\/(∃n:Int,b.ao<=n/\0<=n/\b.b9 4 (-1) n∈l)\/(b.tail=L1/\∃m∈l,m.aj=4/\m.ar=b.a8 1/\m.a8=b.id/\m.ad=b.ad/\0<=m.n)
def MC(s n:Nat):Wh s (n+1)=Wh s n++[s+n]:=by rw[List.range'_concat];simp
def MD{s' n':Nat}(h:s<=s')(e:s+n=s'+n'):(Wh s' n').Sublist (Wh s n):=by
 obtain⟨k,rfl⟩:∃k,s'=s+k:=⟨s'-s,Z0⟩
 obtain rfl:n=k+n':=by omega
 rw[List.range'_append_1.symm];exact Y4 _ _
section
variable {a b a' b':Nd}{l l' ms:List Ms}{m:Ms}
def BG.more(h:BG a b l)(ms:List Ms):BG a b (l++ms):=
 ⟨h.le,h.fw.imp id (Y7 (λ⟨n,g⟩=>⟨n,VM _ g⟩) (Y7 (λ⟨n,d,c,f⟩=>⟨n,d,c,VM _ f⟩) (λg=>g.trans (Zd _ _)))),
  h.st.imp id (Y7 (λ⟨n,d,c,f⟩=>⟨n,d,c,VM _ f⟩) (λ⟨q,x,d,c⟩=>⟨q,x,VM _ d,c⟩))⟩
def BG.drop(q:Nbr a b)(h:BG a b (m::l))(v:m.a8≠a.id)(u:m.a8≠b.id):BG a b l:=by
 have out:∀{x:Ms},x∈m::l->x.a8≠m.a8->x∈l:=λ{x} z e=>by
  obtain g|g:=ZF.1 z;subst g;exact ZB rfl e;exact g
 refine⟨h.le,?_,?_⟩;obtain g|⟨n,g⟩|⟨n,f,d,c⟩|g:=h.fw;exact eR g;exact eS (eR ⟨n,out g (by show a.a8 1≠_;rw[q.ab];exact λe=>u e.symm)⟩);exact eS (eS (eR ⟨n,f,d,out c (by show b.a8 (-1)≠_;rw[q.ba];exact λe=>v e.symm)⟩));refine eS (eS (eS ?_));obtain g|⟨r,g,_⟩:=ZR.1 g;exact g;exfalso;have A:m∈(Wh b.a4.length (a.a4.length-b.a4.length)).map a.a6:=by rw[g];exact VB
 obtain⟨k,_,C⟩:=ZE.1 A;exact u (by rw[<- C];exact q.ab);obtain g|⟨n,f,d,c⟩|⟨E,x,f,d,c,y,D⟩:=h.st;exact eR g;exact eS (eR ⟨n,f,d,out c (by show b.a8 (-1)≠_;rw[q.ba];exact λe=>v e.symm)⟩);exact eS (eS ⟨E,x,out f (by rw[y];exact λe=>u e.symm),d,c,y,D⟩)
inductive Hj(d:Nd)(m:Ms):Nd×List Ms->Prop where
 |none:Hj d m (d,[])
 |sync (hk:m.aj=1) (ha:0<d.aN) (hf:m.ar=d.a8 (-1)) (ht:m.a8=d.id) (he:m.ad=d.ad):Hj d m (d,[d.b9 2 (-1) d.a4.length])
 |have_ (hk:m.aj=2) (ht2:d.tail=L1) (hf:m.ar=d.a8 1) (h0:0<=m.n) (ht:m.a8=d.id) (he:m.ad=d.ad):Hj d m (d,(Wh m.n.toNat (d.a4.length-m.n.toNat)).map d.a6)
 |fwd (hk:m.aj=3) (ha:0<d.aN) (hf:m.ar=d.a8 (-1)) (hn:m.n=d.a4.length) (ht:m.a8=d.id) (he:m.ad=d.ad):Hj d m (d.aP m.aY)
 |stab (hk:m.aj=4) (ht2:d.tail=L1) (hf:m.ar=d.a8 1) (h0:0<=m.n) (hle:m.n<=d.a4.length) (ht:m.a8=d.id) (he:m.ad=d.ad) :
   Hj d m ({d with ao:=max d.ao m.n},if d.aN > 0 then [d.b9 4 (-1) (max d.ao m.n)]else [])
def Gb(d:Nd)(m:Ms):Hj d m (d.step m):=by unfold Nd.step;split;exact .none;rename_i v;simp only[not_or,X6]at v;obtain⟨y,u,q⟩:=v;simp only;split;rename_i h;obtain⟨f,c⟩:=h;simp only[Wl,decide_eq_true_eq,beq_iff_eq]at c;exact .sync f c.1 c.2 q u;split;rename_i h;obtain⟨f,c,n⟩:=h;simp only[Wl,XQ,beq_iff_eq]at c;exact .have_ f c.1 c.2 n q u;split;rename_i h;obtain⟨f,c,n,_⟩:=h;simp only[Wl,decide_eq_true_eq,beq_iff_eq]at c;exact .fwd f c.1 c.2 n q u;split;rename_i h;obtain⟨f,c,n,x⟩:=h;simp only[Wl,XQ,beq_iff_eq]at c;exact .stab f c.1 c.2 n x q u;exact .none
def PI(f:m.aj=1)(q:0<d.aN)(h:m.ar=d.a8 (-1))(c:m.a8=d.id)(n:m.ad=d.ad):d.step m=(d,[d.b9 2 (-1) d.a4.length]):=by unfold Nd.step;rw[Z7 (by simp only[not_or,X6];exact⟨Z0,n,c⟩)];simp only;rw[Z8 ⟨f,by simp only[Wl,decide_eq_true_eq,beq_iff_eq];exact⟨q,h⟩⟩]
def PJ(n:m.aj=2)(x:0<=d.aN)(c:d.tail=L1)(q:m.ar=d.a8 1)(v:0<=m.n)(f:m.a8=d.id)(u:m.ad=d.ad):d.step m=(d,(Wh m.n.toNat (d.a4.length-m.n.toNat)).map d.a6):=by unfold Nd.step;rw[Z7 (by simp only[not_or,X6];exact⟨Z0,u,f⟩)];simp only;rw[Z7 (by rintro ⟨h,_⟩;omega),Z8 ⟨n,by simp only[Wl,XQ,beq_iff_eq];exact⟨c,q⟩,v⟩]
def Sr(n:m.aj=3)(v:0<d.aN)(q:m.ar=d.a8 (-1))(f:m.n=d.a4.length)(x:m.n<500)(c:m.a8=d.id)(u:m.ad=d.ad):d.step m=d.aP m.aY:=by unfold Nd.step;rw[Z7 (by simp only[not_or,X6];exact⟨Z0,u,c⟩)];simp only;rw[Z7 (by rintro ⟨h,_⟩;omega),Z7 (by rintro ⟨h,_⟩;omega),Z8 ⟨n,by simp only[Wl,decide_eq_true_eq,beq_iff_eq];exact⟨v,q⟩,f,x⟩]
def Ga(q:m.aj=4)(y:0<=d.aN)(c:d.tail=L1)(u:m.ar=d.a8 1)(x:0<=m.n)(f:m.n<=d.a4.length)(n:m.a8=d.id)(v:m.ad=d.ad) :
  d.step m=({d with ao:=max d.ao m.n},if d.aN > 0 then [d.b9 4 (-1) (max d.ao m.n)]else []):=by
 unfold Nd.step;rw[Z7 (by simp only[not_or,X6];exact⟨Z0,v,n⟩)];simp only;rw[Z7 (by rintro ⟨h,_⟩;omega),Z7 (by rintro ⟨h,_⟩;omega),Z7 (by rintro ⟨h,_⟩;omega),Z8 ⟨q,by simp only[Wl,XQ,beq_iff_eq];exact⟨c,u⟩,x,f⟩]
def q30(d:Nd)(c:Cm):(d.tail=L1/\d.aP c=(d.push c,[(d.push c).a6 d.a4.length]))\/(d.tail=VD/\(d.aP c).1.a4=d.a4++[c]/\(0<=d.aN->(d.aP c).1.ao=(d.a4++[c]).length/\(d.aP c).2=if d.aN > 0 then [d.b9 4 (-1) (d.a4++[c]).length]else [])):=by
 cases h:d.tail with
 |false=>refine eR ⟨rfl,?_⟩;unfold Nd.aP;rw[h];rfl
 |true=>
  refine eS ⟨rfl,q3o d c,λn=>?_⟩;unfold Nd.aP;rw[h,Z8 rfl];unfold Nd.aD;have f:(d.push c).tail=VD:=h;rw[Z7 (by show ¬d.aN<0;omega),f,Z8 rfl];exact⟨rfl,rfl⟩
def BG.aP(u:Nbr a b)(h:BG a b l)(c:Cm):BG (a.aP c).1 b (l++(a.aP c).2):=by
 obtain⟨_,e⟩|⟨e,_⟩:=q30 a c;rw[e];have f:a.a4 <+: (a.push c).a4:=Xy _ _;have q:Do a (a.push c):=⟨rfl,rfl,rfl,rfl⟩
 have d:(a.push c).a4.length=a.a4.length+1:=by show(a.a4++[c]).length=_;simp
 have y:=h.more [(a.push c).a6 a.a4.length];refine⟨by rw[d];have:=h.le;omega,?_,y.st⟩;rw[d];obtain g|⟨n,g⟩|⟨n,C,A,z⟩|g:=h.fw;refine eS (eS (eS ?_));rw[g,show a.a4.length+1-a.a4.length=1 by omega];exact Y4 _ _;exact eS (eR ⟨n,VM _ (by rw[Iy q];exact g)⟩);exact eS (eS (eR ⟨n,C,A,VM _ z⟩));refine eS (eS (eS ?_));have v:=h.le;rw[show a.a4.length+1-b.a4.length=(a.a4.length-b.a4.length)+1 by omega,MC,WQ,show b.a4.length+(a.a4.length-b.a4.length)=a.a4.length by omega];refine List.Sublist.append ?_ (XN _);rw[XH (g:=a.a6) (λk x=>fwd_of q f (by rw[XJ]at x;omega))];exact g;rw[u.tl]at e;cases e
def qax{x:Ms}(c:x∈m::l)(e:x.a8≠m.a8):x∈l:=by obtain g|g:=ZF.1 c;subst g;exact ZB rfl e;exact g
def BG.atA(f:Nbr a b)(h:BG a b (m::l))(K:m.a8=a.id)(L:m.aj=4->m.ad=a.ad->m.ar=b.id->m.n<=a.a4.length):BG (a.step m).1 b (l++(a.step m).2):=by
 have z:m.a8≠b.id:=by rw[K];exact f.ne
 have Z:∀r:List Nat,(r.map a.a6).Sublist (m::l)->(r.map a.a6).Sublist l:=λr g=>by
  obtain g|⟨q,g,_⟩:=ZR.1 g;exact g;exfalso;have X:m∈r.map a.a6:=by rw[g];exact VB
  obtain⟨k,_,Y⟩:=ZE.1 X;exact z (by rw[<- Y];exact f.ab)
 have O:(¬∃n:Int,0<=n/\n<=b.a4.length/\b.b9 2 (-1) n=m)->(b.a4.length=a.a4.length\/(∃n,a.b9 1 1 n∈l)\/(∃n:Int,0<=n/\n<=b.a4.length/\b.b9 2 (-1) n∈l)\/((Wh b.a4.length (a.a4.length-b.a4.length)).map a.a6).Sublist l):=λC=>by
  obtain g|⟨n,g⟩|⟨n,y,v,d⟩|g:=h.fw;exact eR g;exact eS (eR ⟨n,qax g (by show a.a8 1≠_;rw[f.ab];exact λe=>z e.symm)⟩);obtain d|d:=ZF.1 d;exact ZB ⟨n,y,v,d⟩ C;exact eS (eS (eR ⟨n,y,v,d⟩));exact eS (eS (eS (Z _ g)))
 have D:(¬∃n:Int,b.ao<=n/\0<=n/\b.b9 4 (-1) n=m)->(b.ao<=a.ao\/(∃n:Int,b.ao<=n/\0<=n/\b.b9 4 (-1) n∈l)\/(b.tail=L1/\∃m∈l,m.aj=4/\m.ar=b.a8 1/\m.a8=b.id/\m.ad=b.ad/\0<=m.n)):=λC=>by
  obtain g|⟨n,y,v,d⟩|⟨N,x,y,v,d,R,g5⟩:=h.st;exact eR g;obtain d|d:=ZF.1 d;exact ZB ⟨n,y,v,d⟩ C;exact eS (eR ⟨n,y,v,d⟩);exact eS (eS ⟨N,x,qax y (by rw[R];exact λe=>z e.symm),v,d,R,g5⟩)
 have u:=h.le;by_cases Q:∃n:Int,0<=n/\n<=b.a4.length/\b.b9 2 (-1) n=m;obtain⟨n,h0,C,e⟩:=Q;have e1:m.aj=2/\m.ar=b.id/\m.ad=b.ad/\m.n=n:=by rw[<- e];exact⟨rfl,rfl,rfl,rfl⟩
 obtain⟨J,I,E,S⟩:=e1;rw[PJ J f.at0 f.tl (I.trans f.ab.symm) Z0 K (E.trans f.ep)];refine⟨u,eS (eS (eS ?_)),?_⟩;refine List.Sublist.trans ?_ (Y4 _ _);have h6:b.a4.length<=a.a4.length:=u;have h7:m.n.toNat<=b.a4.length:=by omega
 exact(MD (s:=m.n.toNat) (s':=b.a4.length) (n:=a.a4.length-m.n.toNat) (n':=a.a4.length-b.a4.length) h7 Z0).map _;have g:=D (λ⟨n,_,_,e2⟩=>by have:=congrArg Ms.aj e2;have e3:(4:Int)=m.aj:=this;omega);exact g.imp id (Y7 (λ⟨n,y,v,d⟩=>⟨n,y,v,VM _ d⟩) (λ⟨N,x,y,v⟩=>⟨N,x,VM _ y,v⟩));have M:=O Q;by_cases hs:∃n:Int,b.ao<=n/\0<=n/\b.b9 4 (-1) n=m;obtain⟨n,h1,h0,e⟩:=hs;have e1:m.aj=4/\m.ar=b.id/\m.ad=b.ad/\m.n=n:=by rw[<- e];exact⟨rfl,rfl,rfl,rfl⟩
 obtain⟨J,I,E,S⟩:=e1;have C:=L J (E.trans f.ep) I;rw[Ga J f.at0 f.tl (I.trans f.ab.symm) Z0 C K (E.trans f.ep)];have A:BG {a with ao:=max a.ao m.n} b l:=⟨u,M,eR (by show b.ao<=max a.ao m.n;omega)⟩
 exact A.more _;have A:BG a b l:=⟨u,M,D hs⟩
 generalize U:a.step m=r;have c:=Gb a m;rw[U]at c;cases c with
 |none=>exact A.more _
 |sync=>exact A.more _
 |have_=>exact A.more _
 |fwd=>exact A.aP f _
 |stab=>
  have h3:BG {a with ao:=max a.ao m.n} b l:=⟨u,M,A.st.imp (λg=>by show b.ao<=max a.ao m.n;omega) id⟩
  exact h3.more _
def BG.atB(v:Nbr a b)(h:BG a b (m::l))(Z:m.a8=b.id)(h5:a.a4.length<500)(a2:m.aj=3->m.ad=b.ad->m.ar=a.id->∃k:Nat,m.n=k/\a.a4[k]? = Bs m.aY)(a0:m.aj=4->m.ad=b.ad->m.ar=b.a8 1->b.tail=L1->m.n<=b.a4.length) :
  BG a (b.step m).1 (l++(b.step m).2):=by
 have K:m.a8≠a.id:=by rw[Z];exact λe=>v.ne e.symm
 have I:=h.le;have a3:(¬∃n,a.b9 1 1 n=m)->(b.a4.length<a.a4.length->a.a6 b.a4.length≠m)->(b.a4.length=a.a4.length\/(∃n,a.b9 1 1 n∈l)\/(∃n:Int,0<=n/\n<=b.a4.length/\b.b9 2 (-1) n∈l)\/((Wh b.a4.length (a.a4.length-b.a4.length)).map a.a6).Sublist l):=λh1 O=>by
  obtain g|⟨n,g⟩|⟨n,d,f,u⟩|g:=h.fw;exact eR g;obtain g|g:=ZF.1 g;exact ZB ⟨n,g⟩ h1;exact eS (eR ⟨n,g⟩);exact eS (eS (eR ⟨n,d,f,qax u (by show b.a8 (-1)≠_;rw[v.ba];exact λe=>K e.symm)⟩));by_cases e:b.a4.length=a.a4.length;exact eR e;obtain g|⟨q,g,_⟩:=ZR.1 g;exact eS (eS (eS g));exfalso;obtain⟨k,C⟩:∃k,a.a4.length-b.a4.length=k+1:=⟨a.a4.length-b.a4.length-1,Z0⟩
  rw[C,List.range'_succ,WJ]at g;injection g with g _;exact O Z0 g
 have E:¬(b.tail=L1/\m.aj=4/\m.ar=b.a8 1/\m.ad=b.ad/\0<=m.n)->(b.ao<=a.ao\/(∃n:Int,b.ao<=n/\0<=n/\b.b9 4 (-1) n∈l)\/(b.tail=L1/\∃m∈l,m.aj=4/\m.ar=b.a8 1/\m.a8=b.id/\m.ad=b.ad/\0<=m.n)):=λhn=>by
  obtain g|⟨n,d,f,u⟩|⟨Q,x,d,f,u,g4,g5⟩:=h.st;exact eR g;exact eS (eR ⟨n,d,f,qax u (by show b.a8 (-1)≠_;rw[v.ba];exact λe=>K e.symm)⟩);obtain d|d:=ZF.1 d;subst d;exact ZB ⟨Q,f,u,g5⟩ hn;exact eS (eS ⟨Q,x,d,f,u,g4,g5⟩)
 have A:b.a4.length<a.a4.length->((∃n,a.b9 1 1 n∈l)\/(∃n:Int,0<=n/\n<=b.a4.length/\b.b9 2 (-1) n∈l)\/((Wh (b.a4.length+1) (a.a4.length-(b.a4.length+1))).map a.a6).Sublist l)->
   (b.ao<=a.ao\/(∃n:Int,b.ao<=n/\0<=n/\b.b9 4 (-1) n∈l)\/(b.tail=L1/\∃m∈l,m.aj=4/\m.ar=b.a8 1/\m.a8=b.id/\m.ad=b.ad/\0<=m.n))->BG a (b.aP m.aY).1 (l++(b.aP m.aY).2):=λy X hs=>by
  have hE:=Do.aP b m.aY;have S:=q3o b m.aY;have z:(b.aP m.aY).1.a4.length=b.a4.length+1:=by rw[S];simp
  have D:=λk c n=>Iy hE k c n
  have U:∀ms,(b.aP m.aY).1.a4.length=a.a4.length\/(∃n,a.b9 1 1 n∈l++ms)\/(∃n:Int,0<=n/\n<=(b.aP m.aY).1.a4.length/\(b.aP m.aY).1.b9 2 (-1) n∈l++ms)\/((Wh (b.aP m.aY).1.a4.length (a.a4.length-(b.aP m.aY).1.a4.length)).map a.a6).Sublist (l++ms):=λms=>by
   rw[z];obtain⟨n,g⟩|⟨n,d,f,u⟩|g:=X;exact eS (eR ⟨n,VM _ g⟩);exact eS (eS (eR ⟨n,d,Z0,VM _ (by rw[D];exact u)⟩));exact eS (eS (eS (g.trans (Zd _ _))))
  obtain⟨e,Y⟩|⟨e,_,Y⟩:=q30 b m.aY;refine⟨by rw[z];omega,U _,?_⟩;rw[Y];show b.ao<=a.ao\/(∃n:Int,b.ao<=n/\0<=n/\b.b9 4 (-1) n∈_)\/(b.tail=L1/\∃m:Ms,m∈_/\m.aj=4/\m.ar=b.a8 1/\m.a8=b.id/\m.ad=b.ad/\0<=m.n);exact hs.imp id (Y7 (λ⟨n,d,f,u⟩=>⟨n,d,f,VM _ u⟩) (λ⟨Q,x,d,f⟩=>⟨Q,x,VM _ d,f⟩));obtain⟨e3,e4⟩:=Y (Z4 v.eP);refine⟨by rw[z];omega,U _,eS (eR ⟨((b.a4++[m.aY]).length:Nat),by rw[e3];exact WH _,Z0,?_⟩)⟩;rw[e4,Z8 v.eP,D];exact WW _ (VU.2 rfl)
 by_cases w1:∃n,a.b9 1 1 n=m;obtain⟨n,e⟩:=w1;have e1:m.aj=1/\m.ar=a.id/\m.ad=a.ad:=by rw[<- e];exact⟨rfl,rfl,rfl⟩
 obtain⟨N,M,L⟩:=e1;rw[PI N v.eP (M.trans v.ba.symm) Z (L.trans v.ep.symm)];have hs:=E (λ⟨_,g,_⟩=>Z0);refine⟨I,eS (eS (eR ⟨(b.a4.length:Nat),Z0,WH _,WW _ (VU.2 rfl)⟩)),?_⟩;exact hs.imp id (Y7 (λ⟨n,d,f,u⟩=>⟨n,d,f,VM _ u⟩) (λ⟨Q,x,d,f⟩=>⟨Q,x,VM _ d,f⟩));by_cases w2:b.a4.length<a.a4.length/\a.a6 b.a4.length=m;obtain⟨y,e⟩:=w2;have e1:m.aj=3/\m.ar=a.id/\m.ad=a.ad/\m.n=b.a4.length:=by rw[<- e];exact⟨rfl,rfl,rfl,rfl⟩
 obtain⟨N,M,L,k4⟩:=e1;rw[Sr N v.eP (M.trans v.ba.symm) k4 Z0 Z (L.trans v.ep.symm)];refine A y ?_ (E (λ⟨_,g,_⟩=>Z0));obtain g|⟨n,g⟩|⟨n,d,f,u⟩|g:=h.fw;omega;obtain g|g:=ZF.1 g;exact ZB ⟨n,g⟩ w1;exact eR ⟨n,g⟩;exact eS (eR ⟨n,d,f,qax u (by show b.a8 (-1)≠_;rw[v.ba];exact λe=>K e.symm)⟩);refine eS (eS ?_);obtain⟨k,C⟩:∃k,a.a4.length-b.a4.length=k+1:=⟨a.a4.length-b.a4.length-1,Z0⟩
 rw[C,List.range'_succ,WJ]at g;rw[show a.a4.length-(b.a4.length+1)=k by omega];obtain g|⟨q,g,f⟩:=ZR.1 g;exact(Zq _ _).trans g;injection g with _ g;rw[g];exact f;have X:=a3 w1 (λy e=>w2 ⟨y,e⟩);by_cases w3:b.tail=L1/\m.aj=4/\m.ar=b.a8 1/\m.ad=b.ad/\0<=m.n;obtain⟨k0,N,M,L,k4⟩:=w3;rw[Ga N (Z4 v.eP) k0 M k4 (a0 N L M k0) Z L,Z8 v.eP];refine⟨I,?_,eS (eR ⟨max b.ao m.n,WH _,Z0,WW _ (VU.2 rfl)⟩)⟩;exact X.imp id (Y7 (λ⟨n,g⟩=>⟨n,VM _ g⟩) (Y7 (λ⟨n,d,f,u⟩=>⟨n,d,f,VM _ u⟩) (λg=>g.trans (Zd _ _))));have O:BG a b l:=⟨I,X,E w3⟩
 generalize hr:b.step m=r;have c:=Gb b m;rw[hr]at c;cases c with
 |none=>exact O.more _
 |sync=>exact O.more _
 |have_=>exact O.more _
 |fwd C ha J hn R he=>
  obtain⟨k,e1,Y⟩:=a2 C he (J.trans v.ba);have a1:k=b.a4.length:=by omega
  subst a1;have y:=(ZC.1 Y).1;refine A y ?_ O.st;obtain g|g|g|g:=X;omega;exact eR g;exact eS (eR g);refine eS (eS ?_);obtain⟨k,C⟩:∃k,a.a4.length-b.a4.length=k+1:=⟨a.a4.length-b.a4.length-1,Z0⟩
  rw[C,List.range'_succ,WJ]at g;rw[show a.a4.length-(b.a4.length+1)=k by omega];exact(Zq _ _).trans g
 |stab C R J h0 a5 a4 he=>exact ZB ⟨R,C,J,he,h0⟩ w3
end
def wM(m:Ms):Nat:=if m.aj=1\/m.aj=2 then 16 else 1
def Dp(l:List Ms):Nat:=(l.map wM).sum
def Md(m:Ms):1<=wM m:=by unfold wM;split<;>omega
def q36(a b:List Ms):Dp (a++b)=Dp a+Dp b:=by unfold Dp;simp
def q4p(m:Ms)(l:List Ms):Dp (m::l)=wM m+Dp l:=by unfold Dp;simp
def q7y:∀l:List Ms,l.length<=Dp l
 |[]=>Hi _
 |m::l=>by rw[q4p,Wi];have:=q7y l;have:=Md m;omega
def Jj(d:Nd):∀r:List Nat,Dp (r.map d.a6)=r.length
 |[]=>rfl
 |k::r=>by
  rw[WJ,q4p,Jj d r];have:wM (d.a6 k)=1:=rfl;rw[this,Wi];omega
def hl(H:Hs)(s:Nat):Nat:=match H.head s with
 |some j=>(lg H s j).length
 |none=>0
def phi(H:Hs):Nat:=Dp H.net.l+((16-hl H 0)+(16-hl H 1)+(16-hl H 2))
def OQ{H:Hs}(h:H.head s=Bs j):hl H s=(lg H s j).length:=by unfold hl;rw[h]
structure BB(H:Hs):Prop where
 bX:∀s,s<3->Cfg H s ((H.sh s).ai H.n)
 ne:∀s,s<3->(H.sh s).ai H.n≠[]
 n3:H.n<=3
 m8:H.m<=8
section
variable {H H':Hs}{G:Gh}{B:Int}{s j:Nat}{m:Ms}{ms:List Ms}
def BB.bz(h:BB H)(c:AX H H')(d:H'.m=H.m):BB H':=
 ⟨λs hs=>by rw[c.cN];exact c.bX (h.bX s hs),λs hs=>by rw[c.cN];exact h.ne s hs,by rw[c.n];exact h.n3,by rw[d];exact h.m8⟩
def log_len(x:Bl H G B)(hs:s<3)(hl:Lv H s j):(lg H s j).length<=2*H.m:=by
 have X:=(x.s.wl s j hs hl).2;have L:=λc u=>x.a.aj hs hl (c:=c) u
 have z:∀c∈lg H s j,∀d∈lg H s j,c.aj=3->d.aj=4->c.tx≠d.tx:=λc u d Q e3 e4 e=>by
  by_cases R:s<2;obtain⟨p,Z⟩:=ZI.1 u;obtain⟨q,Y⟩:=ZI.1 Q;obtain⟨_,A⟩:=x.a.bT.pl s R j hl p c Z;obtain⟨_,v⟩:=x.a.bT.pl s R j hl q d Y;have e5:Sn H c.tx=3:=by
   obtain A|A|A:=A;omega;exact A.2.1;omega
  have e6:Sn H d.tx=4:=by
   obtain v|v|v:=v;omega;omega;exact v.2
  rw[e]at e5;omega;obtain rfl:s=2:=by omega
  have:=(x.a.bT.p2 j hl d Q).2.1;omega
 have K:((lg H s j).map λc:Cm=>((if c.aj=2 then 0 else(H.m:Int))+(c.tx-1)).toNat).Nodup:=by
  rw[Yz,Xb,List.pairwise_iff_getElem];intro i k hi O a0 e;have J:=X k (lg H s j)[k] (K0 O);have M:(lg H s j)[i]∈(lg H s j).take k:=List.mem_take_iff_getElem.2 ⟨i,Z0,rfl⟩;have I:=Wy hi;have E:=Wy O;obtain⟨f,a2,a3⟩:=L _ I;obtain⟨h,b2,b3⟩:=L _ E;have S:=z _ I _ E;have n2:=z _ E _ I;refine J ⟨(lg H s j)[i],M,?_⟩;generalize (lg H s j)[i]=c at *;generalize (lg H s j)[k]=d at *;by_cases D:c.aj=2<;>by_cases C:d.aj=2;rw[Z8 D,Z8 C]at e;exact⟨Z0,Z0⟩;rw[Z8 D,Z7 C]at e;omega;rw[Z7 D,Z8 C]at e;omega;rw[Z7 D,Z7 C]at e;have N:c.tx=d.tx:=by omega
  refine⟨?_,N⟩;obtain f|f|f:=f<;> obtain h|h|h:=h<;> first|omega|exact ZB N (S f h)|exact ZB N.symm (n2 h f)
 have n:∀y∈((lg H s j).map λc:Cm=>((if c.aj=2 then 0 else(H.m:Int))+(c.tx-1)).toNat),y∈Ww (2*H.m):=λy U=>by
  obtain⟨c,u,rfl⟩:=ZE.1 U;obtain⟨f,a2,a3⟩:=L c u;rw[List.mem_range];split<;>omega
 have:=WL K n;rw[V0,List.length_range]at this;exact this
def q7x(x:Bl H G B)(w:BB H)(hs:s<3)(hl:Lv H s j):(lg H s j).length<=16:=Z5 (log_len x hs hl) w.m8
def BB.aN(w:BB H)(hs:s<3)(hl:Lv H s j):∃p,At H s j ((H.sh s).ai H.n) p:=by obtain⟨h,f,p,d,c⟩:=(w.bX s hs).nd j hl;exact⟨p,w.bX s hs,d,c,f,h⟩
def BB.eh(w:BB H)(hs:s<3)(c:((H.sh s).ai H.n)[p]? = Bs j):At H s j ((H.sh s).ai H.n) p:=by
 obtain⟨q,a⟩:=w.aN hs (Fy.1 (N2 c));have e:p=q:=by
  obtain e|e|e:=Nat.lt_trichotomy p q;have:=(Oo a.bX.aH c a.ix).1 e;omega;exact e;have:=(Oo a.bX.aH a.ix c).1 e;omega
 subst e;exact a
def BB.lv(_w:BB H)(c:((H.sh s).ai H.n)[p]? = Bs j):Lv H s j:=Fy.1 (N2 c)
def BB.nbr(w:BB H)(x:Ac H B)(hs:s<3){a b:Nat}(f:((H.sh s).ai H.n)[p]? = Bs a)(d:((H.sh s).ai H.n)[p+1]? = Bs b):Nbr ((H.sh s).nd a) ((H.sh s).nd b):=by have c:=w.eh hs f;have tb:=w.eh hs d;have n:=x.ch.bL s a (by rw[x.c];exact hs) (w.lv f).1;have h:=x.ch.bL s b (by rw[x.c];exact hs) (w.lv d).1;have u:=(Oo c.bX.aH f d).1 (Y1 p);have hl:=(ZC.1 d).1;refine⟨tb.ad.trans c.ad.symm,?_,?_,by rw[c.aN];omega,by rw[tb.aN];omega,by rw[c.tail];exact Z9 Z0,by rw[n,h];unfold BW;omega⟩;rw[c.a8 (q:=p+1) Z0 d,h];rw[tb.a8 (q:=p) Z0 f,n]
def BB.head(w:BB H)(hs:s<3):∃j,((H.sh s).ai H.n)[0]? = Bs j/\H.head s=Bs j:=by
 obtain⟨j,c⟩:∃j,((H.sh s).ai H.n)[0]? = Bs j:=by
  cases e:(H.sh s).ai H.n with
  |nil=>exact ZB e (w.ne s hs)
  |cons a l=>exact⟨a,rfl⟩
 refine⟨j,c,?_⟩;have a:=w.eh hs c;unfold Hs.head Bv.d5;cases e:(H.sh s).ai H.n with
 |nil=>exact ZB e (w.ne s hs)
 |cons i l=>
  rw[e]at c;obtain rfl:i=j:=Z6 c;rw[List.find?_cons_of_pos];rw[a.head];rfl
def BB.head0(w:BB H)(hs:s<3)(c:H.head s=Bs j):((H.sh s).ai H.n)[0]? = Bs j:=by obtain⟨i,f,d⟩:=w.head hs;rw[d]at c;injection c with c;rw[<- c];exact f
def Hn(d:Nd)(ms:List Ms):Prop:=∀m∈ms,m.ar=d.id/\((m.a8=d.a8 1/\d.tail=L1)\/(m.a8=d.a8 (-1)/\0<d.aN))
def Hn.nil(d:Nd):Hn d []:=λ_ h=>(nomatch h)
def Hn.aP{d:Nd}(q:0<=d.aN)(c:Cm):Hn d (d.aP c).2:=by obtain⟨e,n⟩|⟨_,_,n⟩:=q30 d c;rw[n];intro m f;rw[VU]at f;subst f;exact⟨rfl,eR ⟨rfl,e⟩⟩;rw[(n q).2];split;rename_i h;intro m f;rw[VU]at f;subst f;exact⟨rfl,eS ⟨rfl,h⟩⟩;exact Hn.nil d
def Hn.step{d:Nd}(v:0<=d.aN)(m:Ms):Hn d (d.step m).2:=by
 have c:=Gb d m;generalize d.step m=r at c ⊢;cases c with
 |none=>exact Hn.nil d
 |sync q u y x z=>
  intro m f;have f:=VU.1 f;subst f;exact⟨rfl,eS ⟨rfl,u⟩⟩
 |have_ q n=>
  intro m f;obtain⟨k,_,rfl⟩:=ZE.1 f;exact⟨rfl,eR ⟨rfl,n⟩⟩
 |fwd=>exact Hn.aP v _
 |stab=>
  show Hn d (if d.aN > 0 then [d.b9 4 (-1) (max d.ao m.n)]else []);split;rename_i h;intro m f;have f:=VU.1 f;subst f;exact⟨rfl,eS ⟨rfl,h⟩⟩;exact Hn.nil d
def Hn.aD(d:Nd):Hn d d.aD.2:=by unfold Nd.aD;split;exact Hn.nil d;split;show Hn d (if d.aN > 0 then _ else []);split;rename_i h;intro m c;have c:=VU.1 c;subst c;exact⟨rfl,eS ⟨rfl,h⟩⟩;exact Hn.nil d;rename_i h;intro m c;have c:=VU.1 c;subst c;exact⟨rfl,eR ⟨rfl,Z6 h⟩⟩
def R0(h:0<=d.aN)(c:Cm):Dp (d.aP c).2<=1:=by obtain⟨_,f⟩|⟨_,_,f⟩:=q30 d c;rw[f];exact Hi _;rw[(f h).2];split;exact Hi _;exact VG _
def w_step(n:0<=d.aN)(h:d.a4.length<=16)(m:Ms):Dp (d.step m).2<=wM m:=by
 have c:=Gb d m;generalize d.step m=r at c ⊢;cases c with
 |none=>exact VG _
 |sync f=>
  have:wM m=16:=by unfold wM;rw[Z8 (eR f)]
  rw[this];exact Hi _
 |have_ f=>
  have:wM m=16:=by unfold wM;rw[Z8 (eS f)]
  rw[this,Jj,List.length_range'];omega
 |fwd=>exact VK (R0 n _) (Md m)
 |stab=>
  refine VK ?_ (Md m);show Dp (if d.aN > 0 then _ else [])<=1;split;exact Hi _;exact VG _
def qdt(w:BB H)(x:Ac H B)(hs:s<3)(hl:Lv H s j)(u:Hn ((H.sh s).nd j) ms):∀m∈ms,H.net.aq m.ar=L1/\H.net.aq m.a8=L1:=λm n=>by
 obtain⟨e1,d⟩:=u m n;obtain⟨p,a⟩:=w.aN hs hl;have h:∀{i},Lv H s i->H.net.aq (BW s i)=L1:=λ{i} c=>by
  rw[x.ch.dn s i (by rw[x.c];exact hs) c.1,<- x.ch.bL s i (by rw[x.c];exact hs) c.1];exact c.2
 refine⟨by rw[e1,x.ch.bL s j (by rw[x.c];exact hs) hl.1];exact h hl,?_⟩;have v:=(ZC.1 a.ix).1;obtain⟨d,f⟩|⟨d,f⟩:=d;rw[a.tail,decide_eq_false_iff_not]at f;obtain⟨i,c⟩:∃i,((H.sh s).ai H.n)[p+1]? = Bs i:=⟨_,K0 Z0⟩
 rw[d,a.a8 (q:=p+1) Z0 c];exact h (w.lv c);rw[a.aN]at f;obtain⟨i,c⟩:∃i,((H.sh s).ai H.n)[p-1]? = Bs i:=⟨_,K0 Z0⟩
 rw[d,a.a8 (q:=p-1) Z0 c];exact h (w.lv c)
def q7n:∀(ms:List Ms)(n:Be),(∀m∈ms,n.aq m.ar=L1/\n.aq m.a8=L1)->n.l.length+ms.length<=200->(EW n ms).l=n.l++ms
 |[],n,_,_=>by simp[EW]
 |m::ms,n,hd,hl=>by
  have c:=hd m VB;rw[Wi]at hl;have e:AR n m = {n with l:=n.l++[m]}:=by
   unfold AR CE;rw[Z7 (by simp[c.1,c.2];omega)]
  have d:=q7n ms (AR n m) (λy f=>by rw[q4v];exact hd y (VE _ f)) (by rw[e];simp;omega);show(EW (AR n m) ms).l=_;rw[d,e];simp
end
structure Dn(H:Hs):Prop where
 eI:∀s,s<3->∀p a b,((H.sh s).ai H.n)[p]? = Bs a->((H.sh s).ai H.n)[p+1]? = Bs b->BG ((H.sh s).nd a) ((H.sh s).nd b) H.net.l
 tail:∀s,s<3->∀j,Lv H s j->((H.sh s).nd j).tail=VD->((H.sh s).nd j).ao=((lg H s j).length:Int)
 ph:phi H<=200
section
variable {H H':Hs}{G:Gh}{B:Int}{s j:Nat}{m:Ms}{ms:List Ms}
def AP.head(h:AP H H')(k:Nat):H'.head k=H.head k:=PZ h.n (h.aq k) (λj=>by rw[h.nd];exact⟨rfl,rfl⟩)
def AP.cN(h:AP H H')(k:Nat):(H'.sh k).ai H'.n=(H.sh k).ai H.n:=by unfold Bv.ai;rw[h.n,h.aq,h.nd]
def Dn.same(h:Dn H)(c:AP H H'):Dn H':=by
 have d:∀s,hl H' s=hl H s:=λs=>by unfold hl;rw[c.head];simp only[c.lg]
 refine⟨λs hs p a b q n=>?_,λs hs j u f=>?_,?_⟩;rw[c.cN]at q n;rw[c.nd,c.net];exact h.eI s hs p a b q n;rw[c.lg,c.nd];rw[c.nd]at f;exact h.tail s hs j (c.lv.1 u) f;unfold phi;rw[d,d,d,c.net];exact h.ph
def qdq{net:Be}(hs:s<3)(f:Do ((H.sh s).nd j) d):let K:=((({H with net:=net} : Hs).au s j d).aO ms).take s
  AX {H with net:=net} K/\(∀a i,(K.sh a).nd i=if a=s/\i=j then d else(H.sh a).nd i)/\K.net=EW net ms:=by
 intro K;have t:=BK.take ((({H with net:=net} : Hs).au s j d).aO ms) s;refine⟨((AX.au (H:={H with net:=net}) (s:=s) (j:=j) f).trans (.aO _ _)).trans (.take _ _),λa i=>?_,t.net⟩;have e:(K.sh a).nd=((({H with net:=net} : Hs).au s j d).sh a).nd:=by
  by_cases g:a=s;subst g;exact t.nd;exact congrArg Bv.nd (t.sh a g)
 rw[e];by_cases g:a=s;subst g;rw[EH];show Af (H.sh a).nd j d i=_;by_cases c:i=j;subst c;rw[Aq,Z8 ⟨rfl,rfl⟩];rw[Ay c,Z7 (λh=>c h.2)];rw[Jb _ j d g,Z7 (λh=>g h.1)]
def Ly(c:Cm)(b:Bool)(d:(((H.sh s).nd j).add c b).2.2=0):(H.add s j c b).2=((({H with net:=H.net} : Hs).au s j (((H.sh s).nd j).aP c).1).aO (((H.sh s).nd j).aP c).2).take s:=by unfold Hs.add;rw[Z7 (by simp[d]),(P5 d).1]
def Dn.add(h:Dn H)(w:BB H)(x:Ac H B)(hs:s<3)(L:H.head s=Bs j)(c:Cm)(b:Bool)(U:(lg H s j).length+1<=16):Dn (H.add s j c b).2:=by
 have N:=(CS L).1;have R:(((H.sh s).nd j).add c b).2.2=0:=by
  unfold Nd.add;rw[(CS L).2,Z7 Z3,Z7 (by unfold lg at U;omega)]
 have Z:=w.head0 hs L;have aj:=w.eh hs Z;have A:0<=((H.sh s).nd j).aN:=by rw[aj.aN];omega
 have hw:¬(H.add s j c b).1<0:=by
  unfold Hs.add;rw[Z7 (by simp[R])];have:=(P5 R).2;show ¬(((H.sh s).nd j).add c b).2.1<0;omega
 have v:=(SL hw).1;have a0:=R0 A c;have E:=h.ph;have a2:=q7y H.net.l;have a3:=q7y (((H.sh s).nd j).aP c).2;have Q:=OQ L;have a1:H.net.l.length+1<=200:=by
  unfold phi at E;have:s=0\/s=1\/s=2:=by omega
  obtain e|e|e:=this<;> subst e<;>omega
 rw[Ly c b R]at v ⊢;obtain⟨D,n,J⟩:=qdq (net:=H.net) (ms:=(((H.sh s).nd j).aP c).2) hs (Do.aP ((H.sh s).nd j) c);generalize hK:((({H with net:=H.net} : Hs).au s j (((H.sh s).nd j).aP c).1).aO (((H.sh s).nd j).aP c).2).take s=K at *;have D:AX H K:=D;have I:K.net.l=H.net.l++(((H.sh s).nd j).aP c).2:=by
  rw[J];exact q7n _ _ (qdt w x hs N (Hn.aP A c)) Z0
 refine⟨λt C p a e S u=>?_,λt C i hi d=>?_,?_⟩;rw[D.cN]at S u;have Y:=h.eI t C p a e S u;rw[I,n,n];have M:¬(t=s/\e=j):=λ⟨X,y⟩=>by
  subst X y;have:=(Oo (w.bX t C).aH Z u).1 Z0;omega
 rw[Z7 M];split;rename_i g;obtain⟨X,y⟩:=g;subst X y;exact Y.aP (w.nbr x C S u) c;exact Y.more _;unfold lg;rw[n]at d ⊢;have O:=D.lv.1 hi;split;rename_i g;rw[Z8 g]at d;obtain⟨y,_⟩|⟨y,g3,g4⟩:=q30 ((H.sh s).nd j) c;exfalso;have:=(Do.aP ((H.sh s).nd j) c)
 unfold Nd.tail at d y;rw[this.2.2.1,this.2.2.2]at d;rw[d]at y;cases y;rw[(g4 A).1,g3];rename_i g;rw[Z7 g]at d;exact h.tail t C i O d;have f:∀t,t≠s->t<3->hl K t=hl H t:=λt e C=>by
  unfold hl;rw[D.head];cases H.head t with
  |none=>rfl
  |some q=>simp only;unfold lg;rw[n,Z7 (λg=>e g.1)]
 have z:hl K s=hl H s+1:=by
  rw[Q,OQ ((D.head s).trans L),v];simp
 unfold phi at E ⊢;rw[I,q36];have:s=0\/s=1\/s=2:=by omega
 obtain e|e|e:=this<;> subst e;rw[f 1 Z0 Z0,f 2 Z0 Z0,z];omega;rw[f 0 Z0 Z0,f 2 Z0 Z0,z];omega;rw[f 0 Z0 Z0,f 1 Z0 Z0,z];omega
def Dn.aE(h:Dn H)(w:BB H)(x:Bl H G B){rest:List Ms}(O:H.net.l=m::rest):Dn (({H with net:=takeS H.net 0} : Hs).aE m):=by
 have a0:takeS H.net 0=⟨rest,H.net.aq⟩:=by unfold takeS;rw[O];rfl
 have E:m∈H.net.l:=by rw[O];exact VB
 have ids:∀{t i},t<3->Lv H t i->((H.sh t).nd i).id=BW t i:=λ{t i} d v=>x.a.ch.bL t i (by rw[x.a.c];exact d) v.1
 have u:=h.ph;cases Y:Hs.node {H with net:=takeS H.net 0} m.a8 with
 |none=>
  rw[Je Y,a0];have a2:∀t i,t<3->Lv H t i->((H.sh t).nd i).id≠m.a8:=λt i d v e=>by
   unfold Hs.node at Y;rw[List.find?_eq_none]at Y;refine Y (t,i) ?_ (Z6 e);rw[List.mem_flatMap];refine⟨t,?_,ZE.2 ⟨i,Fy.2 v,rfl⟩⟩;have:t=0\/t=1\/t=2:=by omega
   obtain e|e|e:=this<;> subst e<;>simp
  refine⟨λt d p a e J y=>?_,λt d i v f=>h.tail t d i v f,?_⟩;have N:=h.eI t d p a e J y;rw[O]at N;exact N.drop (w.nbr x.a d J y) (λg=>a2 t a d (w.lv J) g.symm) (λg=>a2 t e d (w.lv y) g.symm);unfold phi at u ⊢;rw[O,q4p]at u;show Dp rest+((16-hl H 0)+(16-hl H 1)+(16-hl H 2))<=200;omega
 |some r=>
  obtain⟨s,j⟩:=r;obtain⟨hs,n,I⟩:=q4c (H:={H with net:=takeS H.net 0}) x.a.c Y;have C:s<3:=by have:=x.a.c;have hs:s<H.c:=hs;omega
  have n:Lv H s j:=n;have I:((H.sh s).nd j).id=m.a8:=I;obtain⟨q,aj⟩:=w.aN C n;have U:0<=((H.sh s).nd j).aN:=by rw[aj.aN];omega
  have a8:=q7x x w C n;have a9:=w_step U a8 m;rw[Jf Y];obtain⟨cf,L,a4⟩:=qdq (net:=takeS H.net 0) (ms:=(((H.sh s).nd j).step m).2) C (Do.step ((H.sh s).nd j) m);show Dn (((({H with net:=takeS H.net 0} : Hs).au s j (((H.sh s).nd j).step m).1).aO (((H.sh s).nd j).step m).2).take s);generalize hK:((({H with net:=takeS H.net 0} : Hs).au s j (((H.sh s).nd j).step m).1).aO (((H.sh s).nd j).step m).2).take s=K at *;have a3:K.net.l=rest++(((H.sh s).nd j).step m).2:=by
   rw[a4,a0];refine q7n _ _ (qdt w x.a C n (Hn.step U m)) ?_;have l1:=q7y rest;have l2:=q7y (((H.sh s).nd j).step m).2;unfold phi at u;rw[O,q4p]at u;show rest.length+_<=200;omega
  have Q:∀k,(K.sh k).ai K.n=(H.sh k).ai H.n:=λk=>cf.cN k
  have S:∀k,K.head k=H.head k:=λk=>cf.head k
  refine⟨λt d p a e J y=>?_,λt d i v f=>?_,?_⟩;rw[Q]at J y;have N:=h.eI t d p a e J y;rw[O]at N;have nb:=w.nbr x.a d J y;have Z:=w.lv J;have le:=w.lv y;rw[a3,L,L];have a7:a≠e:=λg=>by
   have:=(Oo (w.bX t d).aH J y).1 Z0;omega
  by_cases ga:t=s/\a=j;rw[Z8 ga,Z7 (λg=>a7 (ga.2.trans g.2.symm))];obtain⟨M,z⟩:=ga;subst M z;refine N.atA nb I.symm (λk4 ke X=>?_);have hI:=(x.a.ch.cI E (by rw[x.a.c];exact d) le.1 (X.trans (ids d le))).2;exact hI.st (ke.trans ((w.eh d J).ad)) k4 a Z;rw[Z7 ga];by_cases ge:t=s/\e=j;rw[Z8 ge];obtain⟨M,z⟩:=ge;subst M z;have a6:=q7x x w d Z;refine N.atB nb I.symm (by unfold lg at a6;omega) (λk3 ke X=>?_) (λk4 ke X kt=>?_);have hI:=(x.a.ch.cI E (by rw[x.a.c];exact d) Z.1 (X.trans (ids d Z))).2;exact hI.fwd (ke.trans ((w.eh d y).ad)) k3;have ae:=w.eh d y;rw[ae.tail,decide_eq_false_iff_not]at kt;have aa:=(ZC.1 y).1;obtain⟨i,v⟩:∃i,((H.sh t).ai H.n)[p+1+1]? = Bs i:=⟨_,K0 Z0⟩
  rw[ae.a8 (q:=p+1+1) Z0 v]at X;have hI:=(x.a.ch.cI E (by rw[x.a.c];exact d) (w.lv v).1 X).2;exact hI.st (ke.trans ae.ad) k4 e le;rw[Z7 ge];have other:∀{i},Lv H t i->¬(t=s/\i=j)->m.a8≠((H.sh t).nd i).id:=λ{i} v g e2=>by
   rw[<- I,ids d v,ids C n]at e2;have n4:=x.a.ch.n4;obtain⟨M,z⟩:=qdx (Z4 n.1) (Z4 v.1) e2;exact g ⟨M.symm,z.symm⟩
  exact(N.drop nb (other Z ga) (other le ge)).more _;have a5:Lv H t i:=cf.lv.1 v;unfold lg;rw[L]at f ⊢;split;rename_i g;obtain⟨M,z⟩:=g;subst M z;rw[Z8 ⟨rfl,rfl⟩]at f;have hE:=Do.step ((H.sh t).nd i) m;have A:((H.sh t).nd i).tail=VD:=by
   unfold Nd.tail at f ⊢;rw[hE.2.2.1,hE.2.2.2]at f;exact f
  have D:=h.tail t d i a5 A;have c:=Gb ((H.sh t).nd i) m;generalize ((H.sh t).nd i).step m=r at c ⊢;cases c with
  |none=>exact D
  |sync=>exact D
  |have_=>exact D
  |fwd=>
   obtain⟨z,_⟩|⟨_,g3,g4⟩:=q30 ((H.sh t).nd i) m.aY;rw[A]at z;cases z;rw[(g4 U).1,g3]
  |stab hk a1=>rw[A]at a1;cases a1
  rename_i g;rw[Z7 g]at f;exact h.tail t d i a5 f;have R:∀t,t<3->hl H t<=hl K t:=λt d=>by
   unfold hl;rw[S];cases H.head t with
   |none=>exact Hi _
   |some q=>
    simp only;unfold lg;rw[L];split;rename_i g;obtain⟨M,z⟩:=g;subst M z;exact(q5g _ m).1.length_le;exact Hi _
  have e0:=R 0 Z0;have e1:=R 1 Z0;have e2:=R 2 Z0;unfold phi at u ⊢;rw[O,q4p]at u;rw[a3,q36];omega
end
variable {ms:List Ms}
def Dn.aC(h:Dn H)(w:BB H)(a:Ac H B){kind:Int}{k:Nat}(u:k<3)(v:∀j,H.head k=Bs j->(lg (H.aC i kind k) k j).length<=16)(q:∀j,H.head k=Bs j->(lg H k j).length<500):Dn (H.aC i kind k):=by
 cases d:H.head k with
 |none=>rw[J6 d];exact h
 |some j=>
  have c:=v j d;rw[Jd d]at c ⊢;split;rename_i g;rw[Z8 g]at c;have f:(((H.sh k).nd j).add (tellC H i kind) L1).2.2=0:=by
   unfold Nd.add;rw[(CS d).2,Z7 Z3,Z7 (by have:=q j d;unfold lg at this;omega)]
  have n:¬(H.add k j (tellC H i kind) L1).1<0:=by
   unfold Hs.add;rw[Z7 (by simp[f])];have:=(P5 f).2;show ¬(((H.sh k).nd j).add (tellC H i kind) L1).2.1<0;omega
  rw[(SL n).1]at c;exact h.add w a u d _ _ (Z6 c);exact h
def Dn.br{kind:Int}(y:1<=i):∀(ks:List Nat) {H:Hs},Dn H->BB H->Ac H B->i<=H.m->(∀k∈ks,k<2)->((kind=3/\(H.tx i).aa=3)\/(kind=4/\(H.tx i).aa=4))->
  (∀k j,k<3->H.head k=Bs j->(lg (telld H i kind ks) k j).length<=16)->Dn (telld H i kind ks)
 |[],H,h,_,_,_,_,_,_=>h
 |k::ks,H,h,w,a,hi,hk,hs,hb=>by
  have e:=Ee H i kind k;have u:=hk k VB;have f:=By.tell y hi u hs;have z:=q9a i kind ks (H.aC i kind k);have d:∀q j,q<3->H.head q=Bs j->(lg (H.aC i kind k) q j).length<=16:=λq j n c=>VK (z.lg q j).length_le (hb q j n c)
  have v:∀j,H.head k=Bs j->(lg H k j).length<500:=λj c=>by
   have:=(f.up.lg k j).length_le;have:=d k j Z0 c;omega
  exact Dn.br y ks (h.aC w a Z0 (λj c=>d k j Z0 c) v) (w.bz f.bz e.2.2.1) (a.step f).1 (by rw[e.2.2.1];exact hi) (λx A=>hk x (VE _ A)) (by rw[(e.2.2.2.2 i).1];exact hs)
   (λq j n c=>hb q j n (by rw[<- f.bz.head];exact c))
def Ac.bM(a:Ac H B)(h:1<=i)(f:i<=H.m)(hs:(H.tx i).aa=1\/((H.tx i).aa=2/\(H.tx i).ah=0)):Ac (reld (H.an i) i (H.tx i).ag) B:=by have n:=Gv i (H.tx i).ag (H.an i);have c:AP H (reld (H.an i) i (H.tx i).ag):=(AP.ay H i _).trans (LV i _ _);exact⟨(a.wf.an h f).cK i _ (λk d=>by show k<H.c;have:=Cb d;have:=a.c;omega),n.1.trans a.c,a.ch.same c,Li a.bT hs,λs hs=>by rw[c.ad];exact a.ep s hs⟩
def Dn.ss(h:Dn H)(w:BB H)(x:Bl H G B)(s:Ss H H'):Dn H':=by
 have x':=x.ss s;have w':=w.bz s.cp.bz s.cp.sm.m;have n:∀k j,k<3->H.head k=Bs j->(lg H' k j).length<=16:=λk j f d=>q7x x' w' f (s.cp.bz.lv.2 (CS d).1)
 have C:∀k j,k<3->H.head k=Bs j->(lg H k j).length<500:=λk j f d=>by have:=q7x x w f (CS d).1;omega
 have I:∀{k j:Nat} {c:Cm} {b:Bool},k<3->H.head k=Bs j->H'=(H.add k j c b).2->Dn (H.add k j c b).2:=λ{k j c b} f d e=>by
  have D:=n k j f d;rw[e,(SL (qe9 x f d c b)).1]at D;exact h.add w x.a f d c b (Z6 D)
 cases s with
 |@a3 i u q hs y O=>
  rw[I9]at n ⊢;have E:AP H (reld (H.an i) i (H.tx i).ag):=(AP.ay H i _).trans (LV i _ _);have v:=Gv i (H.tx i).ag (H.an i);have K:((reld (H.an i) i (H.tx i).ag).tx i).ag=(H.tx i).ag:=DQ (by rw[(v.2.2.2.2 i).2.2.1];show(Af H.tx i _ i).af=_;rw[Aq]);have z:((reld (H.an i) i (H.tx i).ag).tx i).aa=4:=by
   rw[(v.2.2.2.2 i).1];show(Af H.tx i _ i).aa=4;rw[Aq]
  have L:AX H (reld (H.an i) i (H.tx i).ag):=(AX.ay H i _).trans (.cK i _ _);exact Dn.br u _ (h.same E) (w.bz L v.2.2.1) (x.a.bM u q (eS ⟨hs,y⟩)) (by rw[v.2.2.1];exact q) (λk f=>Cb f) (eS ⟨rfl,z⟩) (λk j f d=>n k j f (by rw[<- E.head];exact d))
 |@tell i k kind u q f hs=>exact h.aC w x.a Z0 (λj d=>n k j Z0 d) (λj d=>C k j Z0 d)
 |prep b u q f d A hs y M J=>exact I (Z4 (Cb f)) d rfl
 |place a u q f Q hs N=>exact h.same (AP.ay _ _ _)
 |@av i u q hs A=>
  have e:=FI H i;exact h.same ⟨e.1,e.2.1,e.2.2.2.2,λs=>by rw[e.2.2.2.1],λs=>by rw[e.2.2.2.1],λs=>by rw[e.2.2.2.1]⟩
 |decide b u q d A hs y=>exact I Z0 d rfl
 |commit u q hs A=>exact h.same (AP.ay _ _ _)
def Dn.dG(s:CP H H'):Dn H->BB H->Bl H G B->Dn H':=by
 induction s with
 |refl=>exact λh _ _=>h
 |step s _ c=>exact λh w x=>c (h.ss w x s) (w.bz s.cp.bz s.cp.sm.m) (x.ss s)
def BE(H:Hs)(Q:List (Nat×Nat)):Hs:=Q.foldl (λH q=>Hs.bf q.1 H q.2) H
def Ck(H:Hs):List (Nat×Nat):=[0,1,2].flatMap λs=>((H.sh s).ai H.n).map λj=>(s,j)
def Se(H:Hs)(s:Nat)(l:List Nat):l.foldl (Hs.bf s) H=BE H (l.map λj=>(s,j)):=by unfold BE;rw[List.foldl_map]
def HU(H:Hs)(a b:List (Nat×Nat)):BE H (a++b)=BE (BE H a) b:=by unfold BE;rw[List.foldl_append]
def q9x:∀(Q:List (Nat×Nat)) (H:Hs),AX H (BE H Q)
 |[],H=>.refl H
 |q::Q,H=>(AX.aD H q.1 q.2).trans (q9x Q _)
def q9y(H:Hs):H.b5=BE H (Ck H):=by
 have e:∀(ss:List Nat)(d K:Hs),AX d K->ss.foldl Hs.bV K=BE K (ss.flatMap λs=>((d.sh s).ai d.n).map λj=>(s,j)):=by
  intro ss;induction ss with
  |nil=>intro d K _;rfl
  |cons s ss f=>
   intro d K c;rw[List.foldl_cons,VH,HU];have e1:K.bV s=BE K (((d.sh s).ai d.n).map λj=>(s,j)):=by
    show((K.sh s).ai K.n).foldl (Hs.bf s) K=_;rw[c.cN,Se]
   rw[e1];exact f d _ (c.trans (q9x _ _))
 exact e [0,1,2] H H (.refl H)
def JJ(d:Nd):d.aD.2.length<=1:=by unfold Nd.aD;split;exact VG _;split;show(if d.aN > 0 then _ else []).length<=1;split;exact Hi _;exact VG _;exact Hi _
def Oh:∀(Q:List (Nat×Nat)) {H:Hs},BB H->Ac H B->(∀q∈Q,q.1<3/\Lv H q.1 q.2)->Q.Nodup->H.net.l.length+Q.length<=200->
  (∀a i,((BE H Q).sh a).nd i=if (a,i)∈Q then((H.sh a).nd i).aD.1 else(H.sh a).nd i)/\(BE H Q).net.l=H.net.l++Q.flatMap (λq=>((H.sh q.1).nd q.2).aD.2)
 |[],H,_,_,_,_,_=>⟨λa i=>by rw[Z7 Z3];rfl,by simp[BE]⟩
 |q::Q,H,w,a,hQ,hn,hl=>by
  obtain⟨s,j⟩:=q;obtain⟨hs,c⟩:=hQ (s,j) VB;have hs:s<3:=hs;have c:Lv H s j:=c;rw[List.nodup_cons]at hn;rw[Wi]at hl;have v:=By.aD hs c;have n:∀a i,((Hs.bf s H j).sh a).nd i=if (a,i)=(s,j)then((H.sh a).nd i).aD.1 else(H.sh a).nd i:=λa i=>by
   show((H.au s j ((H.sh s).nd j).aD.1).sh a).nd i=_;by_cases g:a=s;subst g;rw[EH];show Af (H.sh a).nd j _ i=_;by_cases f:i=j;subst f;rw[Aq,Z8 rfl];rw[Ay f,Z7 (λh=>f (by injection h))];rw[Jb _ j _ g,Z7 (λh=>g (by injection h))]
  have x:=JJ ((H.sh s).nd j);have d:(Hs.bf s H j).net.l=H.net.l++((H.sh s).nd j).aD.2:=q7n _ H.net (qdt w a hs c (Hn.aD _)) Z0;obtain⟨z,y⟩:=Oh Q (w.bz v.bz rfl) (a.step v).1 (λq u=>⟨(hQ q (VE _ u)).1,v.bz.lv.2 (hQ q (VE _ u)).2⟩) hn.2 (by rw[d,VJ];omega);have e:BE H ((s,j)::Q)=BE (Hs.bf s H j) Q:=rfl;rw[e];refine⟨λa i=>?_,?_⟩;rw[z,n];by_cases g:(a,i)=(s,j);rw[Z8 g,Z7 (by rw[g];exact hn.1),Z8 (by rw[g];exact VB)];rw[Z7 g];by_cases f:(a,i)∈Q;rw[Z8 f,Z8 (VE _ f)];rw[Z7 f,Z7 (λh=>(ZF.1 h).elim g f)];rw[y,d,VH,XM];congr 2;rw[List.flatMap_def,List.flatMap_def];congr 1;refine XH (λq u=>?_);obtain⟨a,i⟩:=q;show(((Hs.bf s H j).sh a).nd i).aD.2=((H.sh a).nd i).aD.2;rw[n,Z7 (λh:(a,i)=(s,j)=>hn.1 (by rw[<- h];exact u))]
def q5h{H:Hs} : (s,j)∈Ck H↔s<3/\Lv H s j:=by unfold Ck;rw[List.mem_flatMap];constructor;rintro ⟨t,c,h⟩;obtain⟨i,d,e⟩:=ZE.1 h;injection e with e1 e2;subst e1 e2;exact⟨by simp at c;omega,Fy.1 d⟩;rintro ⟨n,f⟩;refine⟨s,by simp;omega,ZE.2 ⟨j,Fy.2 f,rfl⟩⟩
def ID(x:Bv)(n:Nat):(x.ai n).Nodup:=List.Nodup.sublist List.filter_sublist List.nodup_range
def NR(H:Hs):(Ck H).Nodup:=by
 have c:∀s,(((H.sh s).ai H.n).map λj=>(s,j)).Nodup:=λs=>by
  rw[Yz,Xb];exact(ID _ _).imp (λh e=>h (by injection e))
 unfold Ck;simp only[VH,Ym,WB];have d:∀{s t:Nat} {x:Nat×Nat},s≠t->x∈(((H.sh s).ai H.n).map λj=>(s,j))->x∈(((H.sh t).ai H.n).map λj=>(t,j))->False:=λ{s t x} n v u=>by
  obtain⟨_,_,rfl⟩:=ZE.1 v;obtain⟨_,_,e⟩:=ZE.1 u;injection e with e _;exact n e.symm
 rw[Xg];refine⟨c 0,?_,λa f b q e=>?_⟩;rw[Xg];exact⟨c 1,c 2,λa f b q e=>d (s:=1) (t:=2) Z2 f (e▸q)⟩;subst e;obtain g|g:=ZD.1 q;exact d (s:=0) (t:=1) Z2 f g;exact d (s:=0) (t:=2) Z2 f g
def q5z(x:Bv)(n:Nat):(x.ai n).length<=n:=by unfold Bv.ai;exact VK (WC _ _) Z3
def Lw(w:BB H):(Ck H).length<=9:=by unfold Ck;simp only[VH,Ym,WB,VJ,V0];have:=q5z (H.sh 0) H.n;have:=q5z (H.sh 1) H.n;have:=q5z (H.sh 2) H.n;have:=w.n3;omega
def Vj(d:Nd):∀m∈d.aD.2,wM m<=16:=λm _=>by unfold wM;split<;>omega
def Mb(d:Nd):Dp d.aD.2<=16:=by
 have f:=JJ d;have c:=Vj d
 match e:d.aD.2 with
 |[]=>exact VG _
 |[m]=>rw[e]at c;rw[q4p];have:=c m VB;show wM m+0<=16;omega
 |m::m2::l=>rw[e]at f;simp at f
def q6y(c:d.tail=VD):Dp d.aD.2<=1:=by unfold Nd.aD;split;exact VG _;split;exact Hi _;exact VG _
def Hx(w:BB H)(hs:s<3):Dp ((((H.sh s).ai H.n).map λj=>(s,j)).flatMap λq=>((H.sh q.1).nd q.2).aD.2)<=33:=by
 have hl:=q5z (H.sh s) H.n;have u:=w.n3;have at_:=λp j=>w.eh (j:=j) (p:=p) hs
 generalize n:(H.sh s).ai H.n=L at *
 match L,n with
 |[],_=>exact VG _
 |[a],_=>
  have h:=(at_ 0 a rfl).tail;have:=q6y (d:=(H.sh s).nd a) (by rw[h];rfl);simp only[WJ,XT,VH,Ym,WB];omega
 |[a,b],_=>
  have tb:=(at_ 1 b rfl).tail;have:=q6y (d:=(H.sh s).nd b) (by rw[tb];rfl);have:=Mb ((H.sh s).nd a);simp only[WJ,XT,VH,Ym,WB,q36];omega
 |[a,b,c],_=>
  have f:=(at_ 2 c rfl).tail;have:=q6y (d:=(H.sh s).nd c) (by rw[f];rfl);have:=Mb ((H.sh s).nd a);have:=Mb ((H.sh s).nd b);simp only[WJ,XT,VH,Ym,WB,q36];omega
 |a::b::c::d::l,_=>simp at hl;omega
def Dn.b5(w:BB H)(x:Ac H B)(S:H.net.l=[]):Dn H.b5:=by
 rw[q9y];have R:=Lw w;obtain⟨t1,J⟩:=Oh (Ck H) w x (λq R=>q5h.1 (show(q.1,q.2)∈Ck H from R)) (NR H) (by rw[S];simp;omega);have U:=q9x (Ck H) H;generalize BE H (Ck H)=K at *;rw[S,List.nil_append]at J;have nd:∀{s i},s<3->Lv H s i->(K.sh s).nd i=((H.sh s).nd i).aD.1:=λ{s i} hs y=>by rw[t1,Z8 (q5h.2 ⟨hs,y⟩)]
 have L:∀s i,lg K s i=lg H s i:=λs i=>by
  unfold lg;rw[t1];split;exact(ES _).2.1;rfl
 have f:∀{s i m},s<3->Lv H s i->m∈((H.sh s).nd i).aD.2->m∈K.net.l:=λ{s i m} hs y hm=>by
  rw[J,List.mem_flatMap];exact⟨(s,i),q5h.2 ⟨hs,y⟩,hm⟩
 refine⟨λs hs p a b D u=>?_,λs hs i y A=>?_,?_⟩;rw[U.cN]at D u;have z:=w.nbr x hs D u;have M:=w.lv D;have lb:=w.lv u;rw[nd hs M,nd hs lb];have Z:=ES ((H.sh s).nd a);have sb:=ES ((H.sh s).nd b);have a2:=(Oo (w.bX s hs).aH D u).1 (Y1 p);have I:((H.sh s).nd a).aD.2=[((H.sh s).nd a).b9 1 1 ((H.sh s).nd a).a4.length]:=by
  unfold Nd.aD;rw[Z7 (Z4 z.at0),z.tl];rfl
 have mb:=λk c n=>Iy (Do.aD ((H.sh s).nd b)) k c n
 refine⟨by rw[Z.2.1,sb.2.1];exact(x.ch.pre s (by rw[x.c];exact hs) a b Z0 M lb).length_le,eS (eR ⟨(((H.sh s).nd a).a4.length:Nat),by rw[Iy (Do.aD _)];exact f hs M (by rw[I];exact VU.2 rfl)⟩),?_⟩;cases v:((H.sh s).nd b).tail with
 |true=>
  have e:((H.sh s).nd b).aD=({ (H.sh s).nd b with ao:=((H.sh s).nd b).a4.length},[((H.sh s).nd b).b9 4 (-1) ((H.sh s).nd b).a4.length]):=by
   unfold Nd.aD;rw[Z7 (Z4 z.eP),Z8 v,Z8 z.eP]
  refine eS (eR ⟨(((H.sh s).nd b).a4.length:Nat),by rw[e];exact WH _,Z0,by rw[mb];exact f hs lb (by rw[e];exact VU.2 rfl)⟩)
 |false=>
  have tb:=w.eh hs u;rw[tb.tail,decide_eq_false_iff_not]at v;have a0:=(ZC.1 u).1;have a3:=q5z (H.sh s) H.n;have a1:=w.n3;obtain⟨c,C⟩:∃c,((H.sh s).ai H.n)[p+1+1]? = Bs c:=⟨_,K0 Z0⟩
  have a4:=(ZC.1 C).1;have d:=w.nbr x hs u C;have Y:=w.eh hs C;have N:((H.sh s).nd c).tail=VD:=by rw[Y.tail];exact ZA Z0
  have e:((H.sh s).nd c).aD.2=[((H.sh s).nd c).b9 4 (-1) ((H.sh s).nd c).a4.length]:=by
   unfold Nd.aD;rw[Z7 (Z4 d.eP),Z8 N,Z8 d.eP]
  have X:((H.sh s).nd b).aD.1.tail=L1:=by
   unfold Nd.tail;rw[sb.2.2.2.1,sb.2.2.2.2];exact d.tl
  have E:((H.sh s).nd b).aD.1.a8 1=((H.sh s).nd b).a8 1:=by unfold Nd.a8;rw[sb.2.2.2.1,sb.2.2.2.2]
  refine eS (eS ⟨X,_,f hs (w.lv C) (by rw[e];exact VU.2 rfl),rfl,?_,?_,?_,?_⟩);rw[E];exact d.ab.symm;rw[sb.1];exact d.ba;rw[sb.2.2.1];exact d.ep;show(0:Int)<=((((H.sh s).nd c).a4.length:Nat):Int);omega
 have O:=U.lv.1 y;rw[L];rw[nd hs O]at A ⊢;have Q:=ES ((H.sh s).nd i);have h:((H.sh s).nd i).tail=VD:=by
  unfold Nd.tail at A ⊢;rw[Q.2.2.2.1,Q.2.2.2.2]at A;exact A
 unfold Nd.aD;rw[Z7 (by unfold Nd.tail at h;simp at h;omega),Z8 h];rfl;unfold phi;rw[J];have e:(Ck H).flatMap (λq=>((H.sh q.1).nd q.2).aD.2)=((((H.sh 0).ai H.n).map λj=>(0,j)).flatMap λq=>((H.sh q.1).nd q.2).aD.2)++(((((H.sh 1).ai H.n).map λj=>(1,j)).flatMap λq=>((H.sh q.1).nd q.2).aD.2)++((((H.sh 2).ai H.n).map λj=>(2,j)).flatMap λq=>((H.sh q.1).nd q.2).aD.2)):=by
  unfold Ck;simp only[VH,Ym,WB,Wq]
 rw[e,q36,q36];have:=Hx w (s:=0) Z0;have:=Hx w (s:=1) Z0;have:=Hx w (s:=2) Z0;omega
def wP(m:Ms):Nat:=if m.aj=1 then 18 else if m.aj=2 then 17 else if m.aj=4 then(m.a8 % 10).toNat+1 else 1
def BR(l:List Ms):Nat:=(l.map wP).sum
def EJ(H:Hs):Nat:=((Ck H).map λq=>16-(lg H q.1 q.2).length).sum
def Eg(H:Hs):Nat:=BR H.net.l+4*EJ H
def wP_b(m:Ms):1<=wP m/\wP m<=18:=by unfold wP;split;omega;split;omega;split<;>omega
def J9(a b:List Ms):BR (a++b)=BR a+BR b:=by unfold BR;simp
def q4w(m:Ms)(l:List Ms):BR (m::l)=wP m+BR l:=by unfold BR;simp
def qdm:∀l:List Ms,l.length<=BR l/\BR l<=18*l.length
 |[]=>⟨Hi _,Hi _⟩
 |m::l=>by rw[q4w,Wi];have:=qdm l;have:=wP_b m;omega
def q8o:∀(ms:List Ms)(n:Be),BR (EW n ms).l<=BR n.l+BR ms
 |[],n=>Nat.le_add_right _ _
 |m::ms,n=>by
  have c:=q8o ms (AR n m);have d:BR (AR n m).l<=BR n.l+wP m:=by
   unfold AR;split;omega;show BR (n.l++[m])<=_;rw[J9,q4w];exact Hi _
  show BR (EW (AR n m) ms).l<=_;rw[q4w];omega
def J8(d:Nd):∀r:List Nat,BR (r.map d.a6)=r.length
 |[]=>rfl
 |k::r=>by
  rw[WJ,q4w,J8 d r];have:wP (d.a6 k)=1:=rfl;rw[this,Wi];omega
def qda{α:Type}{f g:α->Nat} : ∀{L:List α},(∀q∈L,g q<=f q)->(L.map g).sum<=(L.map f).sum
 |[],_=>Hi _
 |q::L,h=>by
  have d:=qda (L:=L) (λx c=>h x (VE _ c));have:=h q VB;simp only[WJ,List.sum_cons];omega
def Oj{α:Type}{f g:α->Nat} : ∀{L:List α} {c:α},(∀q∈L,g q<=f q)->c∈L->g c+1<=f c->(L.map g).sum+1<=(L.map f).sum
 |[],_,_,d,_=>nomatch d
 |q::L,c,h,d,hlt=>by
  have v:=h q VB;have n:=λx u=>h x (VE q u)
  simp only[WJ,List.sum_cons];obtain e|e:=ZF.1 d;subst e;have:=qda (L:=L) n;omega;have:=Oj (L:=L) n e hlt;omega
def Lx(c:AX H H'):Ck H'=Ck H:=by unfold Ck;simp only[c.cN]
def OW(c:AX H H')(h:∀s j,lg H s j <+: lg H' s j):EJ H'<=EJ H:=by unfold EJ;rw[Lx c];exact qda (λq _=>Z4 ((h q.1 q.2).length_le))
def OV(c:AX H H')(h:∀s j,lg H s j <+: lg H' s j)(hs:s<3)(hl:Lv H s j)(f:(lg H s j).length+1<=(lg H' s j).length)(d:(lg H' s j).length<=16):EJ H'+1<=EJ H:=by unfold EJ;rw[Lx c];exact Oj (λq _=>Z4 ((h q.1 q.2).length_le)) (q5h.2 ⟨hs,hl⟩) (by show 16-(lg H' s j).length+1<=16-(lg H s j).length;omega)
def gsum_b(w:BB H):EJ H<=144:=by
 have f:EJ H<=((Ck H).map λ_=>16).sum:=qda (λq _=>Z0);have d:((Ck H).map λ_=>16).sum=16*(Ck H).length:=by
  generalize Ck H=L;induction L with
  |nil=>rfl
  |cons q L c=>simp only[WJ,List.sum_cons,Wi];omega
 have:=Lw w;omega
def Ov(w:BB H)(x:Ac H B)(hs:s<3)(q:H.head s=Bs j)(c:Cm)(b:Bool)(h:(lg H s j).length+1<=16):Eg (H.add s j c b).2<=Eg H:=by
 have n:=(CS q).1;have u:(((H.sh s).nd j).add c b).2.2=0:=by
  unfold Nd.add;rw[(CS q).2,Z7 Z3,Z7 (by unfold lg at h;omega)]
 have v:=w.eh hs (w.head0 hs q);have z:¬(H.add s j c b).1<0:=by
  unfold Hs.add;rw[Z7 (by simp[u])];have:=(P5 u).2;show ¬(((H.sh s).nd j).add c b).2.1<0;omega
 have d:=(SL z).1;have y:=E9 H s j c b;have C:=OV (AX.add H s j c b) y.lg hs n (by rw[d];simp) (by rw[d];simpa using h);have A:BR (((H.sh s).nd j).aP c).2<=1:=by
  obtain⟨_,e⟩|⟨_,_,e⟩:=q30 ((H.sh s).nd j) c;rw[e];exact Hi _;rw[(e (by rw[v.aN];omega)).2,Z7 (by rw[v.aN];omega)];exact VG _
 have f:(H.add s j c b).2.net=EW H.net (((H.sh s).nd j).aP c).2:=by
  rw[Ly c b u];exact(qdq (net:=H.net) (ms:=(((H.sh s).nd j).aP c).2) hs (Do.aP ((H.sh s).nd j) c)).2.2
 have:=q8o (((H.sh s).nd j).aP c).2 H.net;unfold Eg;rw[f];omega
def Gx(w:BB H)(a:Ac H B){kind:Int}(q:k<3)(u:∀j,H.head k=Bs j->(lg (H.aC i kind k) k j).length<=16)(n:∀j,H.head k=Bs j->(lg H k j).length<500):Eg (H.aC i kind k)<=Eg H:=by
 cases d:H.head k with
 |none=>rw[J6 d];exact Hi _
 |some j=>
  have c:=u j d;rw[Jd d]at c ⊢;split;rename_i g;rw[Z8 g]at c;have f:(((H.sh k).nd j).add (tellC H i kind) L1).2.2=0:=by
   unfold Nd.add;rw[(CS d).2,Z7 Z3,Z7 (by have:=n j d;unfold lg at this;omega)]
  have h:¬(H.add k j (tellC H i kind) L1).1<0:=by
   unfold Hs.add;rw[Z7 (by simp[f])];have:=(P5 f).2;show ¬(((H.sh k).nd j).add (tellC H i kind) L1).2.1<0;omega
  rw[(SL h).1]at c;exact Ov w a q d _ _ (Z6 c);exact Hi _
def Gw{kind:Int}(v:1<=i):∀(ks:List Nat) {H:Hs},BB H->Ac H B->i<=H.m->(∀k∈ks,k<2)->((kind=3/\(H.tx i).aa=3)\/(kind=4/\(H.tx i).aa=4))->
  (∀k j,k<3->H.head k=Bs j->(lg (telld H i kind ks) k j).length<=16)->Eg (telld H i kind ks)<=Eg H
 |[],H,_,_,_,_,_,_=>Hi _
 |k::ks,H,w,a,hi,hk,hs,hb=>by
  have e:=Ee H i kind k;have n:=hk k VB;have f:=By.tell v hi n hs;have y:=q9a i kind ks (H.aC i kind k);have d:∀q j,q<3->H.head q=Bs j->(lg (H.aC i kind k) q j).length<=16:=λq j h c=>VK (y.lg q j).length_le (hb q j h c)
  have u:∀j,H.head k=Bs j->(lg H k j).length<500:=λj c=>by
   have:=(f.up.lg k j).length_le;have:=d k j Z0 c;omega
  refine VK (Gw v ks (w.bz f.bz e.2.2.1) (a.step f).1 (by rw[e.2.2.1];exact hi) (λx z=>hk x (VE _ z)) (by rw[(e.2.2.2.2 i).1];exact hs)
   (λq j h c=>hb q j h (by rw[<- f.bz.head];exact c))) (Gx w a Z0 (λj c=>d k j Z0 c) u)
def q9d(c:AP H H')(d:AX H H'):Eg H'<=Eg H:=by have:=OW d (λs j=>by rw[c.lg];exact VO _);unfold Eg;rw[c.net];omega
def psi_ss(w:BB H)(x:Bl H G B)(s:Ss H H'):Eg H'<=Eg H:=by
 have x':=x.ss s;have w':=w.bz s.cp.bz s.cp.sm.m;have h:∀k j,k<3->H.head k=Bs j->(lg H' k j).length<=16:=λk j f d=>q7x x' w' f (s.cp.bz.lv.2 (CS d).1)
 have A:∀k j,k<3->H.head k=Bs j->(lg H k j).length<500:=λk j f d=>by have:=q7x x w f (CS d).1;omega
 have I:∀{k j:Nat} {c:Cm} {b:Bool},k<3->H.head k=Bs j->H'=(H.add k j c b).2->Eg (H.add k j c b).2<=Eg H:=λ{k j c b} f d e=>by
  have C:=h k j f d;rw[e,(SL (qe9 x f d c b)).1]at C;exact Ov w x.a f d c b (Z6 C)
 cases s with
 |@a3 i q n hs u M=>
  rw[I9]at h ⊢;have D:AP H (reld (H.an i) i (H.tx i).ag):=(AP.ay H i _).trans (LV i _ _);have z:=Gv i (H.tx i).ag (H.an i);have v:((reld (H.an i) i (H.tx i).ag).tx i).aa=4:=by
   rw[(z.2.2.2.2 i).1];show(Af H.tx i _ i).aa=4;rw[Aq]
  have E:AX H (reld (H.an i) i (H.tx i).ag):=(AX.ay H i _).trans (.cK i _ _);exact VK (Gw q _ (w.bz E z.2.2.1) (x.a.bM q n (eS ⟨hs,u⟩)) (by rw[z.2.2.1];exact n) (λk f=>Cb f) (eS ⟨rfl,v⟩) (λk j f d=>h k j f (by rw[<- D.head];exact d))) (q9d D E)
 |@tell i k kind q n f hs=>exact Gx w x.a Z0 (λj d=>h k j Z0 d) (λj d=>A k j Z0 d)
 |prep b q n f d y hs u K J=>exact I (Z4 (Cb f)) d rfl
 |place a q n f N hs L=>exact q9d (AP.ay _ _ _) (.ay _ _ _)
 |@av i q n hs y=>
  have e:=FI H i;exact q9d ⟨e.1,e.2.1,e.2.2.2.2,λs=>by rw[e.2.2.2.1],λs=>by rw[e.2.2.2.1],λs=>by rw[e.2.2.2.1]⟩ (.av _ _)
 |decide b q n d y hs u=>exact I Z0 d rfl
 |commit q n hs y=>exact q9d (AP.ay _ _ _) (.ay _ _ _)
def Ou(s:CP H H'):BB H->Bl H G B->Eg H'<=Eg H:=by
 induction s with
 |refl=>exact λ_ _=>Hi _
 |step s _ c=>exact λw x=>VK (c (w.bz s.cp.bz s.cp.sm.m) (x.ss s)) (psi_ss w x s)
def MO(w:BB H)(x:Bl H G B){rest:List Ms}(O:H.net.l=m::rest):Eg (({H with net:=takeS H.net 0} : Hs).aE m)+1<=Eg H:=by
 have I:takeS H.net 0=⟨rest,H.net.aq⟩:=by unfold takeS;rw[O];rfl
 have x':=x.aE (k:=0) (m:=m) (by rw[O];rfl);have N:=By.aE (H:=H) (k:=0) (m:=m) (by rw[O];rfl);have w':=w.bz N.bz N.sm.m;have hp:BR H.net.l=wP m+BR rest:=by rw[O,q4w]
 have hb:=wP_b m;cases R:Hs.node {H with net:=takeS H.net 0} m.a8 with
 |none=>
  rw[Je R,I];have hg:EJ {H with net:=(⟨rest,H.net.aq⟩:Be)} = EJ H:=rfl;unfold Eg;rw[hg];show BR rest+4*EJ H+1<=_;omega
 |some r=>
  obtain⟨s,j⟩:=r;obtain⟨hs,f,M⟩:=q4c (H:={H with net:=takeS H.net 0}) x.a.c R;have u:s<3:=by have:=x.a.c;have hs:s<H.c:=hs;omega
  have f:Lv H s j:=f;have M:((H.sh s).nd j).id=m.a8:=M;obtain⟨q,C⟩:=w.aN u f;have Y:0<=((H.sh s).nd j).aN:=by rw[C.aN];omega
  have X:=q7x x w u f;have a5:j<3:=Z5 f.1 w.n3;have ids:=x.a.ch.bL s j (by rw[x.a.c];exact u) f.1;have z:=N.up.lg;have y:=N.bz;have n:=q7x x' w' u (y.lv.2 f);rw[Jf R]at z y n ⊢;obtain⟨cf,Q,J⟩:=qdq (net:=takeS H.net 0) (ms:=(((H.sh s).nd j).step m).2) u (Do.step ((H.sh s).nd j) m);show Eg (((({H with net:=takeS H.net 0} : Hs).au s j (((H.sh s).nd j).step m).1).aO (((H.sh s).nd j).step m).2).take s)+1<=Eg H;have z:∀a b,lg H a b <+: lg (((({H with net:=takeS H.net 0} : Hs).au s j (((H.sh s).nd j).step m).1).aO (((H.sh s).nd j).step m).2).take s) a b:=z;have y:AX H (((({H with net:=takeS H.net 0} : Hs).au s j (((H.sh s).nd j).step m).1).aO (((H.sh s).nd j).step m).2).take s):=y;have n:(lg (((({H with net:=takeS H.net 0} : Hs).au s j (((H.sh s).nd j).step m).1).aO (((H.sh s).nd j).step m).2).take s) s j).length<=16:=n;have L:lg (((({H with net:=takeS H.net 0} : Hs).au s j (((H.sh s).nd j).step m).1).aO (((H.sh s).nd j).step m).2).take s) s j=(((H.sh s).nd j).step m).1.a4:=by unfold lg;rw[Q,Z8 ⟨rfl,rfl⟩]
  generalize ((({H with net:=takeS H.net 0} : Hs).au s j (((H.sh s).nd j).step m).1).aO (((H.sh s).nd j).step m).2).take s=K at *;have a4:=OW y z;have d:=q8o (((H.sh s).nd j).step m).2 (takeS H.net 0);rw[<- J,I]at d;have d:BR K.net.l<=BR rest+BR (((H.sh s).nd j).step m).2:=d;have E:0<((H.sh s).nd j).aN->∃i,i<j/\((H.sh s).nd j).a8 (-1)=BW s i:=λh=>by
   rw[C.aN]at h;have a2:=(ZC.1 C.ix).1;obtain⟨i,S⟩:∃i,((H.sh s).ai H.n)[q-1]? = Bs i:=⟨_,K0 Z0⟩
   exact⟨i,(Oo C.bX.aH S C.ix).1 Z0,C.a8 Z0 S⟩
  have D:∀v:Int,BR (if ((H.sh s).nd j).aN > 0 then [((H.sh s).nd j).b9 4 (-1) v]else [])<=j:=λv=>by
   split;rename_i h;obtain⟨i,S,e⟩:=E h;rw[q4w];have:wP (((H.sh s).nd j).b9 4 (-1) v)=i+1:=by
    show(if (4:Int)=1 then 18 else if (4:Int)=2 then 17 else if (4:Int)=4 then((((H.sh s).nd j).a8 (-1)) % 10).toNat+1 else 1)=i+1;rw[Z7 Z2,Z7 Z2,Z8 rfl,e];unfold BW;omega
   rw[this];show i+1+0<=j;omega;exact VG _
  have c:=Gb ((H.sh s).nd j) m;unfold Eg;generalize hr:((H.sh s).nd j).step m=r at *;cases c with
  |none=>
   have:BR ([]:List Ms)=0:=rfl;simp only at d;omega
  |sync A=>
   have e:wP m=18:=by unfold wP;rw[Z8 A]
   have:BR [((H.sh s).nd j).b9 2 (-1) ((H.sh s).nd j).a4.length]=17:=rfl;simp only at d;omega
  |have_ A=>
   have e:wP m=17:=by unfold wP;rw[Z7 Z0,Z8 A]
   simp only at d;rw[J8,List.length_range']at d;unfold lg at X;omega
  |fwd A=>
   have U:=q3o ((H.sh s).nd j) m.aY;rw[U]at L;have a3:=OV y z u f (by rw[L];unfold lg;simp) n;have a1:BR (((H.sh s).nd j).aP m.aY).2<=2:=by
    obtain⟨_,e⟩|⟨_,_,e⟩:=q30 ((H.sh s).nd j) m.aY;rw[e];exact WX _;rw[(e Y).2];have:=D (((((H.sh s).nd j).a4++[m.aY]).length:Nat):Int);omega
   omega
  |stab A a0 hf h0 Z ht=>
   have e:wP m=j+1:=by
    unfold wP;rw[Z7 Z0,Z7 Z0,Z8 A,ht,ids];unfold BW;omega
   have:=D (max ((H.sh s).nd j).ao m.n);simp only at d;omega
def NC(x:Bl H G B)(w:BB H)(d:Rv H 0 H')(u:H.net.l≠[]):Bl H' G B/\BB H'/\Eg H'+1<=Eg H/\(Dn H->Dn H')/\(∃K,Ek K H'/\Bl K G B/\BB K/\(∃m rest,H.net.l=m::rest/\K=({H with net:=takeS H.net 0} : Hs).aE m)):=by
 cases d with
 |none h=>exact ZB (We Z0) u
 |@some m h _ r=>
  obtain⟨rest,n⟩:∃rest,H.net.l=m::rest:=by
   cases e:H.net.l with
   |nil=>exact ZB e u
   |cons y l=>rw[e]at h;injection h with h;subst h;exact⟨l,rfl⟩
  have f:=x.aE h;have q:=By.aE h;have w1:=w.bz q.bz q.sm.m;obtain⟨s1,_⟩:=Qa r f;have z:=MO w x n;have v:=Ou s1 w1 f;exact⟨Bl.dG s1 f,w1.bz s1.aK.bz s1.aK.sm.m,Z0,λc=>Dn.dG s1 (c.aE w x n) w1 f,_,r,f,w1,m,rest,n,rfl⟩
def T5(d:Rr k H H'):Bl H G B->BB H->Bl H' G B/\BB H'/\(Eg H<=k->H'.net.l=[])/\(Dn H->Dn H')/\((∀t,1<=t->t<=H.m->ER H t)->∀t,1<=t->t<=H'.m->ER H' t):=by
 induction d with
 |zero H=>
  refine λx w=>⟨x,w,λh=>?_,id,id⟩
  have:=(qdm H.net.l).1;unfold Eg at h;exact We Z0
 |none h=>exact λx w=>⟨x,w,λ_=>h,id,id⟩
 |more h d _ v=>
  intro x w;obtain⟨n,w1,C,A,K,r,f,_⟩:=NC x w d h;obtain⟨x2,q,u,z,y⟩:=v n w1;exact⟨x2,q,λD=>u Z0,λc=>z (A c),λ_=>y (Qa r f).2⟩
def qd7(x:Bl H G B)(w:BB H):Bl H.b5 G B/\BB H.b5:=by
 have c:∀(Q:List (Nat×Nat)) {K:Hs},Bl K G B->BB K->(∀q∈Q,q.1<3/\Lv K q.1 q.2)->Bl (BE K Q) G B/\BB (BE K Q):=by
  intro Q;induction Q with
  |nil=>exact λx w _=>⟨x,w⟩
  |cons q Q n=>
   intro K x w h;obtain⟨z,v⟩:=h q VB;have f:=AX.aD K q.1 q.2;exact n (x.aD z v) (w.bz f rfl) (λy d=>⟨(h y (VE _ d)).1,f.lv.2 (h y (VE _ d)).2⟩)
 rw[q9y];exact c _ x w (λq u=>q5h.1 (show(q.1,q.2)∈Ck H from u))
def PD(h:H.net.l.length<=200):H.b5.net.l.length<=200:=by
 have c:∀(Q:List (Nat×Nat)) {K:Hs},K.net.l.length<=200->(BE K Q).net.l.length<=200:=by
  intro Q;induction Q with
  |nil=>exact λh=>h
  |cons q Q d=>exact λ{K} h=>d (K:=Hs.bf q.1 K q.2) (qcc _ _ h)
 rw[q9y];exact c _ h
def I3(H H':Hs):Prop:=∀s j,s<3->Lv H s j->((H.sh s).nd j).ao<=((H'.sh s).nd j).ao
def I3.refl(H:Hs):I3 H H:=λ_ _ _ _=>WH _
def I3.same(h:∀s,(H'.sh s).nd=(H.sh s).nd):I3 H H':=λs j _ _=>by rw[h];exact WH _
def Ac.stb(a:Ac H B)(hs:s<3)(hl:Lv H s j):((H.sh s).nd j).ao<=((H.sh s).nd j).a4.length:=a.ch.st s (by rw[a.c];exact hs) j j hl hl
def Oi(h:d.ao<=d.a4.length):d.ao<=d.aD.1.ao:=by unfold Nd.aD;split;exact WH _;split;exact h;exact WH _
def nadd_sb(h:d.ao<=d.a4.length)(c:Cm)(b:Bool):d.ao<=(d.add c b).1.1.ao:=by by_cases f:(d.add c b).2.2=0;rw[(P5 f).1];unfold Nd.aP;split;exact Oi (d:=d.push c) (by show d.ao<=((d.a4++[c]).length:Nat);simp;omega);exact WH _;rw[qea f];exact WH _
def JY(h:s<3->Lv H s j->((H.sh s).nd j).ao<=d.ao){K:Hs}(u:∀a,(K.sh a).nd=((H.au s j d).sh a).nd):I3 H K:=λa q n f=>by
 rw[u];by_cases e:a=s;subst e;rw[EH];show _<=(Af (H.sh a).nd j d q).ao;by_cases c:q=j;subst c;rw[Aq];exact h n f;rw[Ay c];exact WH _;rw[Jb H j d e];exact WH _
def NT(a:Ac H B)(s j:Nat)(c:Cm)(b:Bool):I3 H (H.add s j c b).2:=by unfold Hs.add;split;exact .refl H;exact JY (s:=s) (j:=j) (d:=(((H.sh s).nd j).add c b).1.1) (λhs hl=>nadd_sb (a.stb hs hl) c b) (λq=>(AP.take _ s).nd q)
def JP(a:Ac H B)(i:Nat)(kind:Int)(k:Nat):I3 H (H.aC i kind k):=by
 cases c:H.head k with
 |none=>rw[J6 c];exact .refl H
 |some j=>
  rw[Jd c];split;exact NT a _ _ _ _;exact .refl H
def I3.trans{D:Hs}(h:I3 A C)(k:I3 C D)(hl:∀s j,Lv A s j->Lv C s j):I3 A D:=λs j hs c=>Int.le_trans (h s j hs c) (k s j hs (hl s j c))
def JN{kind:Int}(d:1<=i):∀(ks:List Nat) {H:Hs},Ac H B->i<=H.m->(∀k∈ks,k<2)->((kind=3/\(H.tx i).aa=3)\/(kind=4/\(H.tx i).aa=4))->I3 H (telld H i kind ks)
 |[],H,_,_,_,_=>.refl H
 |k::ks,H,a,hi,hk,hs=>by
  have e:=Ee H i kind k;have c:=By.tell d hi (hk k VB) hs;exact(JP a i kind k).trans (JN d ks (a.step c).1 (by rw[e.2.2.1];exact hi) (λx f=>hk x (VE _ f)) (by rw[(e.2.2.2.2 i).1];exact hs)) (λs j h=>c.bz.lv.2 h)
def Ss.sb(s:Ss H H')(a:Ac H B):I3 H H':=by
 cases s with
 |@a3 i f d hs u x=>
  rw[I9];have q:AP H (reld (H.an i) i (H.tx i).ag):=(AP.ay H i _).trans (LV i _ _);have n:=Gv i (H.tx i).ag (H.an i);have c:((reld (H.an i) i (H.tx i).ag).tx i).aa=4:=by
   rw[(n.2.2.2.2 i).1];show(Af H.tx i _ i).aa=4;rw[Aq]
  exact(I3.same q.nd).trans (JN f _ (a.bM f d (eS ⟨hs,u⟩)) (by rw[n.2.2.1];exact d) (λk v=>Cb v) (eS ⟨rfl,c⟩)) (λs j h=>q.lv.2 h)
 |tell=>exact JP a _ _ _
 |prep=>exact NT a _ _ _ _
 |place=>exact .same (λ_=>rfl)
 |@av i=>exact .same (λs=>by rw[(FI H i).2.2.2.1])
 |decide=>exact NT a _ _ _ _
 |commit=>exact .same (λ_=>rfl)
def CP.sb(s:CP H H'):Ac H B->I3 H H':=by
 induction s with
 |refl=>exact λ_=>.refl _
 |step s _ c=>exact λa=>(s.sb a).trans (c (a.step s.cp).1) (λ_ _ h=>s.cp.bz.lv.2 h)
def AK.up{kind id:Int}(h:AK H k kind id)(f:k<3)(c:AX H H')(u:∀k j,lg H k j <+: lg H' k j)(b:I3 H H'):AK H' k kind id:=by obtain⟨j,p,x,d,y,v,q,n⟩:=h;refine⟨j,p,x,by rw[c.head];exact d,getElem?_prefix (u k j) y,v,q,?_⟩;have:=b k j f (CS d).1;unfold Hs.ao at n ⊢;omega
def qdo{l:List Cm}{kind id:Int}{c:Cm}(h:l[p]? = Bs c)(u:c.aj=kind)(n:c.tx=id):∃q,place l kind id=Bs q/\q<=p:=by
 cases e:place l kind id with
 |none=>exact ZB ⟨c,N2 h,u,n⟩ (RE.1 e)
 |some q=>
  refine⟨q,rfl,?_⟩;unfold place at e;rw[List.findIdx?_eq_some_iff_getElem]at e;obtain⟨_,_,g⟩:=e;refine Nat.le_of_not_lt (λd=>?_);have f:=g p d;obtain⟨x,v⟩:=ZC.1 h;rw[v]at f;exact f (q9l.2 ⟨u,n⟩)
structure PlS(H H':Hs)(i:Nat):Prop where
 n:H'.n=H.n
 sh:H'.sh=H.sh
 m:H'.m=H.m
 st:(H'.tx i).aa=(H.tx i).aa
 sd:(H'.tx i).af=(H.tx i).af
def PlS.stab{kind id:Int}(p:PlS H H' i)(h:AK H k kind id):AK H' k kind id:=h.congr p.n (by rw[p.sh])
def qcx(b:Nat->Bool):∀(ks:List Nat) {H:Hs},(∀k∈ks,AK H k 2 i)->∃K,Hs.aG i b ks H VD=(K,Bs VD)/\PlS H K i
 |[],H,_=>⟨H,rfl,rfl,rfl,rfl,rfl,rfl⟩
 |k::ks,H,h=>by
  obtain⟨j,p,c,E,D,C,A,J⟩:=h k VB;obtain⟨q,v,y⟩:=qdo (l:=((H.sh k).nd j).a4) D C A;have e1:=q42 (i:=i) (b:=b k) E v;have z:decide (H.ao k j > q)=VD:=ZA Z0;rw[z]at e1;have u:((H.aS i k q).tx i) = {H.tx i with aw:=AS (H.tx i).aw k q}:=Aq _ _ _;have d:PlS H (H.aS i k q) i:=⟨rfl,rfl,rfl,by rw[u],by rw[u]⟩
  obtain⟨K,I,n⟩:=qcx b ks (H:=H.aS i k q) (λx u=>d.stab (h x (VE _ u)));refine⟨K,?_,n.n.trans d.n,n.sh.trans d.sh,n.m.trans d.m,n.st.trans d.st,n.sd.trans d.sd⟩;have f:Hs.aG i b (k::ks) H VD=(match (H.aU i k (b k)).2 with|none=>((H.aU i k (b k)).1,B0)|some a=>Hs.aG i b ks (H.aU i k (b k)).1 (VD && a)):=rfl;rw[f,e1];exact I
def Fst(H:Hs)(i:Nat):Prop:=(H.tx i).aa≠2\/∀j,H.head 2=Bs j->An (lg H 2 j) 3 i
def qdf(b:Nat->Bool)(x:Bl H G B)(w:BB H)(_h1:1<=i)(hi:i<=H.m)(Z:(H.tx i).aa=2)(X:∀k∈(H.tx i).ag,AK H k 2 i) :
  Fst (H.az i b).1 i/\(AK H 2 3 i->((H.az i b).1.tx i).aa≠2):=by
 have e0:H.az i b=H.ends i b:=by unfold Hs.az;rw[Z8 Z]
 rw[e0];obtain⟨K,e1,v⟩:=qcx b (H.tx i).ag X;rw[q54 e1];obtain⟨f,_,A⟩:=w.head (s:=2) Z0;have y:K.head 2=Bs f:=(RD v.n (by rw[v.sh])).trans A;have R:lg K 2 f=lg H 2 f:=by unfold lg;rw[v.sh]
 have u:∀O:Hs,(((O.commit i).tx i).aa)=3:=λO=>by rw[q67,Z8 rfl]
 cases h:place ((K.sh 2).nd f).a4 3 i with
 |some p=>
  rw[q6r y h];obtain⟨c,c1,c2,c3⟩:=q4x h;split;rename_i U;refine⟨eS (λq d=>?_),λhs=>?_⟩;rw[y]at d;injection d with d;subst d;exact⟨c,N2 c1,c2,c3⟩;exfalso;obtain⟨S,Q,c',n,L,J,I,g5⟩:=v.stab hs;rw[y]at n;injection n with n;subst n;obtain⟨q,d,Y⟩:=qdo (l:=((K.sh 2).nd f).a4) L J I;rw[h]at d;injection d with d;omega;exact⟨eR (by show((K.commit i).tx i).aa≠2;rw[u];decide),λ_=>by show((K.commit i).tx i).aa≠2;rw[u];decide⟩
 |none=>
  rw[q8v y h];have z:¬AK H 2 3 i:=λhs=>by
   obtain⟨S,Q,c',n,L,J,I,g5⟩:=v.stab hs;rw[y]at n;injection n with n;subst n;obtain⟨q,d,_⟩:=qdo (l:=((K.sh 2).nd f).a4) L J I;rw[h]at d;cases d
  have D:=FI K i;have C:(K.av i).head 2=Bs f:=by rw[RD D.1 (by rw[D.2.2.2.1])];exact y
  have E:=q7x x w (s:=2) Z0 (CS A).1;have N:((((K.av i).sh 2).nd f).add ⟨3,i,((K.av i).tx i).ah,[]⟩ (b 2)).2.2=0:=by
   unfold Nd.add;rw[(CS C).2,Z7 Z3,Z7 (by rw[D.2.2.2.1,v.sh];unfold lg at E;omega)]
  have M:¬((K.av i).add 2 f ⟨3,i,((K.av i).tx i).ah,[]⟩ (b 2)).1<0:=by
   unfold Hs.add;rw[Z7 (by simp[N])];have:=(P5 N).2;show ¬((((K.av i).sh 2).nd f).add _ _).2.1<0;omega
  rw[Z7 M];split;refine⟨eS (λq d=>?_),λhs=>ZB hs z⟩;have d:((K.av i).add 2 f ⟨3,i,((K.av i).tx i).ah,[]⟩ (b 2)).2.head 2=Bs q:=d;rw[q4m,C]at d;injection d with d;subst d;show An (lg ((K.av i).add 2 f ⟨3,i,((K.av i).tx i).ah,[]⟩ (b 2)).2 2 f) 3 i;rw[(SL M).1];exact⟨_,WW _ (VU.2 rfl),rfl,rfl⟩;exact⟨eR (by rw[u];decide),λhs=>ZB hs z⟩
def Fst.up(h:Fst H i)(s:CP H H'):Fst H' i:=by obtain h|h:=h;exact eR (λe=>h (s.cD.s2 i e));exact eS (s.has h)
def q72(bs:Nat->Nat->Bool):∀(k i:Nat)(r:Hs×Bool),Bl r.1 G B->BB r.1->1<=i->i+k<=r.1.m+1->∀t,i<=t->t<i+k->(r.1.tx t).aa=2->(∀q∈(r.1.tx t).ag,AK r.1 q 2 t)->
  Fst (Hs.round bs k i r).1 t/\(AK r.1 2 3 t->((Hs.round bs k i r).1.tx t).aa≠2)
 |0,i,r,_,_,_,_=>λt u n=>Z0
 |k+1,i,r,x,w,u,J=>λt C A n z=>by
  obtain⟨f,_⟩:=qca (bs i) x u (show i<=r.1.m by omega);have sm:=f.aK.sm;have v:=Bl.dG f x;have w1:=w.bz f.aK.bz sm.m;have h:i+1+k<=(r.1.az i (bs i)).1.m+1:=by rw[sm.m];omega
  obtain⟨q1,_⟩:=q7p bs k (i+1) ((r.1.az i (bs i)).1,(r.1.az i (bs i)).2 || r.2) v Z0 h;by_cases e:t=i;subst e;obtain⟨I,E⟩:=qdf (bs t) x w u (show t<=r.1.m by omega) n z;exact⟨I.up q1,λhs e=>E hs (q1.cD.s2 t e)⟩;have D:=(q20 r.1 i (bs i)).1.other t e;have c:∀{q kind},q<3->AK r.1 q kind t->AK (r.1.az i (bs i)).1 q kind t:=λd hs=>hs.up d f.aK.bz f.aK.up.lg (f.sb x.a)
  have y:=q72 bs k (i+1) ((r.1.az i (bs i)).1,(r.1.az i (bs i)).2 || r.2) v w1 Z0 h t Z0 Z0 (D.trans n) (λq d=>by
   have d:q∈((r.1.az i (bs i)).1.tx t).ag:=d;rw[f.cD.ag]at d;exact c (Z4 (Cb d)) (z q d))
  exact⟨y.1,λhs=>y.2 (c Z0 hs)⟩
def q92(h:Ek H H')(x:Bl H G B)(w:BB H)(f:1<=t)(y:t<=H.m)(d:(H.tx t).aa=2)(c:∀q∈(H.tx t).ag,AK H q 2 t):Fst H' t/\(AK H 2 3 t->(H'.tx t).aa≠2):=by
 cases h with
 |stop bs e=>exact q72 bs H.m 1 (H,L1) x w (Hi _) (by show 1+H.m<=H.m+1;omega) t f Z0 d c
 |more bs e r=>
  obtain⟨v,u⟩:=q72 bs H.m 1 (H,L1) x w (Hi _) (by show 1+H.m<=H.m+1;omega) t f Z0 d c;obtain⟨n,_⟩:=q7p bs H.m 1 (H,L1) x (Hi _) (by show 1+H.m<=H.m+1;omega);obtain⟨s1,_⟩:=Qa r (Bl.dG n x);exact⟨v.up s1,λhs e=>u hs (s1.cD.s2 t e)⟩
def quiet(c:Dn H)(w:BB H)(_x:Ac H B)(h:H.net.l=[])(hs:s<3):∀k p a,((H.sh s).ai H.n)[p]? = Bs a->p+k+1=((H.sh s).ai H.n).length->((lg H s a).length:Int)<=((H.sh s).nd a).ao
 |0,p,a,f,v=>by
  have q:=(w.eh hs f).tail;rw[c.tail s hs a (w.lv f) (by rw[q];exact ZA Z0)];exact WH _
 |k+1,p,a,f,v=>by
  obtain⟨b,n⟩:∃b,((H.sh s).ai H.n)[p+1]? = Bs b:=⟨_,K0 Z0⟩
  have u:=quiet c w _x h hs k (p+1) b n Z0;have d:=c.eI s hs p a b f n;rw[h]at d;have e1:((H.sh s).nd b).a4.length=((H.sh s).nd a).a4.length:=by
   obtain g|⟨_,g⟩|⟨_,_,_,g⟩|g:=d.fw;exact g;cases g;cases g;have:=List.sublist_nil.1 g;have:=congrArg List.length this;simp at this;have:=d.le;omega
  have x:((H.sh s).nd b).ao<=((H.sh s).nd a).ao:=by
   obtain g|⟨_,_,_,g⟩|⟨_,_,g,_⟩:=d.st;exact g;cases g;cases g
  unfold lg at u ⊢;omega
def q8m(c:Dn H)(w:BB H)(x:Ac H B)(y:H.net.l=[])(hs:s<3){kind id:Int}(h:∀j,H.head s=Bs j->An (lg H s j) kind id):AK H s kind id:=by obtain⟨j,n,u⟩:=w.head hs;obtain⟨d,z,e1,A⟩:=h j u;obtain⟨p,f⟩:=ZI.1 z;have hl:=(ZC.1 n).1;have q:=quiet c w x y hs (((H.sh s).ai H.n).length-1) 0 j n Z0;have v:=(ZC.1 f).1;exact⟨j,p,d,u,f,e1,A,by unfold Hs.ao;omega⟩
inductive Qs:Hs->Hs->Prop where
 |ss {H H':Hs} (h:Ss H H'):Qs H H'
 |aD {H:Hs} {s j:Nat} (hs:s<3) (hl:Lv H s j):Qs H (Hs.bf s H j)
 |aE {H:Hs} {k:Nat} {m:Ms} (hk:H.net.l[k]? = Bs m):Qs H (({H with net:=takeS H.net k} : Hs).aE m)
inductive Eh:Hs->Hs->Prop where
 |refl (H:Hs):Eh H H
 |step {A B C:Hs} (h:Qs A B) (r:Eh B C):Eh A C
def Eh.cS{B:Hs}(h:Qs A B):Eh A B:=.step h (.refl B)
def Eh.trans{B:Hs}(h:Eh A B)(k:Eh B C):Eh A C:=by
 induction h with
 |refl=>exact k
 |step h _ c=>exact .step h (c k)
def CP.cs{B:Hs}(h:CP A B):Eh A B:=by
 induction h with
 |refl=>exact .refl _
 |step h _ c=>exact .step (.ss h) c
def Qs.cp{H H':Hs}(h:Qs H H'):By H H':=by
 cases h with
 |ss h=>exact h.cp
 |aD hs hl=>exact .aD hs hl
 |aE c=>exact .aE c
def Eh.aK{B:Hs}(h:Eh A B):Ag A B:=by
 induction h with
 |refl=>exact .refl _
 |step h _ c=>exact .step h.cp c
def NA(H:Hs)(t:Nat):Prop:=(H.tx t).aa=3\/((H.tx t).aa=2/\∀k∈(H.tx t).ag,(H.tx t).af k=Bs (H.sh k).ad/\(0<=((H.tx t).aw k).getD 0->∀j,H.head k=Bs j->An (lg H k j) 2 t))
def Bl.cs(x:Bl H G B)(h:Qs H H'):Bl H' G B:=by
 cases h with
 |ss h=>exact x.ss h
 |aD hs hl=>exact x.aD hs hl
 |aE c=>exact x.aE c
def Bl.dV(h:Eh H H'):Bl H G B->Bl H' G B:=by
 induction h with
 |refl=>exact id
 |step h _ c=>exact λx=>c (x.cs h)
def q68(m:Ms)(k:Nat)(H:Hs):(({H with net:=takeS H.net k} : Hs).aE m).m=H.m/\∀t,((({H with net:=takeS H.net k} : Hs).aE m).tx t).aa=(H.tx t).aa/\((({H with net:=takeS H.net k} : Hs).aE m).tx t).af=(H.tx t).af/\((({H with net:=takeS H.net k} : Hs).aE m).tx t).aw=(H.tx t).aw:=by
 cases c:Hs.node {H with net:=takeS H.net k} m.a8 with
 |none=>rw[Je c];exact⟨rfl,λ_=>⟨rfl,rfl,rfl⟩⟩
 |some r=>
  obtain⟨s,j⟩:=r;rw[Jf c];have t:=BK.take ((({H with net:=takeS H.net k} : Hs).au s j (((H.sh s).nd j).step m).1).aO (((H.sh s).nd j).step m).2) s;exact⟨t.m,λq=>⟨(t.tx q).1,(t.tx q).2.2.1,(t.tx q).2.2.2.1⟩⟩
def Qs.cD(h:Qs H H'):O6 H H':=by
 cases h with
 |ss h=>exact h.cD
 |aD hs hl=>exact .of rfl (λ_=>⟨rfl,rfl⟩)
 |aE c=>exact .of (q68 _ _ _).1 (λt=>⟨((q68 _ _ _).2 t).1,((q68 _ _ _).2 t).2.1⟩)
def Eh.cD(h:Eh H H'):O6 H H':=by
 induction h with
 |refl=>exact .refl _
 |step h _ c=>exact h.cD.trans c
def Eh.has(s:Eh H H'){kind id:Int}(h:∀j,H.head k=Bs j->An (lg H k j) kind id):∀j,H'.head k=Bs j->An (lg H' k j) kind id:=λj c=>by
 rw[s.aK.bz.head]at c;exact(h j c).up (s.aK.up.lg k j)
def Qs.na(h:Qs H H')(n:NA H t):NA H' t:=by
 have tx:=h.cD;obtain n|⟨n2,y⟩:=n;exact eR ((tx.s34 t).1 n);have E:=h.cp.bz;have A:∀k,(∀j,H.head k=Bs j->An (lg H k j) 2 t)->∀j,H'.head k=Bs j->An (lg H' k j) 2 t:=λk g=>(Eh.cS h).has g
 have c:(H'.tx t).aa=2->(∀k,(H'.tx t).aw k=(H.tx t).aw k)->NA H' t:=λQ O=>eS ⟨Q,λk u=>by
  rw[tx.ag]at u;obtain⟨q1,v⟩:=y k u;rw[tx.sh,E.ad,O];exact⟨q1,λf=>A k (v f)⟩⟩
 cases h with
 |aD hs hl=>exact c n2 (λ_=>rfl)
 |aE u=>exact c (((q68 _ _ _).2 t).1.trans n2) (λk=>by rw[((q68 _ _ _).2 t).2.2])
 |ss h=>
  cases h with
  |@a3 i M J hs R L=>
   by_cases e:t=i;exfalso;subst e;obtain⟨k,j,u,I,z,x⟩:=L;obtain⟨q1,v⟩:=y k u;obtain g|g:=x;exact g q1;exact z (v g j I);obtain⟨_,_,D⟩:=Ik H i;exact c (by rw[(D t).1,Z7 e];exact n2) (λk=>by rw[(D t).2.2.2.1])
  |tell=>exact c (((Ee _ _ _ _).2.2.2.2 t).1.trans n2) (λk=>by rw[((Ee _ _ _ _).2.2.2.2 t).2.2.2.1])
  |prep=>exact c (((Dt _ _ _ _ _).2.2.2.2 t).1.trans n2) (λk=>by rw[((Dt _ _ _ _ _).2.2.2.2 t).2.2.2.1])
  |@place i k a M J u S hs K=>
   by_cases e:t=i;subst e;have d:((H.aS t k a).tx t) = {H.tx t with aw:=AS (H.tx t).aw k a}:=Aq _ _ _;refine eS ⟨by rw[d];exact n2,λq C=>?_⟩;rw[tx.ag]at C;obtain⟨q1,v⟩:=y q C;rw[tx.sh,E.ad,d];refine⟨q1,λf=>A q ?_⟩;by_cases N:q=k;subst N;exact K;refine v ?_;have f:0<=(AS (H.tx t).aw k a q).getD 0:=f;unfold AS at f;rw[Z7 Z0]at f;exact f;have d:((H.aS i k a).tx t)=H.tx t:=Ay e _;exact c (by rw[d];exact n2) (λq=>by rw[d])
  |@av i=>exact c ((q2e H i t).trans n2) (λk=>by rw[(JH H i t).2])
  |decide=>exact c (((Dt _ _ _ _ _).2.2.2.2 t).1.trans n2) (λk=>by rw[((Dt _ _ _ _ _).2.2.2.2 t).2.2.2.1])
  |@commit i=>
   by_cases e:t=i;subst e;refine eR ?_;show(Af H.tx t _ t).aa=3;rw[Aq];have d:((H.aF i 3).tx t)=H.tx t:=Ay e _;exact c (by rw[d];exact n2) (λq=>by rw[d])
def Eh.na(h:Eh H H'):NA H t->NA H' t:=by
 induction h with
 |refl=>exact id
 |step h _ c=>exact λn=>c (h.na n)
def JF:∀(Q:List (Nat×Nat)) {H:Hs},(∀q∈Q,q.1<3/\Lv H q.1 q.2)->Eh H (BE H Q)
 |[],H,_=>.refl H
 |q::Q,H,h=>by
  obtain⟨f,d⟩:=h q VB;have n:=AX.aD H q.1 q.2;exact .step (.aD f d) (JF Q (λy c=>⟨(h y (VE _ c)).1,n.lv.2 (h y (VE _ c)).2⟩))
def q6d(H:Hs):Eh H H.b5:=by rw[q9y];exact JF _ (λq c=>q5h.1 (show(q.1,q.2)∈Ck H from c))
def JE:∀(Q:List (Nat×Nat)) {H:Hs},Ac H B->(∀q∈Q,q.1<3/\Lv H q.1 q.2)->I3 H (BE H Q)
 |[],H,_,_=>.refl H
 |q::Q,H,a,h=>by
  obtain⟨v,u⟩:=h q VB;have c:=By.aD v u;have n:=c.bz;have hs:I3 H (Hs.bf q.1 H q.2):=JY (s:=q.1) (j:=q.2) (d:=((H.sh q.1).nd q.2).aD.1) (λhs hl=>Oi (a.stb hs hl)) (λ_=>rfl);exact hs.trans (JE Q (a.step c).1 (λy f=>⟨(h y (VE _ f)).1,n.lv.2 (h y (VE _ f)).2⟩)) (λs j hl=>n.lv.2 hl)
def qd6(a:Ac H B):I3 H H.b5:=by rw[q9y];exact JE _ a (λq c=>q5h.1 (show(q.1,q.2)∈Ck H from c))
def q88(d:Rr n H H'):Bl H G B->Eh H H':=by
 induction d with
 |zero=>exact λ_=>.refl _
 |none h=>exact λ_=>.refl _
 |@more k H H1 H' h d _ q=>
  intro x;cases d with
  |none u=>exact ZB (We Z0) h
  |@some m f _ r=>
   have c:=x.aE f;obtain⟨s1,_⟩:=Qa r c;exact .step (.aE f) (s1.cs.trans (q (Bl.dG s1 c)))
structure RoP(H H':Hs)(G:Gh)(B:Int):Prop where
 x:Bl H' G B
 w:BB H'
 nil:H'.net.l=[]
 done:∀t,1<=t->t<=H'.m->ER H' t
 cs:Eh H H'
 cv:H.net.l=[]->Dn H'
def q6i{H1:Hs}(x:Bl H G B)(w:BB H)(u:H.net.l.length<=200)(t:EA H H1)(d:Rr 5000 H1 H'):RoP H H' G B:=by
 obtain⟨x0,c⟩:=qd7 x w;obtain⟨s1,A⟩:=Qa t x0;have h:=Bl.dG s1 x0;have w1:=c.bz s1.aK.bz s1.aK.sm.m;obtain⟨x2,n,y,C,z⟩:=T5 d h w1;have q:Eg H1<=5000:=by
  have v:=Ou s1 c x0;have I:=PD u;have E:=(qdm H.b5.net.l).2;have D:=gsum_b c;unfold Eg at v ⊢;omega
 exact⟨x2,n,y q,z A,((q6d H).trans s1.cs).trans (q88 d h),λf=>C (Dn.dG s1 (Dn.b5 w x.a f) c x0)⟩
def calm4(x:Bl H G B)(w:BB H)(Z:H.net.l.length<=200)(r:Cy 4 H H') :
  Bl H' G B/\BB H'/\(∀t,1<=t->t<=H'.m->(H'.tx t).aa≠2)/\(∀t,1<=t->t<=H'.m->ER H' t)/\Eh H H'/\H'.net.l=[]:=by
 cases r with
 |@more _ _ A1 A2 _ Y da r=>
 cases r with
 |@more _ _ B1 L _ tb db r=>
 cases r with
 |@more _ _ C1 v _ M U r=>
 cases r with
 |@more _ _ D1 D2 _ R dd r=>
 cases r with
 |zero=>
 have pa:=q6i x w Z Y da;have d:=q6i pa.x pa.w (by rw[pa.nil];decide) tb db;have c:=q6i d.x d.w (by rw[d.nil];decide) M U;have y:=q6i c.x c.w (by rw[c.nil];decide) R dd;have N:∀{A C:Hs},Eh A C->C.m=A.m:=λh=>h.cD.m
 have f3:∀t,1<=t->t<=v.m->Fst v t:=λt I S=>by
  by_cases e:(v.tx t).aa=2;have E:t<=L.m:=by rw[<- N c.cs];exact S
  have O:=c.cs.cD.s2 t e;obtain⟨x0,Q⟩:=qd7 d.x d.w;have f:=q6d L;have z:(L.b5.tx t).aa=2:=by
   obtain⟨s1,_⟩:=Qa M x0;have s2:=q88 U (Bl.dG s1 x0);exact s1.cD.s2 t (s2.cD.s2 t e)
  have u:∀q∈(L.b5.tx t).ag,AK L.b5 q 2 t:=λq D=>by
   rw[f.cD.ag]at D;have n:q<3:=Z4 (Cb D);exact(q8m (d.cv pa.nil) d.w d.x.a d.nil n ((d.done t I E).1 O q D)).up n f.aK.bz f.aK.up.lg (qd6 d.x.a)
  obtain⟨K,_⟩:=q92 M x0 Q I (by rw[N f];exact E) z u;obtain⟨s1,_⟩:=Qa M x0;have s2:=q88 U (Bl.dG s1 x0);obtain K|K:=K;exact eR (λe=>K (s2.cD.s2 t e));exact eS (s2.has K);exact eR e
 have f4:∀t,1<=t->t<=H'.m->(H'.tx t).aa≠2:=λt I S e=>by
  have E:t<=v.m:=by rw[<- N y.cs];exact S
  have O:=y.cs.cD.s2 t e;obtain⟨x0,Q⟩:=qd7 c.x c.w;have f:=q6d v;obtain⟨s1,_⟩:=Qa R x0;have s2:=q88 dd (Bl.dG s1 x0);have e1:=s2.cD.s2 t e;have z:(v.b5.tx t).aa=2:=s1.cD.s2 t e1;have X:=c.cv d.nil;have u:∀q∈(v.b5.tx t).ag,AK v.b5 q 2 t:=λq D=>by
   rw[f.cD.ag]at D;have n:q<3:=Z4 (Cb D);exact(q8m X c.w c.x.a c.nil n ((c.done t I E).1 O q D)).up n f.aK.bz f.aK.up.lg (qd6 c.x.a)
  have J:AK v.b5 2 3 t:=by
   obtain g|g:=f3 t I E;exact ZB O g;exact(q8m X c.w c.x.a c.nil Z0 g).up Z0 f.aK.bz f.aK.up.lg (qd6 c.x.a)
  exact(q92 R x0 Q I (by rw[N f];exact E) z u).2 J e1
 exact⟨y.x,y.w,f4,y.done,((pa.cs.trans d.cs).trans c.cs).trans y.cs,y.nil⟩
structure EI(H:Hs):Prop where
 ca:Bi H (λ_=>False)
 sz:SzI H
 ne:∀s,s<3->(H.sh s).ai H.n≠[]
 n3:H.n<=3
section
variable {H H':Hs}{G:Gh}{B:Int}{i:Nat}
def AA.cx(h:AA H G B)(e:EI H)(c:H.m<=40):Bl H G B:=⟨h.a,h.s,c,e.ca,e.sz⟩
def EI.bz(e:EI H)(h:Bi H' (λ_=>False))(c:AX H H'):EI H':=⟨h,e.sz.bz c,λs hs=>by rw[c.cN];exact e.ne s hs,by rw[c.n];exact e.n3⟩
def EI.dV(e:EI H)(s:Eh H H')(x:Bl H G B):EI H':=e.bz (Bl.dV s x).ca s.aK.bz
def EI.settle(e:EI H)(x:Bl H G B)(r:Ek H H'):EI H':=e.dV (Qa r x).1.cs x
def EI.a5(e:EI H):EI H.a5:=by refine e.bz (e.ca.same ⟨WX _,λ_ _=>rfl,λ_ _ _ d=>⟨d,rfl⟩,λa _ h k c=>?_,λa _ h=>eR ?_⟩) ⟨rfl,rfl,λ_ _=>.refl _,λ_=>rfl,λ_=>rfl,λ_=>rfl,rfl⟩;rw[UV H Z0];exact c;rw[UV H Z0]
def EI.net(e:EI H)(n:Be)(f:n.aq=H.net.aq):EI {H with net:=n}:=
 e.bz (e.ca.same ⟨Hi _,λ_ _=>rfl,λ_ _ _ d=>⟨d,rfl⟩,λ_ _ _ _ c=>c,λ_ _ _=>eR rfl⟩) (.net H f)
def IJ(H:Hs)(id:Int)(x:Sx):(H.get id x).2=(H.aJ id x 1).2:=by unfold Hs.get;simp only;split;rfl;split<;>rfl
def EI.aJ(e:EI H)(h:AA H G B)(c:H.m<=40)(id:Int){k:Sx}{mode:Int}(f:k∈names)(d:Bt mode):EI (H.aJ id k mode).2:=
 e.bz (e.ca.aJ h.s h.a c f d) (P9 h.a.wf h.a.c f d).bz
def EI.get(e:EI H)(h:AA H G B)(c:H.m<=40)(id:Int){x:Sx}(d:x∈names):EI (H.get id x).2:=by rw[IJ];exact e.aJ h c id d (by unfold Bt;omega)
def EI.ay(e:EI H){t:Bu}(hs:t.aa=(H.tx i).aa\/((H.tx i).aa=1/\t.aa=2))(d:t.af=(H.tx i).af):EI (H.ay i t):=
 e.bz (e.ca.ay hs (λk c=>by rw[DQ d];exact c)) (.ay _ _ _)
def EI.put(e:EI H)(h:AA H G B)(c:H.m<=40)(id:Int){p:Pr}(f:sx p.key∈names):EI (H.put id p).2:=by have d:=e.aJ h c id (mode:=2) f (by unfold Bt;omega);unfold Hs.put;split;exact e;simp only;split;exact d;split;exact d.ay (eR rfl) rfl;exact d
def qbf(h:AA H G B)(e:EI H)(u:B<=999000)(d:H.m<=40)(c:Ir H i)(f:(H.tx i).aa=1)(q:(H.tx i).ak=[]):Bl (H.aB i) ⟨G.E++[i],G.rd⟩ (B+3)/\EI (H.aB i):=by have n:EI (H.aB i):=e.ay (eS ⟨f,rfl⟩) rfl;exact⟨⟨h.dp u (.ends c.1 c.2 f q (.refl _)),h.s.aB h.o c f q,d,n.ca,n.sz⟩,n⟩
def EI.ends(e:EI H)(h:AA H G B)(f:B<=999000)(c:H.m<=40)(d:Ir H i)(q:(H.tx i).aa=1)(n:(H.tx i).ak=[])(r:Ek (H.aB i) H'):EI H':=by obtain⟨x,u⟩:=qbf h e f c d q n;exact u.settle x r
def EI.a3(e:EI H)(h:SI H G (λ_ _=>False))(a:Ac H B)(d:1<=i)(c:i<=H.m)(hs:(H.tx i).aa=1):EI (H.a3 i):=
 e.bz ((e.ca.a3 h a.wf a.bT a.c d c (eR hs)).mono (λ_ g=>g.1)) (.a3 H i)
def Ua(r:Cy n H H'):Bl H G B->Eh H H':=by
 induction r with
 |zero=>exact λ_=>.refl _
 |@more k A u q h t d _ f=>
  intro x;have x0:=Bl.dV (q6d A) x;have s1:=(Qa t x0).1.cs;have c:=Bl.dV s1 x0;have s2:=q88 d c;exact((q6d A).trans (s1.trans s2)).trans (f (Bl.dV s2 c))
def Q5(H:Hs)(id:Int)(k:Nat):((H.fail id).sh k).size=(H.sh k).size:=by
 cases c:H.node id with
 |none=>rw[q53 c]
 |some q=>
  obtain⟨s,j⟩:=q;rw[q52 c];show((H.bm s id).sh k).size=_;by_cases d:k=s;subst d;show(Af H.sh k _ k).size=_;rw[Aq];show(Af H.sh s _ k).size=_;rw[Ay d]
def fail_lv(H:Hs){id:Int}(hl:Lv H k j)(c:((H.sh k).nd j).id≠id):Lv (H.fail id) k j:=by
 cases d:H.node id with
 |none=>rw[q53 d];exact hl
 |some q=>
  obtain⟨s,i⟩:=q;have f:=E6 H id;refine⟨by rw[f.n];exact hl.1,?_⟩;rw[(f.sh k).1,q52 d];show((H.bm s id).sh k).aq _=L1;by_cases h:k=s;subst h;show(Af H.sh k _ k).aq _=L1;rw[Aq];show(decide _ || _)=L1;rw[Z9 c,hl.2];rfl;show(Af H.sh s _ k).aq _=L1;rw[Ay h];exact hl.2
def EI.fail(e:EI H)(a:Ac H B){s j:Nat}(hs:s<3)(R:j<10)(C:1<((H.sh s).ai H.n).length):EI (H.fail (10*s+j)):=by
 have f:=E6 H (10*s+j);have D:∀k q,lg (H.fail (10*s+j)) k q=lg H k q:=λk q=>by unfold lg;rw[(f.sh k).1]
 have z:∀k q,Lv (H.fail (10*s+j)) k q->Lv H k q:=λk q ⟨A,u⟩=>by
  rw[(f.sh k).1]at u;exact⟨by rw[f.n]at A;exact A,f.aq k _ u⟩
 have M:=a.wf.n4;refine⟨e.ca.same ⟨by rw[f.m];exact Hi _,λk _=>(f.sh k).2.1,λk q n d=>?_,λt _ _ k n=>by rw[f.tx];exact n,λt _ _=>eR (by rw[f.tx])⟩,λk n q d=>?_,λk n N=>?_,by rw[f.n];exact e.n3⟩;obtain⟨A,u⟩:=CS d;rw[(f.sh k).1]at u;exact⟨OR a Z0 (z k q A) u,D k q⟩;rw[Q5,(f.sh k).1];exact e.sz k n q (z k q d);have E:∀q,Lv H k q->((H.sh k).nd q).id=BW k q:=λq d=>a.ch.bL k q (by rw[a.c];exact n) d.1
 have K:∀q,¬Lv (H.fail (10*s+j)) k q:=λq d=>by
  have:=Fy.2 d;rw[N]at this;cases this
 have c:∀q,Lv H k q->BW k q=10*s+j:=λq d=>Wc λg=>K q (fail_lv H d (by rw[E q d];exact g))
 by_cases O:k=s;subst O
 match h:(H.sh k).ai H.n with
 |[]=>rw[h]at C;simp at C
 |[_]=>rw[h]at C;simp at C
 |x::y::l=>
  have v:=q3x (H.sh k) H.n;rw[h]at v;have L:=(ZL.1 v).1 y VB;have I:=c x (Fy.1 (by rw[h];exact VB));have Q:=c y (Fy.1 (by rw[h];exact VE _ VB));unfold BW at I Q;omega
 cases h:(H.sh k).ai H.n with
 |nil=>exact e.ne k n h
 |cons x l=>
  have J:=Fy.1 (show x∈(H.sh k).ai H.n by rw[h];exact VB);have I:=c x J;have:=J.1;unfold BW at I;omega
def EI.bZ(e:EI H)(a:Ac H B){s j:Nat}(hs:s<3)(c:j<10):EI (H.bZ VD s j):=by unfold Hs.bZ;split;rename_i h;exact e.fail a hs c (h.resolve_right Z3);exact e
def qcp(s:Nat)(ids:List Int):∀(l:List Nat)(H:Hs)(k:Nat),((l.foldl (Hs.aM s ids) H).sh k).size=(H.sh k).size
 |[],_,_=>rfl
 |j::l,H,k=>by
  refine(qcp s ids l (Hs.aM s ids H j) k).trans ?_;show((H.au s j _).sh k).size=_;by_cases e:k=s;subst e;rw[EH];rw[Jb H j _ e]
def U5.e9(h:U5 H s)(hl:(H.sh s).ai H.n≠[]):((H.fix s).sh s).size=((H.sh s).ai H.n).length/\∀j,Lv H s j->(((H.fix s).sh s).nd j).aI=((H.sh s).ai H.n).map (BW s):=by
 rw[q9n hl];have A:wrap64 ((H.sh s).ad+1)=(H.sh s).ad+1:=IntWalk.wrap64_in _ ⟨Z4 h.ep,Z4 h.ep⟩;have n:∀i,i∈(H.sh s).ai H.n↔Lv H s i:=λi=>Fy
 have u:=q3x (H.sh s) H.n;have v:=Bv.e8 (H:=H) (s:=s) (λj f=>h.bL s j h.hs f.1);unfold Hs.bN;simp only[v,A];generalize J:(H.sh s).ai H.n=L at *;generalize c:H.ax s {H.sh s with ad:=(H.sh s).ad+1,size:=L.length} = H1;have d:H1.sh s = {H.sh s with ad:=(H.sh s).ad+1,size:=L.length}:=by rw[<- c];exact CJ _ _ _
 have z:LZ H H1 s ((H.sh s).ad+1) L (λ_=>False):=by
  refine⟨by rw[<- c];rfl,by rw[<- c];rfl,λa C=>by rw[<- c];exact Ay C _,by rw[d],by rw[d],λj _=>by rw[d],λj f=>f.elim,λm y=>?_,by rw[<- c];rfl⟩;rw[<- c]at y;obtain⟨I,E,_⟩:=h.ms m y;exact⟨I,E,eR y⟩
 have D:=LZ.e7 h n u L z (λj f=>⟨(n j).1 f,λh=>h⟩) (u.imp (λ{a b} h=>Z0));have x:=qcp s (L.map (BW s)) L H1 s;generalize List.foldl (Hs.aM s (L.map (BW s))) H1 L=H2 at *;have q:=BK.take (H2.ax s {H2.sh s with tab:=λ_=>B0,sto:=λ_=>[],done:=0}) s;refine⟨?_,λj f=>?_⟩;rw[q.size,CJ];show(H2.sh s).size=_;rw[x,d];rw[q.nd,CJ];exact(D.nd1 j (eR ((n j).2 f))).2.2.1
def q9o(f:FixF H H' s)(d:k<H.c):(H'.sh k).ai H'.n=(H.sh k).ai H.n:=by unfold Bv.ai;rw[f.n];refine XK (λj c=>?_);have c:=ZH.1 c;have:=f.lv k j d;unfold Lv at this;rw[f.n]at this;simp only[c,true_and]at this;cases n:(H'.sh k).aq ((H'.sh k).nd j).id<;>cases h:(H.sh k).aq ((H.sh k).nd j).id<;>simp[n,h]at this ⊢
def EI.fix(e:EI H)(h:SI H G (λ_ _=>False))(a:Ac H B)(q:B<=1000000){s:Nat}(hs:s<3):EI (H.fix s):=by
 have f:=(a.fix q hs).2.2.2;have n:∀k,k<3->k<H.c:=λk c=>by rw[a.c];exact c
 refine⟨e.ca.fix h a q hs,λk c j v=>?_,λk c=>by rw[q9o f (n k c)];exact e.ne k c,by rw[f.n];exact e.n3⟩;have d:=(f.lv k j (n k c)).1 v;by_cases g:k=s;subst g;obtain⟨q1,u⟩:=(a.ch.toF (s:=k) (n k c) (Z4 (a.ep k c))).e9 (e.ne k c);rw[q1,u j d,V0];rw[f.sh k g];exact e.sz k c j d
def EI.aT(e:EI H)(h:SI H G (λ_ _=>False))(a:Ac H B)(c:B<=1000000){s:Nat}(hs:s<3):EI (H.aT s):=by unfold Hs.aT;split;exact e;exact e.fix h a c hs
def N9(H:Hs)(s:Nat):Prop:=∀j,Lv H s j->((H.sh s).nd j).aI=((H.sh s).ai H.n).map (BW s)
def qc8:∀(a b:List Nat),a.Pairwise (· < ·)->b.Pairwise (· < ·)->a ⊆ b->b.length<=a.length->a=b
 |[],b,_,_,_,h=>(We (Z6 h)).symm
 |x::a,[],_,_,h,_=>(nomatch h VB)
 |x::a,y::b,ha,hb,h,hl=>by
  rw[List.pairwise_cons]at ha hb;have d:x=y->a ⊆ b:=λe z c=>by
   have A:=ha.1 z c;obtain g|g:=ZF.1 (h (VE _ c));omega;exact g
  by_cases e:x=y;rw[e,qc8 a b ha.2 hb.2 (d e) (Z6 hl)];exfalso;have q:x∈b:=(ZF.1 (h VB)).resolve_left e;have n:=hb.1 x q;have v:(x::a) ⊆ b:=λz c=>by
   obtain g|g:=ZF.1 (h c);obtain f|f:=ZF.1 c;omega;have:=ha.1 z f;omega;exact g
  have u:(x::a).Nodup:=(ZL.2 ha).imp (λ{a b} h=>Z0);have:=WL u v;simp only[Wi]at this hl;omega
def Vf(e:EI H)(a:Ac H B)(hs:s<3)(h:(H.sh s).c4 H.n=VD):N9 H s:=λj C=>by
 have d:=e.ne s hs;obtain⟨L,z⟩:=a.ch.bX s (by rw[a.c];exact hs);have n:=e.sz s hs j C;have f:=(z.nd j C).2.1;rw[f,V0]at n;have c:(H.sh s).ai H.n ⊆ L:=λq D=>z.mem q (Fy.1 D)
 have A:((H.sh s).ai H.n).length=L.length:=by
  unfold Bv.c4 at h;cases v:((H.sh s).ai H.n).head? with
  |none=>rw[List.head?_eq_none_iff]at v;exact ZB v d
  |some x=>
   cases u:((H.sh s).ai H.n).getLast? with
   |none=>rw[List.getLast?_eq_none_iff]at u;exact ZB u d
   |some y=>
    rw[v,u]at h;simp only[Wl,beq_iff_eq]at h;have:=h.2;omega
 rw[f,qc8 _ _ (q3x (H.sh s) H.n) z.aH c Z0]
def N9.other(h:N9 H k)(a:Ac H B)(u:B<=1000000)(hs:s<3)(n:k<3)(c:k≠s):N9 (H.aT s) k:=by
 unfold Hs.aT;split;exact h;have f:=(a.fix u hs).2.2.2;have d:k<H.c:=by rw[a.c];exact n
 intro j q;rw[q9o f d,f.sh k c];exact h j ((f.lv k j d).1 q)
def N9.self(e:EI H)(a:Ac H B)(n:B<=1000000)(hs:s<3):N9 (H.aT s) s:=by
 unfold Hs.aT;split;rename_i d;exact Vf e a hs d;have f:=(a.fix n hs).2.2.2;have c:s<H.c:=by rw[a.c];exact hs
 intro j h;rw[q9o f c];exact((a.ch.toF (s:=s) c (Z4 (a.ep s hs))).e9 (e.ne s hs)).2 j ((f.lv s j c).1 h)
def N9.bz(h:N9 H s)(c:AX H H'):N9 H' s:=λj d=>by
 rw[c.cN,(c.nd s j).2.2.1];exact h j (c.lv.1 d)
def wli(e:EI H)(a:Ac H B)(q:H.m<=8)(h:∀s,s<3->N9 H s):BB H:=by
 refine⟨λs hs=>?_,e.ne,e.n3,q⟩;obtain⟨L,n⟩:=a.ch.bX s (by rw[a.c];exact hs);have:L=(H.sh s).ai H.n:=by
  cases c:(H.sh s).ai H.n with
  |nil=>exact ZB c (e.ne s hs)
  |cons j l=>
   have d:=Fy.1 (show j∈(H.sh s).ai H.n by rw[c];exact VB);have f:=(n.nd j d).2.1;rw[h s hs j d,c]at f;exact((List.map_inj_right (λx y g=>by unfold BW at g;omega)).1 f).symm
 rw[<- this];exact n
def EI.cu(e:EI H)(h:SI H G (λ_ _=>False))(a:Ac H B)(n:B<=999000):EI ([0,1,2].foldl Hs.aT H)/\∀s,s<3->N9 ([0,1,2].foldl Hs.aT H) s:=by
 have c:=(a.aT (s:=0) Z0 Z0).1;have d:=(c.aT (s:=1) Z0 Z0).1;have s0:=h.aT a Z0 (s:=0) Z0;have s1:=s0.aT c Z0 (s:=1) Z0;have f:=e.aT h a Z0 (s:=0) Z0;have e1:=f.aT s0 c Z0 (s:=1) Z0;refine⟨e1.aT s1 d Z0 (s:=2) Z0,λs hs=>?_⟩;obtain rfl|rfl|rfl:=(show s=0\/s=1\/s=2 by omega)
 exact((N9.self e a Z0 (s:=0) Z0).other c Z0 Z0 Z0 Z0).other d Z0 Z0 Z0 Z0;exact(N9.self f c Z0 (s:=1) Z0).other d Z0 Z0 Z0 Z0;exact N9.self e1 d Z0 (s:=2) Z0
def EI.bE:∀(l:List Nat) {H:Hs},EI H->SI H G (λ_ _=>False)->Ac H B->H.m<=40->(∀i∈l,1<=i/\i<=H.m)->EI (l.foldl Hs.aQ H)
 |[],_,e,_,_,_,_=>e
 |i::l,H,e,s,a,h40,hl=>by
  have c:=hl i VB;have d:=qa6 (H:=H) c.1 c.2;obtain⟨s2,n⟩:=SI.aK d s a h40;have f:=d.sm.m;refine EI.bE l (H:=H.aQ i) ?_ s2 n (by rw[f];exact h40) (λx h=>by rw[f];exact hl x (VE _ h));unfold Hs.aQ;split;rename_i g;exact e.a3 s a c.1 c.2 g.1;exact e
def EI.dO(e:EI H)(h:AA H G B)(d:B<=999000)(C:H.m<=8)(r:FO H H'):EI H'/\BB H':=by
 obtain⟨e1,x⟩:=e.cu h.s h.a d;obtain⟨q,u1⟩:=h.a.cu d;have s1:=h.s.cu h.a d;have A:([0,1,2].foldl Hs.aT H).m=H.m:=u1.m;have hl:∀i∈Wh 1 ([0,1,2].foldl Hs.aT H).m,1<=i/\i<=([0,1,2].foldl Hs.aT H).m:=λi u=>by rw[XJ]at u;omega
 have c:Ag ([0,1,2].foldl Hs.aT H) ([0,1,2].foldl Hs.aT H).bE:=q5a _ hl;obtain⟨s2,y⟩:=SI.aK c s1 q Z0;have f:EI ([0,1,2].foldl Hs.aT H).bE:=EI.bE _ e1 s1 q Z0 hl;have z:=c.sm.m;have x2:Bl ([0,1,2].foldl Hs.aT H).bE G (B+3):=⟨y,s2,Z0,f.ca,f.sz⟩
 have ss:=(Qa r x2).1;have n:=f.dV ss.cs x2;have v:=c.bz.trans ss.aK.bz;refine⟨n,wli n (Bl.dG ss x2).a (by rw[ss.aK.sm.m];omega) (λs hs=>(x s hs).bz v)⟩
def EI.mid{nodes:Nat}{now:Int}{x:ActX}(e:EI H)(h:AA H G B)(q:B<=999000)(f:H.m=T.length)(E:T.length<=7)(v:1<=nodes/\nodes<=9)(r:Bf VD nodes now x H T H' T'):EI H':=by
 have c:H.m<=40:=by omega
 have d:=h.cx e c;cases r with
 |a5=>exact e.a5
 |full|none|dropE|other=>exact e
 |get|getE=>exact e.get h c _ (MI x.a)
 |put|putE=>exact e.put h c _ (p:=Ow x) (by show sx (bs (AT x.a))∈names;rw[F9];exact MI x.a)
 |ends _ r=>
  cases r with
  |missing|aa|waits=>exact e
  |ends z C A r=>exact e.ends h q c ⟨Z0,Z0⟩ C A r
 |drop=>
  unfold Hs.drop;split;exact e;split;exact e;rename_i I D;exact e.a3 h.s h.a Z0 Z0 (Classical.not_not.1 D)
 |deliver _ _ r=>
  cases r with
  |none=>exact e
  |@some m y _ r=>
   have s1:Qs H _:=.aE y;have u:=d.cs s1;exact(e.dV (.cS s1) d).settle u r
 |lose=>exact e.net _ rfl
 |twice=>
  unfold Hs.twice;split;exact e;exact e.net _ (q4v _ _)
 |aD _ r=>
  have s1:=q6d H;exact(e.dV s1 d).settle (Bl.dV s1 d) r
 |fail=>exact e.bZ h.a (On _ Z0) (Z4 (On x.tx (n:=nodes) Z0))
 |fix _ r=>exact(e.dO h q Z0 r).1
 |calm _ r=>exact e.dV (Ua r d) d
def q6k{n:Nat}(J:1<=n)(C:n<=4):∀q,q<=3->(∀s i,((AJ n q).sh s).aq i=L1)/\∀s,s<q->((AJ n q).sh s).size=(((AJ n q).sh s).ai (AJ n q).n).length/\N9 (AJ n q) s
 |0,_=>⟨λ_ _=>rfl,λs h=>Z0⟩
 |q+1,K=>by
  obtain⟨D,E⟩:=q6k J C q Z0;obtain⟨u,I⟩:=q3p C q Z0;have v:=u.c;have e:AJ n (q+1)=(AJ n q).cc.fix q:=by
   show(AJ n q).cc.fix (AJ n q).c=_;rw[v]
  have A:=u.ch.cc (by rw[v];exact u.b4 q (Hi _)) (λs j _ _=>I _);rw[v]at A;have f:=A.fix;have z:(AJ n q).cc.c=q+1:=by show(AJ n q).c+1=_;rw[v]
  have hl:((AJ n q).cc.sh q).ai (AJ n q).cc.n≠[]:=λg=>by
   have:(0:Nat)∈((AJ n q).cc.sh q).ai (AJ n q).cc.n:=Fy.2 ⟨by show 0<(AJ n q).n;rw[u.n];omega,D q _⟩;rw[g]at this;cases this
  rw[e];refine⟨λs i=>by rw[f.aq];exact D s i,λs hs=>?_⟩;have d:s<(AJ n q).cc.c:=by rw[z];exact hs
  have c:=q9o f d;by_cases g:s=q;subst g;obtain⟨q1,x⟩:=A.e9 hl;exact⟨by rw[q1,c],λj y=>by rw[x j ((f.lv s j d).1 y),c]⟩;obtain⟨q1,x⟩:=E s Z0;refine⟨?_,λj y=>?_⟩;rw[c,f.sh s g];exact q1;rw[c,f.sh s g];exact x j ((f.lv s j d).1 y)
def EI.b4(v:1<=n)(z:n<=3):EI (BJ n):=by have d:=qau (n:=n) Z0 3 (Hi _);obtain⟨f,c⟩:=q6k v Z0 3 (Hi _);have q:=(q8w (n:=n) Z0).2.2;rw[<- E5]at d f c;refine⟨⟨λk _ x o m h=>?_,λk _ x o m p y h=>?_⟩,λs hs j u=>by rw[(c s hs).1,(c s hs).2 j u,V0],λs _ g=>?_,Z0⟩;rw[(d k).1]at h;cases h;rw[(d k).1]at h;cases h;have:(0:Nat)∈((BJ n).sh s).ai (BJ n).n:=Fy.2 ⟨Z0,f s _⟩;rw[g]at this;cases this
def BB.b4{n:Nat}(d:1<=n)(f:n<=3):BB (BJ n):=by obtain⟨_,c⟩:=q6k d Z0 3 (Hi _);rw[<- E5]at c;obtain⟨a,h,_⟩:=q8w (n:=n) Z0;exact wli (EI.b4 d f) a Z0 (λs hs=>(c s hs).2)
end
structure Qt(H:Hs):Prop where
 hd:∀k,k<2->H.head k≠B0
 n2:∀t,Ir H t->(H.tx t).aa≠2
 dn:∀t,Ir H t->(H.tx t).aa=3\/(H.tx t).aa=4->∀k∈(H.tx t).ag,∀j,H.head k=Bs j->¬EL (lg H k j) t
structure DW(H:Hs)(i:Nat):Prop where
 q:Qt H
 ir:Ir H i
 s1:(H.tx i).aa=1
 el:∀t,1<=t->t<i->(H.tx t).aa≠1
section
variable {H H':Hs}{G:Gh}{B:Int}{i p:Nat}
def Qt.calm(w:BB H)(q:∀t,1<=t->t<=H.m->(H.tx t).aa≠2)(n:∀t,1<=t->t<=H.m->ER H t):Qt H:=by refine⟨λk h e=>?_,λt c=>q t c.1 c.2,λt c f k h j d=>(n t c.1 c.2).2 f k h j d⟩;obtain⟨j,_,d⟩:=w.head (s:=k) Z0;rw[d]at e;cases e
def Qt.ho(q:Qt H)(s:SI H G (λ_ _=>False))(v:Bi H (λ_=>False))(n:k<2){x:Sx}{o m:Int}(h:(Ad (H.sh k).tab x).h o=Bs m):(1<=o/\o<=H.m)/\(H.tx o.toNat).aa=1:=by
 obtain⟨q1,u,d⟩:=v.cq k n x o m h;have c:Ir H o.toNat:=⟨Z0,Z0⟩
 refine⟨q1,?_⟩;obtain d|d|d:=d;exact d;exact ZB d (q.n2 _ c);have y:=s.st _ c;have z:=q.n2 _ c;refine Wc λe=>?_
 cases f:H.head k with
 |none=>exact q.hd k n f
 |some j=>
  refine q.dn _ c Z0 k u j f ?_;rw[show((o.toNat:Nat):Int)=o by omega];exact d j f
def DW.nowt(e:DW H i)(s:SI H G (λ_ _=>False))(E:Bi H (λ_=>False))(n:k<2){x:Sx}{m:Int} : ¬Wt (H.sh k).tab x i m:=λA=>by
 have D:=s.gt k Z0 x;obtain⟨a,b,c⟩:=List.append_of_mem (show((i:Int),m)∈(Ad (H.sh k).tab x).ws from A);have u:=D.aH;rw[c]at u;have d:a=[]:=by
  cases a with
  |nil=>rfl
  |cons v a=>
   exfalso;have h:=(ZM.1 u).2.2 v VB _ VB;have J:Wt (H.sh k).tab x v.1 v.2:=by show(v.1,v.2)∈(Ad (H.sh k).tab x).ws;rw[c];simp
   obtain⟨w1,I,_⟩:=s.wt k n x v.1 v.2 J;have h:v.1<(i:Int):=h;exact e.el v.1.toNat Z0 Z0 I
 subst d;refine D.al [] _ b c (eS ⟨λo z C f=>?_,rfl⟩);have f:o≠(i:Int):=f;obtain⟨L,y⟩:=e.q.ho s E n C;have K:¬o.toNat<i:=λg=>e.el o.toNat Z0 g y
 cases q:AN z m with
 |false=>rfl
 |true=>
  exfalso;unfold AN at q;simp only[X7,decide_eq_true_eq]at q;exact E.yb k n x i m o z A C Z0 q (λg=>g) y
def DW.c8(e:DW H i)(s:SI H G (λ_ _=>False))(h:Bi H (λ_=>False))(o:OP H):(H.tx i).ak=[]:=by
 cases f:(H.tx i).ak with
 |nil=>rfl
 |cons a l=>
  exfalso;obtain⟨x,m⟩:=a;have d:(x,m)∈(H.tx i).ak:=by rw[f];exact VB
  have c:=s.wn i e.ir x m d;have hs:=o i e.ir e.s1 _ c;exact e.nowt s h (Cb c) ((s.ww i _ e.ir (Cb c) e.s1 hs x m rfl).1 d)
def Qt.same(q:Qt H)(v:AX H H')(x:H'.m=H.m)(hs:∀t,(H'.tx t).aa=(H.tx t).aa)(hl:∀k j,lg H' k j=lg H k j)(y:∀t,(H.tx t).aa≠1->(H'.tx t).ag=(H.tx t).ag):Qt H':=by
 have c:∀t,Ir H' t->Ir H t:=λt h=>⟨h.1,by rw[<- x];exact h.2⟩
 refine⟨λk f=>by rw[v.head];exact q.hd k f,λt n=>by rw[hs];exact q.n2 t (c t n),λt n d k f j u=>?_⟩;rw[hs]at d;rw[y t Z0]at f;rw[v.head]at u;rw[hl];exact q.dn t (c t n) d k f j u
def DW.same(e:DW H i)(n:AX H H')(c:H'.m=H.m)(hs:∀t,(H'.tx t).aa=(H.tx t).aa)(hl:∀k j,lg H' k j=lg H k j)(d:∀t,(H.tx t).aa≠1->(H'.tx t).ag=(H.tx t).ag):DW H' i:=
 ⟨e.q.same n c hs hl d,⟨e.ir.1,by rw[c];exact e.ir.2⟩,by rw[hs];exact e.s1,λt h f=>by rw[hs];exact e.el t h f⟩
def Rm(H:Hs)(p:Nat):LX H (H.a3 p):=by
 rw[I9];have c:AP H (reld (H.an p) p (H.tx p).ag):=(AP.ay H p _).trans (LV p _ _);have f:=Gv p (H.tx p).ag (H.an p);have d:LX H (reld (H.an p) p (H.tx p).ag):=λk j _=>⟨[],by unfold lg;rw[c.nd];simp,λ_ h=>(nomatch h)⟩
 refine d.trans (qa1 Z2 _ _) (λs=>PZ c.n (c.aq s) (λj=>by rw[c.nd];exact⟨rfl,rfl⟩)) (λt e=>?_);rw[(f.2.2.2.2 t).1]at e;have e:(Af H.tx p _ t).aa=2:=e;by_cases g:t=p;subst g;rw[Aq]at e;cases e;rw[Ay g]at e;exact e
def Qt.a3(q:Qt H)(s:SI H G (λ_ _=>False))(N:(H.tx p).aa=1):Qt (H.a3 p):=by
 obtain⟨sm,_,f⟩:=Ik H p;have K:=AX.a3 H p;have d:∀t,Ir (H.a3 p) t->Ir H t:=λt h=>⟨h.1,by rw[<- sm.m];exact h.2⟩
 refine⟨λk n=>by rw[K.head];exact q.hd k n,λt v=>?_,λt v u k n j x J=>?_⟩;rw[(f t).1];split;decide;exact q.n2 t (d t v);rw[DQ (f t).2.2.1]at n;rw[K.head]at x;obtain⟨O,e,D⟩:=Rm H p k j x;rw[e]at J;have A:=Cb n;obtain⟨⟨c,E,e1,I⟩,M,L⟩:=J;have C:c.tx.toNat=t:=by omega
 have y:∀c∈lg H k j,c.aj=2->c.tx=t->t≠p:=λc E e1 I g=>by
  have:=(s.pw k j A (CS x).1 c E e1).1;rw[show c.tx.toNat=p by omega]at this;exact this N
 obtain g|g:=ZD.1 E;have z:=y c g e1 I;rw[(f t).1,Z7 z]at u;exact q.dn t (d t v) u k n j x ⟨⟨c,g,e1,I⟩,λq=>M (q.up (Xy _ _)),λq=>L (q.up (Xy _ _))⟩;have:=(D c g e1).2;rw[C]at this;exact q.n2 t (d t v) this
def DW.a3(e:DW H i)(s:SI H G (λ_ _=>False))(d:(H.tx p).aa=1)(c:p≠i):DW (H.a3 p) i:=by obtain⟨sm,_,f⟩:=Ik H p;refine⟨e.q.a3 s d,⟨e.ir.1,by rw[sm.m];exact e.ir.2⟩,by rw[(f i).1,Z7 (λg=>c g.symm)];exact e.s1,λt n h=>?_⟩;rw[(f t).1];split;decide;exact e.el t n h
def DW.aA(e:DW H i)(k:Nat):DW (H.aA i k) i:=by
 have c:∀t,((H.aA i k).tx t).aa=(H.tx t).aa/\(t≠i->(H.aA i k).tx t=H.tx t):=λt=>by
  by_cases g:t=i;subst g;exact⟨by show(Af H.tx t _ t).aa=_;rw[Aq],λh=>ZB rfl h⟩;have:(H.aA i k).tx t=H.tx t:=Ay g _;exact⟨by rw[this],λ_=>this⟩
 exact e.same (.ay _ _ _) rfl (λt=>(c t).1) (λ_ _=>rfl) (λt d=>by rw[(c t).2 (λg=>d (by rw[g];exact e.s1))])
def DW.b7(e:DW H i)(k:Nat)(x:Sx)(mode:Int):DW (H.b7 i k x mode) i:=by refine e.same (.b7 _ _ _ _ _) rfl (λ_=>rfl) (λa j=>?_) (λ_ _=>rfl);unfold lg;show((Af H.sh k _ a).nd j).a4=_;by_cases g:a=k;subst g;rw[Aq];rw[Ay g]
def DW.ay(e:DW H i){t:Bu}(f:t.aa=1):DW (H.ay i t) i:=by
 have c:∀a,((H.ay i t).tx a).aa=(H.tx a).aa/\(a≠i->(H.ay i t).tx a=H.tx a):=λa=>by
  by_cases g:a=i;subst g;exact⟨by show(Af H.tx a t a).aa=_;rw[Aq,f,e.s1],λh=>ZB rfl h⟩;have:(H.ay i t).tx a=H.tx a:=Ay g _;exact⟨by rw[this],λ_=>this⟩
 exact e.same (.ay _ _ _) rfl (λa=>(c a).1) (λ_ _=>rfl) (λa d=>by rw[(c a).2 (λg=>d (by rw[g];exact e.s1))])
def DW.bD:∀(l:List Int) {H:Hs},DW H i->SI H G (λ_ _=>False)->Ac H B->H.m<=40->(∀o∈l,(i:Int)<o)->DW (Go.Proofs.YtccahlhdifadfaaGreatDoor.woundd H l) i
 |[],H,h,_,_,_,_=>h
 |o::l,H,h,si,a,h40,hl=>by
  have c:=q6c a.wf o;obtain⟨s2,f⟩:=SI.aK c si a h40;refine DW.bD l (H:=H.bc o) ?_ s2 f (by rw[c.sm.m];exact h40) (λx d=>hl x (VE _ d));have:=hl o VB;unfold Hs.bc;split;rename_i g;exact h.a3 si g.2.2 Z0;exact h
def ws_len(s:SI H G (λ_ _=>False))(C:H.m<=40)(u:k<2)(x:Sx):(Ad (H.sh k).tab x).ws.length<=41:=by
 have n:=(s.gt k Z0 x).aH;have d:∀v∈(Ad (H.sh k).tab x).ws,1<=v.1/\v.1<=H.m:=λv c=>(s.wt k u x v.1 v.2 c).1
 generalize (Ad (H.sh k).tab x).ws=l at *;have f:(l.map (λv:Int×Int=>v.1.toNat)).Nodup:=by
  rw[Yz,Xb];refine n.imp_of_mem (λ{a b} A z h=>?_);have:=d a A;have:=d b z;omega
 have:=f.length_le_of_subset (l₂:=Ww 41) (λy q=>by
  obtain⟨v,c,rfl⟩:=ZE.1 q;have:=d v c;exact ZH.2 Z0)
 simpa using this
def DW.aJ(e:DW H i)(h:AA H G B)(O:EI H)(c:H.m<=40){x:Sx}{mode:Int}(A:x∈names)(E:Bt mode):(H.aJ i x mode).1=0/\DW (H.aJ i x mode).2 i:=by
 obtain⟨N,I⟩:=e.ir;have hs:=e.s1;have d:=FJ x;have J:=e.q.hd _ d;have Y:=P9 (id:=i) (mode:=mode) h.a.wf h.a.c A E;have s9:=h.aK Y c;have Q:=O.aJ h c i A E;have now:=e.c8 h.s O.ca h.o;have f:¬Rs H i (Aa x):=λ⟨v,S,g2⟩=>by
  have:=h.o i e.ir hs (Aa x) (D5.2 ⟨Z0,by rw[S];simp⟩);rw[S]at this;injection this with this;exact g2 this
 have D:(H.tx i).af (Aa x)=B0\/(H.tx i).af (Aa x)=Bs (H.sh (Aa x)).ad:=by
  cases g:(H.tx i).af (Aa x)with
  |none=>exact eR rfl
  |some v=>exact eS (by rw[Wc (λh=>f ⟨v,g,h⟩)])
 have R:Cp (H.tx i).ak x=L1:=by rw[now];rfl
 have q:=By.aA N I d hs J D;have u:=h.s.step h.a c q;have y:=(h.a.step q).1;have C:=e.aA (Aa x);have X:=C.s1;have c2:((H.aA i (Aa x)).tx i).af (Aa x)=Bs (H.sh (Aa x)).ad:=by
  show(Af H.tx i _ i).af _=_;rw[Aq];show AS _ _ _ _=_;unfold AS;rw[Z8 rfl]
 have c4:Cp ((H.aA i (Aa x)).tx i).ak x=L1:=by show Cp (Af H.tx i _ i).ak x=L1;rw[Aq];exact R
 rw[q78 N I hs (Ex A) J f R]at s9 Q ⊢;have M:CF (Ad ((H.aA i (Aa x)).sh (Aa x)).tab x).ws i=L1:=by
  cases g:CF (Ad ((H.aA i (Aa x)).sh (Aa x)).tab x).ws i with
  |false=>rfl
  |true=>
   exfalso;unfold CF at g;rw[List.any_eq_true]at g;obtain⟨v,Z,g⟩:=g;have g:v.1=i:=Z6 g;exact e.nowt h.s O.ca d (x:=x) (m:=v.2) (by rw[<- g];exact Z)
 by_cases z:Ai (Ad ((H.aA i (Aa x)).sh (Aa x)).tab x).h i mode (Ad ((H.aA i (Aa x)).sh (Aa x)).tab x).ws=VD;rw[q3d M z];exact⟨rfl,C.b7 _ _ _⟩;have z:Ai (Ad ((H.aA i (Aa x)).sh (Aa x)).tab x).h i mode (Ad ((H.aA i (Aa x)).sh (Aa x)).tab x).ws=L1:=Z6 z;have h4:(Ad ((H.aA i (Aa x)).sh (Aa x)).tab x).ws.length≠50:=Z4 (ws_len u c d x);rw[q2k M z h4]at s9 Q ⊢;have n:=By.wait (H:=H.aA i (Aa x)) N I X A E J c2 c4 M z;have K:=u.step y c n;have L:=(y.step n).1;have e2:DW (((H.aA i (Aa x)).b7 i (Aa x) x mode).bq i x mode) i:=by
  refine(C.b7 (Aa x) x mode).ay ?_;show((H.aA i (Aa x)).tx i).aa=1;exact X
 have U:=DW.bD (EG (Ad ((H.aA i (Aa x)).sh (Aa x)).tab x).h i mode) e2 K L c (λ_ ho=>qbs ho);refine⟨?_,U⟩;show(if Cp _ x=VD then(11:Int)else 0)=0;rw[U.c8 s9.s Q.ca s9.o];rfl
end
section
variable {H H':Hs}{G:Gh}{B:Int}{i:Nat}
def wr_len(s:SI H G (λ_ _=>False))(n:Wf H)(d:Ir H i):(H.tx i).ae.length<=4:=by
 have f:=(s.wc i d).2;have v:=(n.tx i d.1 d.2).ps;generalize (H.tx i).ae=l at *;have c:(l.map (λp:Pr=>sx p.key)).Nodup:=by
  rw[Yz,Xb]at f ⊢;exact f.imp (λh e=>h (q8z e))
 have:=c.length_le_of_subset (l₂:=names) (λy q=>by
  obtain⟨p,u,rfl⟩:=ZE.1 q;exact(v p u).1)
 rw[V0]at this;exact this
def MM{l:List Pr}(h:l.length<=4)(p:Pr):∃l',BX l p=Bs l':=by unfold BX;split;exact⟨_,rfl⟩;rw[Z7 Z0];exact⟨_,rfl⟩
structure Po(H:Hs)(G:Gh)(B:Int)(i:Nat):Prop where
 h:AA H G B
 ei:EI H
 e:DW H i
 w:BB H
def Po.put(s:Po H G B i)(A:B<=999000){p:Pr}(d:sx p.key∈names)(D:p.val.size<=40):(H.put i p).1=0/\Po (H.put i p).2 G (B+3) i:=by
 have c:H.m<=40:=Z4 s.w.m8;have q:Bt (2:Int):=by unfold Bt;omega
 obtain⟨x,h⟩:=s.e.aJ s.h s.ei c d q;have f:=P9 (id:=i) (mode:=2) s.h.a.wf s.h.a.c d q;have u:=s.h.aK f c;obtain⟨l,hl⟩:=MM (wr_len u.s u.a.wf h.ir) ⟨p.key,if p.aR then⟨#[]⟩else p.val,p.aR⟩;have y:H.put i p=(0,(H.aJ i (sx p.key) 2).2.ay i { (H.aJ i (sx p.key) 2).2.tx i with ae:=l}):=by
  unfold Hs.put;rw[Z7 Z0];simp only;rw[Z7 (by rw[x];simp)];rw[show((i:Nat):Int).toNat=i by omega,hl]
 have n:=s.h.put A c i (p:=p) d;have v:=s.ei.put s.h c i (p:=p) d;rw[y]at n v ⊢;refine⟨rfl,?_,v,h.ay h.s1,s.w.bz (f.bz.trans (.ay _ _ _)) f.sm.m⟩;generalize (H.aJ i (sx p.key) 2).2.ay i { (H.aJ i (sx p.key) 2).2.tx i with ae:=l} = K at *;cases n with
 |bad z=>exact ZB rfl z
 |ok _ _ _ _ _ C=>exact C
structure EnS(H:Hs)(G:Gh)(B:Int)(i:Nat):Prop where
 h:AA H G B
 ei:EI H
 w:BB H
 ir:Ir H i
 na:NA H i
def EnS.x(s:EnS H G B i):Bl H G B:=s.h.cx s.ei (Z4 s.w.m8)
def Po.ends(s:Po H G B i)(y:B<=999000){e:Int}(r:FQ H i e H'):e=0/\Ek (H.aB i) H'/\EnS H' ⟨G.E++[i],G.rd⟩ (B+3) i:=by
 have d:H.m<=40:=Z4 s.w.m8;have c:=s.e.ir;have f:=s.e.s1;have u:=s.e.c8 s.h.s s.ei.ca s.h.o;cases r with
 |missing h=>have:=c.1;have:=c.2;omega
 |aa _ g=>rw[show((i:Nat):Int).toNat=i by omega]at g;exact ZB f g
 |waits _ _ g=>rw[show((i:Nat):Int).toNat=i by omega]at g;exact ZB u g
 |ends _ _ _ r=>
  rw[show((i:Nat):Int).toNat=i by omega]at r;obtain⟨x,D⟩:=qbf s.h s.ei y d c f u;have ss:=(Qa r x).1;have A:NA (H.aB i) i:=by
   have n:=q6p H i;refine eS ⟨n.1,λk q=>?_⟩;rw[DQ n.2.2.1]at q;refine⟨by rw[n.2.2.1];exact s.h.o i c f k q,λz=>?_⟩;exfalso;have C:(((H.aB i).tx i).aw k)=Bs (-1):=by
    have e:(H.aB i).tx i = {H.tx i with aa:=2,aw:=λk=>if ((H.tx i).af k).isSome then Bs (-1)else(H.tx i).aw k}:=Aq _ _ _;rw[e];show(if ((H.tx i).af k).isSome then Bs (-1)else(H.tx i).aw k)=Bs (-1);have:=(D5.1 q).2;cases g:(H.tx i).af k with
    |none=>exact ZB g this
    |some v=>rfl
   rw[C]at z;simp at z
  refine⟨rfl,r,s.h.ends y d c f u r,D.dV ss.cs x,?_,⟨c.1,by rw[ss.aK.sm.m];exact c.2⟩,ss.cs.na A⟩;exact(s.w.bz (.ay H i _) rfl).bz ss.aK.bz ss.aK.sm.m
def EnS.calm(s:EnS H G B i)(h:H.net.l.length<=200)(r:Cy 4 H H'):(H'.tx i).aa=3/\AA H' G B/\EI H'/\BB H':=by
 obtain⟨x,w,q,_,d,_⟩:=calm4 s.x s.w h r;have c:=d.na s.na;have n:=d.cD.m;have f:H.m<=40:=Z4 s.w.m8;refine⟨?_,s.h.aK d.aK f,s.ei.dV d s.x,w⟩;obtain c|c:=c;exact c;exact ZB c.1 (q i s.ir.1 (by rw[n];exact s.ir.2))
structure QtS(H:Hs)(G:Gh)(B:Int):Prop where
 h:AA H G B
 ei:EI H
 q:Qt H
 w:BB H
def O1(h:AA H G B)(n:EI H)(w:BB H)(u:H.net.l.length<=200)(r:Cy 4 H H'):QtS H' G B:=by
 have c:H.m<=40:=Z4 w.m8;have x:=h.cx n c;obtain⟨_,f,n2,d,q,_⟩:=calm4 x w u r;exact⟨h.aK q.aK c,n.dV q x,Qt.calm f n2 d,f⟩
def Bf.fixE{safe:Bool}{nodes:Nat}{now:Int}{x:ActX}(r:Bf safe nodes now x H T H' T')(h:x.aX=11):FO H H'/\T'=T:=by
 cases r with
 |fix _ r=>exact⟨r,rfl⟩
 |a5 g|full g|get g|getE g|put g|putE g|ends g|drop g|dropE g|deliver g|lose g|twice g|none g|aD g|fail g|calm g|other g=>omega
def Bf.calmE{safe:Bool}{nodes:Nat}{now:Int}{x:ActX}(r:Bf safe nodes now x H T H' T')(h:x.aX=12):Cy 4 H H'/\T'=T:=by
 cases r with
 |calm _ r=>exact⟨r,rfl⟩
 |a5 g|full g|get g|getE g|put g|putE g|ends g|drop g|dropE g|deliver g|lose g|twice g|none g|aD g|fail g|fix g|other g=>omega
def QtS.drop(s:QtS H G B)(c:Ir H i)(d:(H.tx i).aa=1):(H.drop i).2=H.a3 i/\QtS (H.drop i).2 G B:=by
 have e:H.drop i=(0,H.a3 i):=by
  unfold Hs.drop;rw[Z7 (Z5 c.1 c.2),show((i:Nat):Int).toNat=i by omega,Z7 (by rw[d];simp)]
 have f:H.m<=40:=Z4 s.w.m8;have h:Ag H (H.a3 i):=.cS (.a3 c.1 c.2 (eR d));rw[e];exact⟨rfl,s.h.aK h f,s.ei.a3 s.h.s s.h.a c.1 c.2 d,s.q.a3 s.h.s d,s.w.bz (.a3 H i) h.sm.m⟩
def QtS.a5(s:QtS H G B)(y:B<=999000)(A:H.m<=7)(v:G.rd (H.m+1)=[])(q:∀t,Ir H t->(H.tx t).aa≠1):Po H.a5 G (B+3) (H.m+1):=by
 have u:AX H H.a5:=⟨rfl,rfl,λ_ _=>.refl _,λ_=>rfl,λ_=>rfl,λ_=>rfl,rfl⟩
 have d:∀t,Ir H.a5 t->t≠H.m+1->Ir H t:=λt h g=>⟨h.1,by have:t<=H.m+1:=h.2;omega⟩
 refine⟨s.h.a5 y Z0 v,s.ei.a5,⟨⟨λk f=>s.q.hd k f,λt n=>?_,λt n c k f j x=>?_⟩,⟨Z0,Hi _⟩,by rw[q3q];rfl,λt z C=>?_⟩,⟨λk f=>by rw[u.cN];exact u.bX (s.w.bX k f),λk f=>by rw[u.cN];exact s.w.ne k f,s.w.n3,by show H.m+1<=8;omega⟩⟩;by_cases g:t=H.m+1;subst g;rw[q3q];decide;rw[UV H g];exact s.q.n2 t (d t n g);by_cases g:t=H.m+1;subst g;rw[q3q]at c;exact ZB c Z2;rw[UV H g]at c f;exact s.q.dn t (d t n g) c k f j x;rw[UV H Z0];exact q t ⟨z,Z0⟩
def Po.get(s:Po H G B i){x:Sx}(d:x∈names):(H.get i x).1.1=0/\∃D,Po (H.get i x).2 D B i:=by
 have c:H.m<=40:=Z4 s.w.m8;have q:Bt (1:Int):=by unfold Bt;omega
 obtain⟨A,z⟩:=s.e.aJ s.h s.ei c d q;have n:=P9 (id:=i) (mode:=1) s.h.a.wf s.h.a.c d q;have y:=s.ei.get s.h c i d;have u:(H.get i x).1.1=0:=by
  unfold Hs.get;simp only;rw[Z7 (by rw[A];simp)];split<;>rfl
 have C:=s.h.get c i d;have hs:(H.get i x).2=(H.aJ i x 1).2:=IJ H i x;have v:DW (H.get i x).2 i:=by rw[hs];exact z
 have h:BB (H.get i x).2:=by rw[hs];exact s.w.bz n.bz n.sm.m
 refine⟨u,?_⟩;generalize H.get i x=R at *;cases C with
 |bad g=>exact ZB u g
 |own _ _ _ _ _ f=>exact⟨G,f,y,v,h⟩
 |read _ _ _ _ _ f=>exact⟨_,f,y,v,h⟩
end
def kB:Sx:=[97]
def Fz:Pr:=⟨⟨#[97]⟩,⟨#[120]⟩,L1⟩
def FG(H H':Hs):Prop:=∀k q,H.head k≠Bs q->lg H' k q=lg H k q
def FG.refl(H:Hs):FG H H:=λ_ _ _=>rfl
def FG.same(h:∀k,(H'.sh k).nd=(H.sh k).nd):FG H H':=λk q _=>by unfold lg;rw[h]
def FG.trans{D:Hs}(h:FG A C)(k:FG C D)(d:∀s,C.head s=A.head s):FG A D:=λs q c=>(k s q (by rw[d];exact c)).trans (h s q c)
def IX(c:Cm)(b:Bool)(f:H.head s=Bs j):FG H (H.add s j c b).2:=λk q d=>by
 obtain e|e:=(IY H s j c b).1;rw[e];rw[e,Z7];rintro ⟨rfl,rfl⟩;exact d f
def F7(i:Nat)(kind:Int)(k:Nat):FG H (H.aC i kind k):=by
 cases c:H.head k with
 |none=>rw[J6 c];exact .refl H
 |some j=>
  rw[Jd c];split;exact IX _ _ c;exact .refl H
def FY(i:Nat)(kind:Int):∀(ks:List Nat)(H:Hs),FG H (telld H i kind ks)
 |[],H=>.refl H
 |k::ks,H=>(F7 i kind k).trans (FY i kind ks _) (λs=>(AX.aC H i kind k).head s)
def qbm(H:Hs)(i:Nat):FG H (H.a3 i):=by rw[I9];have c:AP H (reld (H.an i) i (H.tx i).ag):=(AP.ay H i _).trans (LV i _ _);exact(FG.same c.nd).trans (FY _ _ _ _) (λs=>PZ c.n (c.aq s) (λj=>by rw[c.nd];exact⟨rfl,rfl⟩))
def Ss.lgo(s:Ss H H'):FG H H':=by
 cases s with
 |a3=>exact qbm H _
 |tell=>exact F7 _ _ _
 |prep b f d h c=>exact IX _ b c
 |place=>exact .same (λ_=>rfl)
 |@av i=>exact .same (λk=>by rw[(FI H i).2.2.2.1])
 |decide b f d c=>exact IX _ b c
 |commit=>exact .same (λ_=>rfl)
def CP.lgo(s:CP H H'):FG H H':=by
 induction s with
 |refl=>exact .refl _
 |step h _ c=>exact h.lgo.trans c (λs=>h.cp.bz.head s)
def qds(i k:Nat)(x:Sx)(mode:Int):FG H (H.b7 i k x mode):=.same (λa=>by
 show(Af H.sh k _ a).nd=_;by_cases g:a=k;subst g;rw[Aq];rw[Ay g])
def Ps(o:Int):FG H (H.bc o):=by unfold Hs.bc;split;exact qbm H _;exact .refl H
def L5(o:Int)(s:Nat):(H.bc o).head s=H.head s:=by unfold Hs.bc;split;exact(AX.a3 H _).head s;rfl
def qbt:∀(l:List Int)(H:Hs),FG H (woundd H l)
 |[],H=>.refl H
 |o::l,H=>(Ps o).trans (qbt l (H.bc o)) (L5 o)
def Tu{k:Sx}{mode:Int}(u:k∈names)(A:Ir H i):FG H (H.aJ i k mode).2:=by
 obtain⟨n,f⟩:=A;have y:FG H (H.aA i (Aa k)):=.same (λ_=>rfl);by_cases hs:(H.tx i).aa=1;by_cases v:H.head (Aa k)=B0;rw[q4z n f hs (Ex u) v];exact .refl H;by_cases c:Rs H i (Aa k);rw[q41 n f hs (Ex u) v c];exact qbm H i;by_cases q:Cp (H.tx i).ak k=VD;rw[q3z n f hs (Ex u) v c q];exact y;have q:Cp (H.tx i).ak k=L1:=Z6 q;rw[q78 n f hs (Ex u) v c q];refine y.trans ?_ (λ_=>rfl);by_cases d:CF (Ad ((H.aA i (Aa k)).sh (Aa k)).tab k).ws i=VD;rw[q2z d];exact qds _ _ _ _;have d:CF (Ad ((H.aA i (Aa k)).sh (Aa k)).tab k).ws i=L1:=Z6 d;by_cases h:Ai (Ad ((H.aA i (Aa k)).sh (Aa k)).tab k).h i mode (Ad ((H.aA i (Aa k)).sh (Aa k)).tab k).ws=VD;rw[q3d d h];exact qds _ _ _ _;have h:Ai (Ad ((H.aA i (Aa k)).sh (Aa k)).tab k).h i mode (Ad ((H.aA i (Aa k)).sh (Aa k)).tab k).ws=L1:=Z6 h;by_cases z:(Ad ((H.aA i (Aa k)).sh (Aa k)).tab k).ws.length=50;rw[q3e d h z];exact qds _ _ _ _;rw[q2k d h z];have x:FG ((H.aA i (Aa k)).b7 i (Aa k) k mode) (((H.aA i (Aa k)).b7 i (Aa k) k mode).bq i k mode):=.same (λ_=>rfl);exact(qds i (Aa k) k mode).trans (x.trans (qbt _ _) (λ_=>rfl)) (λs=>(AX.b7 _ _ _ _ _).head s);rw[q40 n f hs];exact .refl H
def put_cfe(h:AA H G B){p:Pr}(d:sx p.key∈names)(i:Nat):AX H (H.put i p).2/\(H.put i p).2.m=H.m:=by have c:=P9 (id:=i) (mode:=2) h.a.wf h.a.c d (by unfold Bt;omega);unfold Hs.put;split;exact⟨.refl H,rfl⟩;simp only;split;exact⟨c.bz,c.sm.m⟩;split;exact⟨c.bz.trans (.ay _ _ _),c.sm.m⟩;exact⟨c.bz,c.sm.m⟩
def put_lgo(h:AA H G B){p:Pr}(d:sx p.key∈names)(n:Ir H i):FG H (H.put i p).2:=by have c:=Tu (mode:=2) d n;have f:=P9 (id:=i) (mode:=2) h.a.wf h.a.c d (by unfold Bt;omega);unfold Hs.put;split;exact .refl H;simp only;split;exact c;split;exact c.trans (.same (λ_=>rfl)) f.bz.head;exact c
def ML(s:Po H G B i)(h:B<=999000){p:Pr}(f:sx p.key∈names)(q:p.val.size<=40)(n:(H.tx i).ae=[]):((H.put i p).2.tx i).ae=[⟨p.key,if p.aR then⟨#[]⟩else p.val,p.aR⟩]:=by
 have x:=(s.put h f q).1;have u:=s.h.put h (Z4 s.w.m8) i f;generalize H.put i p=R at *;cases u with
 |bad d=>exact ZB x d
 |@ok c l H2 v _ _ _ hl _ _=>
  have e:c=i:=by omega
  subst e;rw[n]at hl;have hl:Bs [(⟨p.key,if p.aR then⟨#[]⟩else p.val,p.aR⟩:Pr)]=Bs l:=hl;injection hl with hl;rw[hl];show((H2.d7 c l).tx c).ae=l;rw[q9q]
structure HoA(H:Hs):Prop where
 s:Po H ⟨[],λ_=>[]⟩ 7 1
 wr:(H.tx 1).ae=[Fz]
 lo:∀k q,H.head k≠Bs q->lg H k q=[]
 n:H.n=2
 m:H.m=1
 two:∀k,k<3->∃q,Lv H k q/\H.head k≠Bs q
def IF:((BJ 2).a5.put 1 Fz).1=0/\HoA ((BJ 2).a5.put 1 Fz).2:=by
 obtain⟨X,D,N⟩:=q8w (n:=2) Z0;have R:=AA.b4 (n:=2) Z0;have S:=EI.b4 (n:=2) Z0 Z0;have z:=BB.b4 (n:=2) Z0 Z0;have d:∀t,¬Ir (BJ 2) t:=λt h=>by have:=h.1;have:=h.2;omega
 have J:QtS (BJ 2) ⟨[],λ_=>[]⟩ 1:=⟨R,S,⟨λk O e=>(by obtain⟨j,_,Q⟩:=z.head (s:=k) Z0;rw[Q]at e;injection e),λt f=>ZB f (d t),λt f=>ZB f (d t)⟩,z⟩
 have c:=J.a5 Z0 Z0 rfl (λt f=>ZB f (d t));rw[D]at c;have c:Po (BJ 2).a5 ⟨[],λ_=>[]⟩ 4 1:=c;have v:sx Fz.key∈names:=by decide
 have C:Fz.val.size<=40:=by decide
 obtain⟨L,K⟩:=c.put (p:=Fz) Z0 v C;have M:((BJ 2).a5.tx 1).ae=[]:=by
  have:(BJ 2).a5.tx 1=Ei:=by have:=q3q (BJ 2);rw[D]at this;exact this
  rw[this];rfl
 have I:=put_lgo c.h (p:=Fz) v c.e.ir;obtain⟨x,U⟩:=put_cfe c.h (p:=Fz) v 1;have pw:=ML c Z0 (p:=Fz) v C M;have A:=(q3p (n:=2) Z0 3 (Hi _)).1.lg;have E:=(q6k (n:=2) Z0 Z0 3 (Hi _)).1;rw[<- E5]at A E;have u:∀k q,q<2->Lv (BJ 2).a5 k q:=λk q y=>⟨by show q<(BJ 2).n;omega,E k _⟩
 show((BJ 2).a5.put ((1:Nat):Int) Fz).1=0/\HoA ((BJ 2).a5.put ((1:Nat):Int) Fz).2;refine⟨L,K,pw,λk q y=>?_,by rw[x.n];exact N,by rw[U];show(BJ 2).m+1=1;omega,λk O=>?_⟩;rw[x.head]at y;exact(I k q y).trans (A k q);by_cases g:((BJ 2).a5.put ((1:Nat):Int) Fz).2.head k=Bs 0;exact⟨1,x.lv.2 (u k 1 Z0),by rw[g];simp⟩;exact⟨0,x.lv.2 (u k 0 Z0),g⟩
structure HoB(H:Hs):Prop where
 s:EnS H ⟨[1],λ_=>[]⟩ 10 1
 wr:(H.tx 1).ae=[Fz]
 st:(H.tx 1).aa=2
 m:H.m=1
def HoA.ends{H H':Hs}(h:HoA H){e:Int}(r:FQ H 1 e H'):e=0/\HoB H':=by
 obtain⟨K,A,d⟩:=h.s.ends Z0 (i:=1) r;have n:(H.aB 1).m=1:=h.m;obtain⟨x,_⟩:=qbf h.s.h h.s.ei Z0 (Z4 h.m) h.s.e.ir h.s.e.s1 (h.s.e.c8 h.s.h.s h.s.ei.ca h.s.h.o);have ss:=(Qa A x).1;have u:(H'.tx 1).ae=[Fz]:=by rw[ss.aK.wr,(qbe H 1 1).1];exact h.wr
 have E:H'.m=1:=by rw[ss.aK.sm.m];exact n
 have d:EnS H' ⟨[1],λ_=>[]⟩ 10 1:=d;refine⟨K,d,u,?_,E⟩;obtain C|n2:=d.na;exfalso;have f:Ir H' 1:=⟨Z0,Z0⟩
 have M:=d.h.a.bT.ct 1 f.1 f.2 C;have y:=(d.h.s.wc 1 f).1 (sx Fz.key) (eR ⟨Fz,by rw[u];exact VB,rfl⟩);have I:=Cb y;obtain⟨q,D,z⟩:=h.two (Aa (sx Fz.key)) Z0;have L:AX H H':=(AX.ay H 1 _).trans ss.aK.bz;have v:=(d.h.s.tp 1 f Z0).2 _ y q (L.lv.2 D);have hl:lg H' (Aa (sx Fz.key)) q=[]:=(ss.lgo _ q z).trans (h.lo _ q z);rw[hl]at v;obtain⟨c,J,_⟩:=v;cases J;exact n2.1
def HoB.aa{H:Hs}(h:HoB H):H.aa 1=2:=by unfold Hs.aa;rw[Z7 (Z4 h.m)];exact h.st
def HoB.calm{H H':Hs}(h:HoB H)(N:H.net.l.length<=200)(r:Cy 4 H H'):H'.m=1/\Ac H' 10/\Ac H'.a5 13/\(H'.a5.get 2 kB).1=(0,[120],VD)/\Ac (H'.a5.get 2 kB).2 13/\(H'.a5.get 2 kB).2.aa 1=3/\(H'.a5.get 2 kB).2.aa 2=1:=by
 obtain⟨s3,_,_,_⟩:=h.s.calm N r;have q:=O1 h.s.h h.s.ei h.s.w N r;have J:=q89 r h.s.h.a.wf h.s.h.a.c;have z:H'.m=1:=by rw[J.sm.m];exact h.m
 have U:(H'.tx 1).ae=[Fz]:=by rw[J.wr];exact h.wr
 have b:=q.a5 Z0 Z0 rfl (λt M=>by
  have:=M.1;have:=M.2;obtain rfl:t=1:=by omega
  rw[s3];decide)
 rw[z]at b;have b:Po H'.a5 ⟨[1],λ_=>[]⟩ 13 2:=b;have n:H'.a5.tx 1=H'.tx 1:=UV H' Z0;have E:H'.a5.tx 2=Ei:=by have:=q3q H';rw[z]at this;exact this
 have f:kB∈names:=by decide
 obtain⟨I,_⟩:=b.get f;have Y:=b.h.get (Z4 b.w.m8) 2 f;have d:∀{K:Hs},Ag H'.a5 K->K.m=2/\(K.tx 1).aa=3/\(K.tx 1).ae=[Fz]:=λ{K} s=>⟨by rw[s.sm.m];show H'.m+1=2;omega,(Ac.aK s b.h.a).2.1.s3 1 Z0 (by show 1<=H'.m+1;omega) (by rw[n];exact s3),by rw[s.wr,n];exact U⟩
 refine⟨z,q.h.a,b.h.a,?_⟩;have I:(H'.a5.get 2 kB).1.1=0:=I;generalize H'.a5.get 2 kB=R at *;cases Y with
 |bad Z=>exact ZB I Z
 |@own i p K C _ _ _ y _ _=>
  exfalso;obtain rfl:i=2:=by omega
  rw[E]at y;cases y
 |@read i v K C hi hs S y O s=>
  obtain rfl:i=2:=by omega
  obtain⟨k1,L,Q⟩:=d s;have A:Ir K 2:=⟨Z0,Z0⟩
  have x:(Gh.more ⟨[1],λ_=>[]⟩ 2 kB v).rd 2=[]++[(kB,v)]:=by unfold Gh.more;simp
  have X:=(O.s.ri 2 A kB v (by rw[x];exact WW _ (VU.2 rfl))).1 hs;have u:Ba K [1] kB=v:=X;have D:FC K kB 1=Bs (Bs [120]):=by
   unfold FC;rw[Z8 L,Q];rfl
  have c:Ba K [1] kB=Bs [120]:=by
   show(FC K kB 1).getD B0=_;rw[D];rfl
  rw[<- u,c];refine⟨rfl,O.a,?_,?_⟩;show K.aa 1=3;unfold Hs.aa;rw[Z7 Z0];exact L;show K.aa 2=1;unfold Hs.aa;rw[Z7 Z0];exact hs
def HI.dz{own:Ah}{P:Av}{H:Hs}(h:HI w own P H):H.net.l.length<=200:=by obtain⟨v,c⟩:=h.hs;have:=c.nt.len;rw[<- c.cb];unfold AI;rw[V0];exact this
def TC:kB∈names:=by decide
def KP(w:D0):VX Tryz.prog 21 #[] w (I4 w):=by
 obtain⟨a6,I,ag⟩:=q8w (n:=2) Z0;have HN:=LH (show VX Tryz.prog 20 #[ZT eQ 2,ZT eQ 2] w (NewP 2 w)from GI (w:=w) 2 Z0 Z0);go_enter Tryz.func21,Tryz.ntmps21;go_wp2_with fail;refine HN.o.mono ?_;rintro e w1 ⟨P,own1,rfl,hI,N,hb,hg,O⟩;have K1:EO w w1 own1 P (BJ 2):=⟨hI,N,hb,O⟩
 have C:=LH (q8a K1.hi Z0);have ad:=LH K1;have ae:=LH a6;have a8:=LH I;unfold Ro at C;rw[I,show((0+1:Nat):Int)=1 from rfl]at C;clear I ag a6 HN hI N hb hg O K1;unfold pw at *;go_wp2_with fail;refine C.o.mono ?_;rintro e w2 ⟨rfl,b2,aw,Y,U⟩;have v:Ac (BJ 2).a5 4:=(ae.o.dp Z0 (Fw.a5 (by rw[a8.o];omega)) (D:=λ_=>True) (λ_ _ _ _=>trivial)).1;have K2:=ad.o.step Y U;have Q:({P with gt:=Af P.gt (0+1) b2} : Av).g=P.g:=rfl;generalize ({P with gt:=Af P.gt (0+1) b2} : Av)=P2 at *;have z:=LH (KO K2.hi v.wf K2.ns v.c 1 kB TC ⟨#[120]⟩ Z2 L1);rw[show(⟨⟨kB.toArray⟩,⟨#[120]⟩,L1⟩:Pr)=Fz from rfl]at z;have af:=IF;generalize (BJ 2).a5.put 1 Fz=R at *;obtain⟨c,hP⟩:=R;obtain⟨o1,oA⟩:=af;have o1:c=0:=o1;have oA:HoA hP:=oA;subst o1;have a7:=LH oA;clear oA;have ac:=LH K2;have ao:=LH v;unfold FP pw kB at z;rw[<- Q];clear C ae a8 ad Y U v K2 Q;go_wp2_with fail;refine z.o.mono ?_;rintro e w3 ⟨rfl,a2⟩;obtain⟨av,K3⟩:=ac.o.dE a2;have u:=a7.o.s.h.a;have HE:=LH (IP K3.hi u.wf u.c 1);have ab:=LH K3;have an:=LH u;unfold Fk pw at HE;clear z ac ao a2 K3 u;simp only[C0,Z8];go_wp2_with fail;refine HE.o.mono ?_;rintro e w4 ⟨er,H4,rfl,a3,a1⟩;obtain⟨rfl,hy⟩:=a7.o.ends a3;obtain⟨au,K4⟩:=ab.o.dE a1;have q:=hy.s.h.a;have HS:=LH (q45 K4.hi (Z4 q.wf.cr) 1);rw[hy.aa]at HS;have HC:=LH (qe5 K4.hi q.wf q.c);have K:=LH K4;have am:=LH q;have HY:=LH hy;unfold Pq pw at HC;unfold pw at HS;clear HE ab an a3 a1 hy K4 q;simp only[C0,Z8];go_wp2_with fail;refine HS.o.mono ?_;rintro e w4 ⟨rfl,rfl⟩;go_wp2_with fail;refine HC.o.mono ?_;rintro e w5 ⟨rfl,H5,a4,a0,_,_⟩;obtain⟨ah,a5,d,f,h,M,L⟩:=HY.o.calm K.o.hi.dz a4;obtain⟨ar,K5⟩:=K.o.dE a0;have C:=LH (q8a K5.hi Z0);have aa:=LH K5;have al:=LH a5;have aj:=LH f;have E:=LH (And.intro d h);have HT:=LH (show(H5.a5.get 2 [97]).2.aa 1=3/\(H5.a5.get 2 [97]).2.aa 2=1 from⟨M,L⟩);unfold Ro pw at C;rw[ah,show((1+1:Nat):Int)=2 from rfl]at C;clear HC HS K am HY a4 a0 K5 a5 d h f M L;go_wp2_with fail;refine C.o.mono ?_;rintro e w6 ⟨rfl,b6,aq,X,S⟩;have d:=E.o.1;have K6:=aa.o.step X S;have J:({P2 with gt:=Af P2.gt (1+1) b6} : Av).g=P2.g:=rfl;generalize ({P2 with gt:=Af P2.gt (1+1) b6} : Av)=P6 at *;have A:=LH (qdy K6.hi d.wf K6.ns d.c 2 kB TC);have a9:=LH K6;have ak:=LH d;unfold N7 pw kB at A;have f:=aj.o;unfold kB at f;rw[J,f]at A;have ai:=LH J;clear C al aa X S d K6 J f;go_wp2_with fail;refine A.o.mono ?_;rintro e w7 ⟨rfl,Z⟩;obtain⟨ap,K7⟩:=a9.o.dE Z;have h:Ac (H5.a5.get 2 [97]).2 13:=E.o.2;have y:=LH (q45 K7.hi (Z4 h.wf.cr) 1);have x:=LH (q45 K7.hi (Z4 h.wf.cr) 2);rw[HT.o.1]at y;rw[HT.o.2]at x;unfold pw at y x;rw[ai.o]at y x;have HF:=LH (show I4 w (ZY (ZX VD)) w7 from⟨rfl,K7.bl⟩);clear A a9 ak Z K7 h;simp only[C0,Z8];go_wp2_with fail;refine y.o.mono ?_;rintro e w7 ⟨rfl,rfl⟩;go_wp2_with fail;refine x.o.mono ?_;rintro e w7 ⟨rfl,rfl⟩;go_wp2_with fail;go_ret;exact HF.o
structure UC(nd:Nat)(Q:Hs->List Au->Int->Prop):Prop where
 a:∀H T i,Q H T i->Ac H (4+3*i)/\H.m=T.length/\T.length<=7
 z:Q (BJ nd) [] 0
 s:∀(H:Hs)(T:List Au)(i:Int)(x:ActX)(H':Hs)(T':List Au),Q H T i->0<=i/\i<=10000->Bf VD nd (i+1) x H T H' T'->Q H' (Bq H' (i+1) T') (i+1)
structure BgE(Q:Hs->List Au->Int->Prop)(W:D0)(r o k gS:Nat)(nd i:Nat)(own:Ah)(P:Av)(F:Nat->Prop)(H:Hs)(T:List Au)(B:Nat)(wr:D0):Prop where
 sy:Dg wr own P F gS r o k H T i VD nd B
 st:Q H T i
 B:B<=i
 nd:1<=nd/\nd<=3
 fr:Fr (λb=>W.heap.size<=b) W wr
 lo:∀b,own b≠B0\/F b->W.heap.size<=b
def BgRE(Q:Hs->List Au->Int->Prop)(W:D0)(r o k gS:Nat)(n nd:Nat)(v:S2)(wr:D0):Prop:=∃(i:Nat)(own:Ah)(P:Av)(F:Nat->Prop)(H:Hs)(T:List Au)(B:Nat),v=ZT eQ i/\i<=n/\BgE Q W r o k gS nd i own P F H T B wr
def UN(Q:Hs->List Au->Int->Prop)(W:D0)(r o k:Nat)(nd n:Nat)(e:Ending)(w':D0):Prop:=
 (120<n/\e=ZY (ZZ #[ZW B0,ZX VD])/\W=w')\/(n<=120/\∃(gS:Nat)(own:Ah)(P:Av)(F:Nat->Prop)(H:Hs)(T:List Au)(B:Nat),e=ZY (ZZ #[pw gS,ZX VD])/\BgE Q W r o k gS nd n own P F H T B w')
def BgE.dp{Q:Hs->List Au->Int->Prop}{o:Nat}{nd:Nat}{own:Ah}{P:Av}{H:Hs}{B:Nat}{own1:Ah}{x:ActX}(h:BgE Q W r o k s nd i own P F H T B w)(n:UC nd Q)(v:i<1000)
  (u:Dg w1 own1 P1 F1 s r o k A (Bq A ((i:Int)+1) T') ((i:Int)+1) VD nd j) (c:Hh w own F w1 own1 F1) (y:j<=B+1) (hM:Bf VD nd ((i:Int)+1) x H T A T') :
  BgE Q W r o k s nd (i+1) own1 P1 F1 A (Bq A ((i:Int)+1) T') j w1:=by
 have d:=n.s _ _ _ _ _ _ h.st Z0 hM;have hs:=h.fr.size;refine⟨u,d,Z4 h.B,h.nd,h.fr.trans' c.fr (λb _ e=>h.lo b e),λb q=>?_⟩;by_cases e:b<w.heap.size;refine h.lo b (q.imp (λf=>by rw[<- c.ext b e];exact f) (λf=>(c.F b f).elim id (λz=>Z0)));omega
def NM(Q:Hs->List Au->Int->Prop)(l:List ActX)(nodes:Int)(n cp:Nat)(A:Option Addr)(W:D0){o:Nat}(hr:Rd W W.heap.size 4 A n (l.flatMap q6a))(hl:l.length=n)(hv:∀x∈l,x.val.size<=VY)(J:NmI W r o k)(hq:∀nd,1<=nd->nd<=3->UC nd Q) :
  VX Tryz.prog 7 #[ZT eQ nodes,ZX VD,WK A n cp] W (UN Q W r o k (1+AZ nodes 3) n):=by
 have HR:=LH hr;have HV:=LH hv;have a7:=LH J;have Y:=LH (λw=>KP w);have X:=LH (q4j nodes 3 Z0 Z0 W);have ad:=On nodes (n:=3) Z0;clear hr hv J;generalize ae:1+AZ nodes 3=nd;have f:1<=nd/\nd<=3:=by omega
 have aa:IntKind.i64.wrap (1+(AZ nodes 3:Int))=nd:=by rw[V4 _ ⟨Z0,Z0⟩];omega
 go_enter Tryz.func7,Tryz.ntmps7;by_cases a5:120<n
 ·have hd:decide ((120:Int)<n)=VD:=ZA Z0;go_wp2_with fail;go_ret2;exact eR ⟨a5,rfl,rfl⟩
 have a9:decide ((120:Int)<n)=L1:=Z9 Z0;have HN:=LH (show VX Tryz.prog 20 #[ZT eQ 2,ZT eQ nd] W (NewP nd W)from GI (w:=W) nd Z0 Z0);have HQ:=LH (hq nd Z0 Z0);clear hq;go_wp2_with fail;refine X.o.mono ?_;rintro e w0 ⟨rfl,rfl⟩;go_wp2_with fail;refine HN.o.mono ?_;rintro e w1 ⟨P,own,rfl,hI,I,c,hg,K⟩;have HK:=LH (show EO W w1 own P (BJ nd)from⟨hI,I,c,K⟩);have HH:=LH (Y.o w1);unfold I4 at HH;clear HN X hI I c hg K;go_wp2_with fail;refine HH.o.mono ?_;rintro e C ⟨rfl,N⟩;have z:=LH (HK.o.below N);clear HK HH N;unfold pw at *;obtain⟨D,d⟩:∃D:D0,D=C.alloc (eT #[ZW (Bs ⟨P.g,0,B0⟩),WK B0 0 0,ZT eQ 0,ZX VD,ZT eQ nd] 37):=⟨_,rfl⟩
 have q:=LH (show BgRE Q W r o k C.heap.size n nd (ZT eQ 0) D from by
  have M:VI C.heap.size C D:=by rw[d];exact(VC _ _).alloc (Hi _) _
  have a0:Ae D C.heap.size 37 #[pw P.g,WK B0 0 0,ZT eQ 0,ZX VD,ZT eQ nd]:=by rw[d];exact Ae.b4 _ _ _
  have a1:=Dg.a5 (n:=0) z.o a7.o (nd:Int) M a0;have hK:=z.o;have a4:=hK.bl.size;refine⟨0,own,P,_,BJ nd,[],0,rfl,VG _,a1,HQ.o.z,Hi _,f,(Ef (hK.bl.trans (M.mono a4))).mono (λb c e=>e),λb c=>?_⟩;obtain c|c:=c;exact hK.lo b c;omega)
 clear z Y;go_wp2_with fail;rw[<- d];clear d;generalize C.heap.size=gS at *;go_loopw [11] (BgRE Q W r o k gS n nd) (λv _=>n-(intOf v).toNat)
 case atStart=>exact q.o
 clear q;obtain⟨i,own1,P1,F1,H,T,B,rfl,hi,h⟩:=hrel;by_cases af:(i:Int)<n
 ·have a2:i<n:=by omega
  have u:VI W.heap.size W wr:=h.fr.below (λb c=>c) (Hi _);obtain⟨g0,ab,x,hA,L,hx,k0,k1,k2,k3⟩:=(HR.o.below u).eO hl a2;have a3:g0<wr.heap.size:=VF L u.size;have Z:=HQ.o.a _ _ _ h.st;have y:=LH (qal h.sy Z.1 Z0 Z.2.1 Z.2.2 Z0 Z0 (Z4 h.B) f x (HV.o x (N2 hx)));have HL:=LH h;subst hA;unfold N0 SyP pw at y;clear h u hx Z;go_wp2_with fail;refine y.o.mono ?_;rintro e w4 ⟨rfl,E,P4,F4,H4,T4,a8,B4,S,O,rfl,U,T1,R,rfl⟩;have a6:=LH (show BgRE Q W r o k gS n nd (ZT eQ ((i+1:Nat):Int)) w4 from⟨i+1,E,P4,F4,H4,_,B4,rfl,Z0,HL.o.dp HQ.o Z0 S O U R⟩);have ac:IntKind.i64.wrap ((i:Int)+1)=((i+1:Nat):Int):=by rw[V4 _ ⟨Z0,Z0⟩];omega
  clear k0 k1 k2 k3 a3 L y S O U R HL;go_wp2_with fail;go_roundw;exact a6.o;simp[intOf];omega
 obtain rfl:i=n:=by omega
 have HF:=LH (show UN Q W r o k nd i (ZY (ZZ #[pw gS,ZX VD])) wr from eS ⟨Z0,gS,own1,P1,F1,H,T,B,rfl,h⟩);unfold pw at HF;clear h;go_wp2_with fail;go_ret2;exact HF.o
def Um(w:D0)(e:Ending)(w':D0):Prop:=e=ZY (ZX VD)/\VI w.heap.size w w'
structure Ep(W:D0)(r o k gS nd:Nat)(now:Int)(own:Ah)(P:Av)(F:Nat->Prop)(H:Hs)(T:List Au)(B:Nat)(wr:D0):Prop where
 sy:Dg wr own P F gS r o k H T now VD nd B
 fr:Fr (λb=>W.heap.size<=b) W wr
 lo:∀b,own b≠B0\/F b->W.heap.size<=b
section
variable {W wr w1:D0}{r o k gS nd:Nat}{now now1:Int}{own own1:Ah}{P P1:Av}{F F1:Nat->Prop}{H H1:Hs}{T T1:List Au}{B B1:Nat}
def Ep.step(h:Ep W r o k gS nd now own P F H T B wr)(n:Dg w1 own1 P1 F1 gS r o k H1 T1 now1 VD nd B1)(c:Hh wr own F w1 own1 F1):Ep W r o k gS nd now1 own1 P1 F1 H1 T1 B1 w1:=by have hs:=h.fr.size;refine⟨n,h.fr.trans' c.fr (λb _ e=>h.lo b e),λb f=>?_⟩;by_cases e:b<wr.heap.size;exact h.lo b (f.imp (λd=>by rw[<- c.ext b e];exact d) (λd=>(c.F b d).elim id (λq=>Z0)));omega
def Ep.bP(h:Ep W r o k gS nd now own P F H T B wr)(g:Cf P own H1 wr w1):∃own1,Ep W r o k gS nd now own1 P F H1 T B w1:=by obtain⟨own1,c,z⟩:=h.sy.dE g;exact⟨own1,h.step c z⟩
def Ep.below(h:Ep W r o k gS nd now own P F H T B wr)(d:VI wr.heap.size wr w1):Ep W r o k gS nd now own P F H T B w1:=by obtain⟨c,z⟩:=h.sy.below d;exact h.step c z
def Ep.fin(h:Ep W r o k gS nd now own P F H T B wr):VI W.heap.size W wr:=h.fr.below (λ_ c=>c) (Hi _)
def BgE.sts{Q:Hs->List Au->Int->Prop}(h:BgE Q W r o k gS nd i own P F H T B wr):Ep W r o k gS nd i own P F H T B wr:=⟨h.sy,h.fr,h.lo⟩
def Ep.m_len(h:Ep W r o k gS nd now own P F H T B wr)(n:H.m=T.length):∃V L,wr.cell? ⟨gS,0,B0⟩=Bs (pw P.g)/\wr.cell? ⟨gS,1,B0⟩=Bs V/\(∃A c,V=WK A H.m c)/\gS<wr.heap.size/\Ce wr gS P.g V L now VD nd B/\L.map (·.t)=T:=by
 obtain⟨V,L,f,d,a3,x,v,_,_,_,q⟩:=h.sy.cells;obtain⟨A,c,e,_,_⟩:=AM f.row;have u:L.length=H.m:=by rw[n,<- d,V0]
 exact⟨V,L,x,v,⟨A,c,by rw[e,u]⟩,q,f,d⟩
def Hs.ek{H:Hs}(h:i<H.m):H.aa ((i:Int)+1)=(H.tx (i+1)).aa:=by unfold Hs.aa;rw[Z7 Z0,show((i:Int)+1).toNat=i+1 by omega]
end
structure LC(H:Hs)(G:Gh)(T:List Au)(i:Int):Prop where
 u:StuI H G T i
 ei:EI H
def LC.dp{H H':Hs}{G:Gh}{T T':List Au}{i:Int}{nodes:Nat}{x:ActX}(h:LC H G T i)(f:0<=i/\i<=10000)(c:1<=nodes/\nodes<=9)(r:Bf VD nodes (i+1) x H T H' T'):∃d,LC H' d (Bq H' (i+1) T') (i+1):=by obtain⟨d,n⟩:=h.u.dp f r;exact⟨d,n,h.ei.mid h.u.eH Z0 h.u.sto.len h.u.m7 c r⟩
def QF(H:Hs)(T:List Au)(i:Int):Prop:=∃G,LC H G T i
def keepF(nd:Nat)(c:1<=nd)(f:nd<=3):UC nd QF:=by refine⟨λH T i ⟨G,h⟩=>⟨h.u.eH.a,h.u.sto.len,h.u.m7⟩,⟨_,⟨(AA.b4 (n:=nd) Z0).mono Z0,Bm.b4 (n:=nd) Z0,BH.nil,VG _⟩,EI.b4 c f⟩,λH T i x H' T' ⟨G,h⟩ d r=>h.dp d ⟨c,Z0⟩ r⟩
structure LaS(H:Hs)(G:Gh)(T:List Au)(B now:Int):Prop where
 q:QtS H G B
 st:Bm H G T now
 dk:BH T
section
variable {H H':Hs}{G:Gh}{T:List Au}{B now:Int}{i:Nat}
def LaS.drop(s:LaS H G T B now)(c:Ir H i)(d:(H.tx i).aa=1):LaS (H.drop i).2 G T B now:=by obtain⟨e,q⟩:=s.q.drop c d;refine⟨q,?_,s.dk⟩;rw[e];exact s.st.aK s.q.h.a (.cS (.a3 c.1 c.2 (eR d)))
def drop_tx(c:Ir H i)(d:(H.tx i).aa=1):(H.drop i).2.m=H.m/\∀t,((H.drop i).2.tx t).aa=if t=i then 4 else(H.tx t).aa:=by
 have e:H.drop i=(0,H.a3 i):=by
  unfold Hs.drop;rw[Z7 (Z5 c.1 c.2),show((i:Nat):Int).toNat=i by omega,Z7 (by rw[d];simp)]
 obtain⟨sm,_,f⟩:=Ik H i;rw[e];exact⟨sm.m,λt=>(f t).1⟩
structure LaE(H:Hs)(G:Gh)(T:List Au)(B now:Int)(i:Nat):Prop where
 s:Po H G B i
 st:Bm H G T now
 dk:BH T
def LaS.a5(s:LaS H G T B now){now':Int}(h:now<=now')(n:B<=999000)(q:T.length<=7)(d:∀t,Ir H t->(H.tx t).aa≠1):LaE H.a5 G (T++[⟨[],now',-1⟩]) (B+3) now' (H.m+1):=by refine⟨s.q.a5 n (Z4 s.st.len) (s.st.rd _ Z0) d,s.st.a5 s.q.h.s h,λt f o c=>?_⟩;obtain g|g:=ZD.1 f;exact s.dk t g o c;rw[VU.1 g]at c;cases c
def opL(x:Sx)(r:(Int×Sx×Bool)×Hs):Cv:=⟨1,⟨x.toArray⟩,⟨r.1.2.1.toArray⟩,r.1.2.2⟩
def LaE.get(s:LaE H G T B now i){x:Sx}(n:x∈names):(H.get i x).1.1=0/\∃Q,LaE (H.get i x).2 Q (Ch T i (opL x (H.get i x))) B now i:=by
 have d:H.m<=40:=Z4 s.s.w.m8;have J:Bt (1:Int):=by unfold Bt;omega
 obtain⟨S,N⟩:=s.s.e.aJ s.s.h s.s.ei d n J;have I:=P9 (id:=i) (mode:=1) s.s.h.a.wf s.s.h.a.c n J;have M:=s.s.ei.get s.s.h d i n;obtain⟨K,_⟩:=s.s.get n;have O:=s.s.h.get d i n;have y:=s.s.h.dt d i n;have hs:(H.get i x).2=(H.aJ i x 1).2:=IJ H i x;have L:DW (H.get i x).2 i:=by rw[hs];exact N
 have E:BB (H.get i x).2:=by rw[hs];exact s.s.w.bz I.bz I.sm.m
 have C:BH (Ch T i (opL x (H.get i x))):=s.dk.op _ ⟨by show x.toArray.size<=40;have:=Ex n;simp;omega,by show(H.get i x).1.2.1.toArray.size<=40;simp;exact y⟩;refine⟨K,?_⟩;unfold opL at C ⊢;generalize H.get i x=R at *;cases O with
 |bad g=>exact ZB K g
 |@own h p H2 A q _ u z D f=>
  obtain rfl:h=i:=by omega
  refine⟨G,⟨D,M,L,E⟩,s.st.op q f.sm.m (Ac.aK f s.s.h.a).2.1 rfl (λ_ _=>rfl) (λt _=>f.wr t) (λops c=>?_),C⟩;rw[u];exact c.own (s.s.h.s.wc h q).2 z
 |@read h v H2 A q _ u z D f=>
  obtain rfl:h=i:=by omega
  refine⟨_,⟨D,M,L,E⟩,s.st.op q f.sm.m (Ac.aK f s.s.h.a).2.1 rfl (λt e=>Z7 e) (λt _=>f.wr t) (λops c=>?_),C⟩;rw[u,show(G.more h x v).rd h=G.rd h++[(x,v)]from Z8 rfl];exact c.read z v
def LaE.ends(s:LaE H G T B now i)(d:B<=999000){e:Int}(r:FQ H i e H'):e=0/\EnS H' ⟨G.E++[i],G.rd⟩ (B+3) i/\Bm H' ⟨G.E++[i],G.rd⟩ T now:=by obtain⟨n,f,h⟩:=s.s.ends d r;have c:=s.s.h.dp d (.ends s.s.e.ir.1 s.s.e.ir.2 s.s.e.s1 (s.s.e.c8 s.s.h.s s.s.ei.ca s.s.h.o) (.refl _));exact⟨n,h,(s.st.ends s.s.h.s s.s.e.ir s.s.e.s1).aK c (q2g f c.wf c.c)⟩
def Bm.ec{l:Au}{now now2:Int}(h:Bm H G (T++[l]) now)(D:now<=now2)(z:(H.tx (T.length+1)).aa=3):Bm H G (T++[{l with a8:=now2}]) now2:=by
 have c:∀{i:Nat} {t:Au},(T++[{l with a8:=now2}])[i]? = Bs t->((T++[l])[i]? = Bs t/\i<T.length)\/((T++[l])[i]? = Bs l/\i=T.length/\t = {l with a8:=now2}):=λ{i t} e=>by
  by_cases g:i<T.length;rw[VZ g]at e ⊢;exact eR ⟨e,g⟩;have A:=(ZC.1 e).1;simp only[VJ,Wi,List.length_nil]at A;obtain rfl:i=T.length:=by omega
  simp only[Xv,Option.some.injEq]at e;exact eS ⟨Z3,rfl,e.symm⟩
 have f:∀{i:Nat} {t:Au},(T++[{l with a8:=now2}])[i]? = Bs t->t.ar<=now:=λ{i t} e=>by
  obtain⟨d,_⟩|⟨d,_,rfl⟩:=c e;exact h.fr i t d;exact h.fr i l d
 refine⟨by rw[h.len];simp,λi t e=>?_,h.rd,λi t e q=>?_,λi u t v e1 y q n x=>?_,λi t e=>Z4 (f e)⟩;obtain⟨d,_⟩|⟨d,_,rfl⟩:=c e;exact h.bh i t d;exact h.bh i l d;obtain⟨e,_⟩|⟨_,g,_⟩:=c e;exact h.lt i t e q;rw[g];exact z;have C:=f y;obtain⟨e1,_⟩|⟨_,_,rfl⟩:=c e1;obtain⟨d,_⟩|⟨d,_,rfl⟩:=c y;exact h.rt i u t v e1 d q n x;exact h.rt i u t l e1 d q n x;have n:now2<v.ar:=n;omega
def PC{l:Au}(d:(H.tx (T.length+1)).aa=3):Bn H (T++[l])=Bn H T++[l]:=by
 have e:E4 H (T.length+1)=E4 H T.length++[T.length]:=by
  unfold E4;rw[Ys,XZ];simp[d]
 unfold Bn;rw[VJ,show [l].length=1 from rfl,e,WQ];congr 1;refine XH (λi c=>?_);rw[VZ (qay.1 c).1];simp
end
def U6(W:D0)(own:Ah)(F:Nat->Prop)(b:Nat):Prop:=W.heap.size<=b/\own b=B0/\¬F b
structure LaM(W:D0)(own:Ah)(F:Nat->Prop)(e:Nat)(V:S2)(ops:List Cv)(fr til:Int)(wr:D0):Prop where
 al:Ae wr e 52 #[V,ZT eQ fr,ZT eQ til]
 row:wr.ownsRow 0 56 4 V ops.length (ops.flatMap SP)
 ob:U6 W own F e
 ov:∀b,V.ownBlock=Bs b->U6 W own F b
variable {wr:D0}{gS nd B1 e:Nat}{now1 til:Int}{own1:Ah}{H1:Hs}{T1:List Au}{ops:List Cv}
section
variable {B:Nat}
def Ep.aside{S:Nat->Prop}(h:Ep W r o k gS nd now own P F H T B wr)(z:0<W.heap.size)(y:r<W.heap.size)(n:Fr S wr w1)(u:∀b,b<wr.heap.size->S b->U6 W own F b):Ep W r o k gS nd now own P F H T B w1:=by have d:=n.mono u;have c:=h.sy;refine⟨⟨c.hi.fr0 d (λb f e=>f e.2.1),c.ns,?_,c.nm.fr d (λe=>Z4 e.1) (λe=>Z4 e.1),c.o0,c.or_,c.F0,λb f=>VF (c.Fl b f) n.size⟩,h.fr.trans' d (λb _ e=>e.1),h.lo⟩;obtain⟨V,L,x,v,q⟩:=c.st;exact⟨V,L,x.fr d (λb f e=>e.2.2 (q b f)),v,q⟩
def LaM.bP(m:LaM W own F e V ops fr til wr){Z:Tg->Prop}(z:HZ Z wr own w1 own1):LaM W own1 F e V ops fr til w1:=by
 have d:∀b,U6 W own F b->¬OS own Z b:=λb c e=>e.bR c.2.1
 have f:∀b,b<wr.heap.size->U6 W own F b->U6 W own1 F b:=λb c e=>⟨e.1,by rw[z.ext b c];exact e.2.1,e.2.2⟩
 exact⟨z.fr.al m.al (d e m.ob),z.fr.own m.row (λb c=>d b (m.ov b c)),f e m.al.lt m.ob,λb c=>f b (m.row.lt b c).2 (m.ov b c)⟩
def LaM.below(m:LaM W own F e V ops fr til wr)(c:VI wr.heap.size wr w1):LaM W own F e V ops fr til w1:=m.bP (Z:=λ_=>True) (HZ.below own c)
def LaM.cells(m:LaM W own F e V ops fr til wr):wr.cell? ⟨e,0,B0⟩=Bs V/\wr.cell? ⟨e,1,B0⟩=Bs (ZT eQ fr)/\wr.cell? ⟨e,2,B0⟩=Bs (ZT eQ til)/\e<wr.heap.size:=by have f:=m.al.cell 0;have d:=m.al.cell 1;have c:=m.al.cell 2;simp only[NW,Ft,List.getElem?_cons_succ]at f d c;exact⟨f,d,c,m.al.lt⟩
structure Fi(W:D0)(r o k gS nd:Nat)(now:Int)(own:Ah)(P:Av)(F:Nat->Prop)(H:Hs)(T:List Au)(B e:Nat)(V:S2)(ops:List Cv)(fr til:Int)(wr:D0):Prop where
 s:Ep W r o k gS nd now own P F H T B wr
 m:LaM W own F e V ops fr til wr
def Fi.bP(h:Fi W r o k gS nd now own P F H T B e V ops fr til wr)(g:Cf P own H1 wr w1):∃own1,Fi W r o k gS nd now own1 P F H1 T B e V ops fr til w1:=by obtain⟨own1,a,z⟩:=g;obtain⟨c,y⟩:=h.s.sy.bP a z rfl;exact⟨own1,h.s.step c y,h.m.bP z⟩
def Fi.below(h:Fi W r o k gS nd now own P F H T B e V ops fr til wr)(c:VI wr.heap.size wr w1):Fi W r o k gS nd now own P F H T B e V ops fr til w1:=⟨h.s.below c,h.m.below c⟩
def Fi.drew(h:Fi W r o k gS nd now own P F H T B e V ops fr til wr):Fi W r o k gS nd now own P F H T B e V ops fr til wr.drew:=h.below (VC _ _).drew
def Ep.dM(h:Ep W r o k gS nd now own P F H T B wr)(v:Int):∃n,Ep W r o k gS nd v own P n H T B (wr.setCell ⟨gS,2,B0⟩ (ZT eQ v))/\Fr (λb=>b=gS) wr (wr.setCell ⟨gS,2,B0⟩ (ZT eQ v))/\F gS/\∀b,n b->F b:=by obtain⟨V,L,y,x,d⟩:=h.sy.st;obtain⟨u,f⟩:=y.dM v;obtain⟨z,q⟩:=h.sy.d8 f (λb c e=>d b (eR e)) u x (λb c=>eR (d b c));exact⟨_,h.step z q,f,d gS (eR rfl),λb c=>c.elim id (d b)⟩
def Fi.dM(h:Fi W r o k gS nd now own P F H T B e V ops fr til wr)(v:Int):∃c,Fi W r o k gS nd v own P c H T B e V ops fr til (wr.setCell ⟨gS,2,B0⟩ (ZT eQ v)):=by
 obtain⟨c,z,n,u,y⟩:=h.s.dM v;have q:∀b,U6 W own F b->U6 W own c b:=λb e=>⟨e.1,e.2.1,λx=>e.2.2 (y b x)⟩
 have f:∀b,U6 W own F b->¬b=gS:=λb e x=>e.2.2 (by rw[x];exact u)
 exact⟨c,z,n.al h.m.al (f e h.m.ob),n.own h.m.row (λb d=>f b (h.m.ov b d)),q e h.m.ob,λb d=>q b (h.m.ov b d)⟩
def Ep.ec(h:Ep W r o k gS nd now own P F H T B wr)(fr:Int):Fi W r o k gS nd now own P F H T B wr.heap.size (WK B0 0 0) [] fr 0 (wr.alloc (eT #[WK B0 0 0,ZT eQ fr,ZT eQ 0] 52)):=by refine⟨h.below ((VC _ _).alloc (Hi _) _),Ae.b4 _ _ _,VW _ _ _ _,⟨h.fr.size,h.sy.hi.free (Hi _),λe=>Nat.lt_irrefl _ (h.sy.Fl _ e)⟩,λb c=>by cases c⟩
def Fi.push(h:Fi W r o k gS nd now own P F H T B e V ops fr til wr)(C:0<W.heap.size)(A:r<W.heap.size){op:Cv}(v:Am wr w1 V.ownBlock V'.ownBlock)(f:w1.ownsRow 0 56 4 V' (ops.length+1) (ops.flatMap SP++SP op)):Fi W r o k gS nd now own P F H T B e V' (ops++[op]) fr til (w1.setCell ⟨e,0,B0⟩ V'):=by
 have q:∀b,V.ownBlock=Bs b->b≠e:=λb d x=>Bh h.m.row h.m.al Z2 (by rw[d,x])
 have z:=v.1.al h.m.al (λx=>q e x.symm rfl);have n:∀b,V'.ownBlock=Bs b->b≠e:=λb d x=>by
  obtain c|⟨b',c,hl⟩:=v.2;exact q b (by rw[<- c];exact d) x;rw[d]at c;injection c with c;have:=h.m.al.lt;omega
 have u:=Fr.aL e w1 0 V';have y:Fr (U6 W own F) wr (w1.setCell ⟨e,0,B0⟩ V'):=(v.1.mono (λb _ x=>h.m.ov b x.symm)).trans' u (λb _ (x:b=e)=>by rw[x];exact h.m.ob);refine⟨h.s.aside C A y (λ_ _ x=>x),z.aZ 0 _,?_,h.m.ob,λb d=>?_⟩;have:=u.own f (λb d (x:b=e)=>n b d x);simpa [VJ,Wq]using this;obtain c|⟨b',c,hl⟩:=v.2;exact h.m.ov b (by rw[<- c];exact d);rw[d]at c;injection c with c;have D:=h.s.fr.size;exact⟨Z0,h.s.sy.hi.free Z0,λx=>Z4 (h.s.sy.Fl b x)⟩
def Fi.till(h:Fi W r o k gS nd now own P F H T B e V ops fr til wr)(q:0<W.heap.size)(f:r<W.heap.size)(v:Int):Fi W r o k gS nd now own P F H T B e V ops fr v (wr.setCell ⟨e,2,B0⟩ (ZT eQ v)):=by
 have d:∀b,V.ownBlock=Bs b->¬b=e:=λb n x=>Bh h.m.row h.m.al Z2 (by rw[n,x])
 have c:=Fr.aL e wr 2 (ZT eQ v);exact⟨h.s.aside q f c (λb _ (x:b=e)=>by rw[x];exact h.m.ob),h.m.al.aZ 2 _,c.own h.m.row d,h.m.ob,h.m.ov⟩
end
structure ToR(wr:D0)(T':List Au)(B base bb:Nat)(V VL:S2)(lS:List Cu)(ops:List Cv)(fr til:Int)(wX:D0):Prop where
 s:Fe wX base V lS B
 t:lS.map (·.t)=T'
 rd:Rd wX (bb+1) 3 (Bs ⟨bb,0,B0⟩) 1 [VL,ZT eQ fr,ZT eQ til]
 row:wX.ownsRow 0 56 4 VL ops.length (ops.flatMap SP)
 hb:VI wr.heap.size wr wX
 b1:wr.heap.size<=base
 b2:base<=wX.heap.size
def ToR.push{q:D0}{B base:Nat}{y:S2}{ops:List Cv}(h:ToR w T' B base K V y L ops fr tx W)(E:BH [⟨ops,fr,tx⟩])(J:ops.length<=B)(C:Am W q V.ownBlock V'.ownBlock)(v:q.ownsRow base 52 3 V' (L.length+1) (L.flatMap Ij++[y,ZT eQ fr,ZT eQ tx])) :
  Fe q base V' (L++[(⟨⟨ops,fr,tx⟩,y⟩:Cu)]) B/\(L++[(⟨⟨ops,fr,tx⟩,y⟩:Cu)]).map (·.t)=T'++[⟨ops,fr,tx⟩]/\VI w.heap.size w q:=by
 have c:∀{D:S2} {n:Nat} {xs:List S2},W.ownsRow 0 56 4 D n xs->q.ownsRow 0 56 4 D n xs:=λA=>C.1.own A (λb I e=>EX h.s.row A Z2 e.symm I)
 refine⟨⟨?_,λx d=>?_,λt f=>?_⟩,by rw[WQ,h.t];rfl,h.hb.trans (C.1.below (λb e=>VK h.b1 (h.s.row.lt b e.symm).1) h.hb.size)⟩;rw[VJ,Wq];exact v;obtain d|d:=ZD.1 d;exact⟨c (h.s.bh x d).1,(h.s.bh x d).2⟩;rw[VU.1 d];exact⟨c h.row,J⟩;rw[WQ]at f;obtain f|f:=ZD.1 f;exact h.s.dk t f;exact E t f
def Fe.more{w:D0}{d:Nat}{V:S2}{l:List Cu}{B B':Nat}(h:Fe w d V l B)(f:B<=B'):Fe w d V l B':=⟨h.row,λx c=>⟨(h.bh x c).1,Z4 ((h.bh x c).2)⟩,h.dk⟩
def NZ(T:List Au)(l:Au){m:Nat}(c:T.length+1=m)(o:Cv):Ch (T++[l]) (m:Int) o=T++[{l with bh:=l.bh++[o]}]:=by subst c;unfold Ch;rw[show((T.length+1:Nat):Int).toNat-1=T.length by omega,Xv];simp only;rw[Z8 Z0];simp
def Ec(W:D0)(r o k gS nd:Nat)(now:Int)(T:List Au)(B:Nat)(c:Int)(v:S2)(wr:D0):Prop:=∃(i:Nat)(own:Ah)(P:Av)(F:Nat->Prop)(H:Hs)(G:Gh),v=ZT eQ i/\i<=T.length/\Ep W r o k gS nd now own P F H T B wr/\LaS H G T c now/\∀t,1<=t->t<=i->(H.tx t).aa≠1
def Ec.next{o nd:Nat}{now:Int}{B:Nat}{own:Ah}{P:Av}{H:Hs}(f:Ep W r o k s nd now own P F H T B w)(h:LaS H G T c now)(d:∀t,1<=t->t<=i->(H.tx t).aa≠1)(u:i<T.length)(n:(H.tx (i+1)).aa≠1):Ec W r o k s nd now T B c (ZT eQ ((i+1:Nat):Int)) w:=
 ⟨i+1,own,P,F,H,G,rfl,Z0,f,h,λt q v=>by
  by_cases e:t=i+1;subst e;exact n;exact d t q Z0⟩
def Ec.drop{W:D0}{r o k gS nd:Nat}{now:Int}{T:List Au}{B:Nat}{q:Int}{i:Nat}{own:Ah}{P:Av}{F:Nat->Prop}{H:Hs}{G:Gh}{wr w1:D0}(x:Ep W r o k gS nd now own P F H T B wr)(h:LaS H G T q now)(u:∀t,1<=t->t<=i->(H.tx t).aa≠1)(v:i<T.length)(n:(H.tx (i+1)).aa=1)(g:Cf P own (H.drop ((i+1:Nat):Int)).2 wr w1):Ec W r o k gS nd now T B q (ZT eQ ((i+1:Nat):Int)) w1:=by
 have c:Ir H (i+1):=⟨Z0,Z4 h.st.len⟩
 obtain⟨own1,d⟩:=x.bP g;have f:=(drop_tx c n).2;refine Ec.next d (h.drop c n) (λt z y=>?_) v ?_;rw[f];split;decide;exact u t z y;rw[f,Z8 rfl];decide
def LC.fix{H:Hs}{i now:Int}{nodes:Nat}{x:ActX}(h:LC H G T i)(d:0<=i/\i<=10000)(c:x.aX=11)(r:Bf VD nodes now x H T H' T'):BB H':=
 (h.ei.dO h.u.eH Z0 (Z5 h.u.sto.len h.u.m7) (r.fixE c).1).2
def LC.calm{H:Hs}{i:Int}{nodes:Nat}{x:ActX}(h:LC H G T i)(w:BB H)(u:H.net.l.length<=200)(v:0<=i/\i<=10000)(d:1<=nodes/\nodes<=9)(n:x.aX=12)(r:Bf VD nodes (i+1) x H T H' T'):∃f,LaS H' f (Bq H' (i+1) T') (4+3*(i+1)) (i+1)/\(Bq H' (i+1) T').length<=7:=by obtain⟨f,c⟩:=h.dp v d r;have q:=O1 h.u.eH h.ei w u (r.calmE n).1;exact⟨f,⟨⟨c.u.eH,c.ei,q.q,q.w⟩,c.u.sto,c.u.dk⟩,c.u.m7⟩
def UB(W:D0)(r o k gS nd:Nat)(now:Int)(T:List Au)(B e m:Nat)(c:Int)(v:S2)(wr:D0):Prop:=∃(q:Nat)(own:Ah)(P:Av)(F:Nat->Prop)(H:Hs)(G:Gh)(V:S2)(ops:List Cv),v=ZT eQ q/\q<=4/\Fi W r o k gS nd now own P F H T B e V ops now 0 wr/\LaE H G (T++[⟨ops,now,-1⟩]) c now m/\ops.length<=q
def state_m{H:Hs}{m:Nat}(h:m<=H.m)(c:1<=m):H.aa (m:Int)=(H.tx m).aa:=by unfold Hs.aa;rw[Z7 Z0,show((m:Nat):Int).toNat=m by omega]
def qb5(l:List ActX)(nodes:Int)(n cp:Nat)(A:Option Addr)(W:D0){o:Nat}(hr:Rd W W.heap.size 4 A n (l.flatMap q6a))(hl:l.length=n)(hv:∀x∈l,x.val.size<=VY)(aR:NmI W r o k) :
  VX Tryz.prog 5 #[ZT eQ nodes,WK A n cp] W (Um W):=by
 have HB:=LH (NM QF l nodes n cp A W hr hl hv aR keepF);have ch:=On nodes (n:=3) Z0;have al:=aR;clear hr hv aR;generalize ci:1+AZ nodes 3=nd at *;have aI:1<=nd/\nd<=3:=by omega
 clear ci ch;go_enter Tryz.func5,Tryz.ntmps5;go_wp2_with fail;refine HB.o.mono ?_;rintro e w1 (⟨h1,rfl,rfl⟩|⟨h1,gS,own,P,F,H,T,B,rfl,Y⟩)
 ·clear HB;have HF:=LH (show Um W (ZY (ZX VD)) W from⟨rfl,VC _ _⟩);go_wp2_with fail;go_ret;exact HF.o
 obtain⟨G,hG⟩:=Y.st;have a7:=LH (qal Y.sy hG.u.eH.a Z0 hG.u.sto.len hG.u.m7 Z0 Z0 (Z4 Y.B) aI (⟨11,0,0,⟨#[]⟩⟩:ActX) (show(0:Nat)<=VY from VG _));have HL:=LH Y;have HG:=LH hG;clear HB Y hG;unfold N0 SyP pw at a7;unfold pw;go_wp2_with fail;refine a7.o.mono ?_;rintro e w2 ⟨rfl,cy,P2,F2,H2,T2,now2,B2,bS,bv,rfl,bT,T1,aY,rfl⟩;have bB:=HG.o.fix Z0 rfl aY;have ar:=HL.o.dp (keepF nd Z0 Z0) Z0 bS bv bT aY;clear a7 bS bv aY HL HG;generalize Bq H2 ((n:Int)+1) T1=T2 at *;obtain⟨G2,av⟩:=ar.st;have a7:=LH (qal ar.sy av.u.eH.a Z0 av.u.sto.len av.u.m7 Z0 Z0 (Z4 ar.B) aI (⟨12,0,0,⟨#[]⟩⟩:ActX) (show(0:Nat)<=VY from VG _));have aE:=LH ar;have cb:=LH av;have bX:=LH bB;clear ar av bB;unfold N0 SyP pw at a7;go_wp2_with fail;refine a7.o.mono ?_;rintro e w3 ⟨rfl,ah,P3,F3,H3,O,cz,B3,bR,bu,rfl,cs,T4,bK,rfl⟩;have a0:=aE.o.sy.hi.dz;have co:=cb.o.calm bX.o a0 Z0 Z0 rfl bK;have U:=aE.o.sts.step bR bu;have aO:B3<=1000:=Z4 aE.o.B;clear a7 bR bu bK aE cb bX a0 bT cs;generalize Bq H3 (((n+1:Nat):Int)+1) T4=O at *;obtain⟨G3,aD,ct⟩:=co;have bn:=aD.st.len;obtain⟨V3,L3,c0,c1,⟨A3,k3,rfl⟩,N,_,_⟩:=U.m_len bn;obtain⟨y,bJ,cF,cD⟩:∃y:Int,((n+1:Nat):Int)+1=y/\0<=y/\y<=20000:=⟨_,rfl,Z0,Z0⟩
 rw[bJ]at U aD;have bD:=al.lt0;have bA:=al.lt;have c8:=LH (show Ec W r o k gS nd y O B3 (4+3*y) (ZT eQ (0:Nat)) w3 from⟨0,ah,P3,F3,H3,G3,rfl,VG _,U,aD,λt h1 h2=>Z0⟩);clear U aD N bn bJ al;unfold pw at *;go_wp2_with fail;go_loopw [7] (Ec W r o k gS nd y O B3 (4+3*y)) (λv _=>O.length-(intOf v).toNat)
 case atStart=>exact c8.o
 clear c8;obtain⟨i,own,P,F,H,G,rfl,hi,hS,Y,hn⟩:=hrel;have hm:=Y.st.len;obtain⟨V,L,J,d1,⟨A4,k4,rfl⟩,N,_,_⟩:=hS.m_len hm;have HS:=LH hS;have HL:=LH Y;have HN:=LH hn;by_cases bo:(i:Int)<H.m
 ·have cl:i<H.m:=by omega
  have aA:IntKind.i64.wrap ((i:Int)+1)=((i+1:Nat):Int):=by rw[V4 _ ⟨Z0,Z0⟩];omega
  have a3:=LH (q45 hS.sy.hi Z0 ((i+1:Nat):Int));rw[show H.aa ((i+1:Nat):Int)=(H.tx (i+1)).aa from Hs.ek cl]at a3;have h2:=Y.q.q.n2 (i+1) ⟨Z0,Z0⟩;by_cases hs:(H.tx (i+1)).aa=1
  ·have b7:=LH (Lj hS.sy.hi Y.q.h.a.wf Y.q.h.a.c ((i+1:Nat):Int));have af:=LH (λ(w':D0) (g:Cf P own (H.drop ((i+1:Nat):Int)).2 wr w')=>Ec.drop hS Y hn Z0 hs g);rw[hs]at a3;unfold FP at b7;unfold pw at *;clear hS Y hn h2 hs;go_wp2_with fail;refine a3.o.mono ?_;rintro e w4 ⟨rfl,rfl⟩;go_wp2_with fail;refine b7.o.mono ?_;rintro e w4 ⟨rfl,au⟩;have ca:=LH (af.o _ au);clear au af b7;go_wp2_with fail;go_roundw;exact ca.o;simp[intOf];omega
  have af:=LH (Ec.next hS Y hn Z0 hs);have e1:((H.tx (i+1)).aa == 1)=L1:=Z6 hs;have e2:((H.tx (i+1)).aa == 2)=L1:=Z6 h2;have e3:decide ((H.tx (i+1)).aa=1)=L1:=Z9 hs;have e4:decide ((H.tx (i+1)).aa=2)=L1:=Z9 h2;unfold pw at *;clear hS Y hn;generalize (H.tx (i+1)).aa=st at *;clear hs h2;go_wp2_with fail;refine a3.o.mono ?_;rintro e w4 ⟨rfl,rfl⟩;go_wp2_with fail;go_roundw;exact af.o;simp[intOf];omega
 have bl:∀t,Ir H t->(H.tx t).aa≠1:=λt ht=>hn t ht.1 (Z4 ht.2)
 have bc:=LH (Y.a5 (now':=y+1) Z0 Z0 ct bl);obtain⟨V9,L9,aj,S,cr,_,_,b2,_,_,cu⟩:=hS.sy.cells;have f2:=aj.al.frozen 2;obtain⟨F2,bH,_,_,_⟩:=hS.dM (y+1);have c4:=LH bH;have aA:IntKind.i64.wrap (y+1)=y+1:=V4 _ ⟨Z0,Z0⟩;obtain⟨M,hM⟩:∃M,H.m+1=M:=⟨_,rfl⟩
 have aZ:O.length+1=M:=by omega
 have aN:H.m<60:=by omega
 have cq:=Y.dk;clear hS Y hn HS HL HN aj S cr bH bl;unfold pw at *;go_upto_region 15 with (fail)
 generalize bC:YB _ _ _=W1;have U:Ep W r o k gS nd (y+1) own P F2 H O B3 W1:=by rw[<- bC];exact c4.o
 clear c4 bC J d1 b2 f2 N cu bo hi;obtain⟨V8,L8,_,_,_,J,_,_,_,_,N⟩:=U.sy.cells;have b9:=LH (q8a U.sy.hi aN);have b4:=LH U;unfold Ro at b9;clear U;unfold pw at *;go_wp2_with fail;refine b9.o.mono ?_;rintro e w4 ⟨rfl,bb,ag,bM,bt⟩;obtain⟨bQ,bw⟩:=b4.o.sy.bP bM bt rfl;have aW:=b4.o.step bQ bw;clear bM bt bQ bw b9 b4 J N;generalize {P with gt:=Af P.gt (H.m+1) bb} = P4 at *;rw[hM]at bc ⊢;obtain⟨V7,L7,_,_,_,J,_,d2,_,_,N⟩:=aW.sy.cells;have bZ:=LH (aW.ec (y+1));clear aW;unfold pw at *;go_upto_region 17 with (fail)
 clear J d2 N;generalize ad:World.alloc _ _=W5;have bL:Fi W r o k gS nd (y+1) ag P4 F2 H.a5 O B3 w4.heap.size (WK B0 0 0) [] (y+1) 0 W5:=by rw[<- ad];exact bZ.o
 generalize w4.heap.size=E at *;have c6:=LH (show UB W r o k gS nd (y+1) O B3 E M (4+3*y+3) (ZT eQ (0:Nat)) W5 from⟨0,ag,P4,F2,H.a5,G,_,[],rfl,Z0,bL,bc.o,VG _⟩);clear bL bZ ad bc hM aN hm;go_wp2_with fail;go_loopw [11] (UB W r o k gS nd (y+1) O B3 E M (4+3*y+3)) (λv _=>4-(intOf v).toNat)
 case atStart=>exact c6.o
 clear c6;obtain⟨q,own,P,F,H,G,V,ops,rfl,hq,hW,hE,cA⟩:=hrel;by_cases bo:(q:Int)<4
 ·have ak:q<4:=by omega
  have aQ:names[q]? = Bs (names[q]'ak):=K0 ak;have am:names[q]'ak∈names:=Wy ak;generalize names[q]'ak=kx at *;have ab:=hW.drew;obtain⟨_,_,_,_,_,J,_,_,_,_,N⟩:=ab.s.sy.cells;obtain⟨n0,nq,az,ay⟩:=ab.s.sy.nm;have n1:=nq _ _ aQ;have m0:=hW.s.sy.nm.var;have b5:=LH (qdy ab.s.sy.hi hE.s.h.a.wf ab.s.sy.ns hE.s.h.a.c M kx am);obtain⟨bq,G',b0⟩:=hE.get am;rw[NZ O _ aZ]at b0;have aA:IntKind.i64.wrap ((q:Int)+1)=((q+1:Nat):Int):=by rw[V4 _ ⟨Z0,Z0⟩];omega
  have HW:=LH ab;have af:=LH aQ;unfold N7 at b5;generalize H.get M kx=R at *;obtain⟨⟨er,v,bf⟩,H2⟩:=R;simp only at bq;subst bq;have cf:=LH b0;clear hW hE ab nq aQ am b0;unfold pw at *;go_upto_region 22 with (fail)
  refine nW ?_;refine CR (λX=>X.cell? ⟨gS,0,B0⟩=Bs (ZW (Bs ⟨P.g,0,B0⟩))/\X.cell? ⟨0,0,B0⟩=Bs (WK (Bs ⟨r,o,B0⟩) 4 k)/\X.cell? ⟨r,o+q,B0⟩=Bs (ZV ⟨kx.toArray⟩)) 16 (λ_ _ _ _ _ h=>h) (λu=>?_);have c:wr.drew.cell? ⟨gS,0,B0⟩=Bs (ZW (Bs ⟨P.g,0,B0⟩))/\wr.drew.cell? ⟨0,0,B0⟩=Bs (WK (Bs ⟨r,o,B0⟩) 4 k)/\wr.drew.cell? ⟨r,o+q,B0⟩=Bs (ZV ⟨kx.toArray⟩):=⟨J,n0,n1⟩
  refine nD 0 [1,2,3,9,10,11,12,13,14,15,16] u c ?_;refine nD 1 [2,3,9,10,11,12,13,14,15,16] u c ?_;refine nD 2 [3,9,10,11,12,13,14,15,16] u c ?_;refine nA 3 [9,10,11,12,13,14,15,16] rfl rfl u c (λw' I=>by obtain⟨p0,p1,p2⟩:=I;go_simp;rfl) ?_;refine nD 4 [9,10,11,12,13,14,15,16] u c ?_;refine nA 5 [7,8,9,10,11,12,13,14,15,16] rfl rfl u c (λw' I=>by obtain⟨p0,p1,p2⟩:=I;go_simp;rfl) ?_;refine nD 6 [7,8,9,10,11,12,13,14,15,16] u c ?_;refine nG 7 (λz d=>?_);go_simp;refine d _ _ (λ_=>c) ?_;clear d z;refine nG 8 (λz d=>?_);go_simp;refine d _ _ (λ_=>c) ?_;clear d z;refine nG 9 (λz d=>?_);go_simp;refine b5.o.mono ?_;rintro e w3 ⟨rfl,bO⟩;obtain⟨ah,aC⟩:=HW.o.bP bO;clear c J n0 n1 az ay m0 N;obtain⟨_,_,_,_,_,J,_,_,_,_,N⟩:=aC.s.sy.cells;obtain⟨n0,nq,az,ay⟩:=aC.s.sy.nm;have n1:=nq _ _ af.o;unfold pw at J;have c:w3.cell? ⟨gS,0,B0⟩=Bs (ZW (Bs ⟨P.g,0,B0⟩))/\w3.cell? ⟨0,0,B0⟩=Bs (WK (Bs ⟨r,o,B0⟩) 4 k)/\w3.cell? ⟨r,o+q,B0⟩=Bs (ZV ⟨kx.toArray⟩):=⟨J,n0,n1⟩
  have a2:=LH aC;clear bO aC HW b5 nq;simp only[C0,Z8];go_simp;refine d _ _ (λ_=>c) ?_;clear d z;refine nG 10 (λz d=>?_);go_simp;refine d _ _ (λ_=>c) ?_;clear d z;refine nD 11 [14,15,16] u c ?_;refine nD 12 [15,16] u c ?_;refine nD 13 [16] u c ?_;refine nG 14 (λz d=>?_);go_simp;refine d _ _ (λ_=>c) ?_;clear d z;refine nG 15 (λz d=>?_);go_simp;refine d _ _ (λ_=>c) ?_;clear d z;refine nG 16 (λz d=>?_);go_simp;refine d _ _ nZ ?_;clear d z;refine nX ?_;clear u c;obtain⟨cv,c1,c2,ce⟩:=a2.o.m.cells;obtain⟨A5,c5,aT,_,_⟩:=AM a2.o.m.row;subst aT;have ax:=LH a2.o.m.row;go_upto_region 25 with (fail)
  refine nW ?_;refine CR (λX=>X.cell? ⟨E,0,B0⟩=Bs (WK A5 ops.length c5)/\X.cell? ⟨0,0,B0⟩=Bs (WK (Bs ⟨r,o,B0⟩) 4 k)/\X.cell? ⟨r,o+q,B0⟩=Bs (ZV ⟨kx.toArray⟩)) 10 (λ_ _ _ _ _ h=>h) (λu=>?_);have c:w3.drew.cell? ⟨E,0,B0⟩=Bs (WK A5 ops.length c5)/\w3.drew.cell? ⟨0,0,B0⟩=Bs (WK (Bs ⟨r,o,B0⟩) 4 k)/\w3.drew.cell? ⟨r,o+q,B0⟩=Bs (ZV ⟨kx.toArray⟩):=⟨cv,n0,n1⟩
  refine nD 0 [1,10,11,12] u c ?_;refine nA 1 [10,11,12] rfl rfl u c (λw' I=>by obtain⟨p0,p1,p2⟩:=I;go_simp;rfl) ?_;refine nA 2 [4,5,8,9,10,11,12] rfl rfl u c (λw' I=>by obtain⟨p0,p1,p2⟩:=I;go_simp;rfl) ?_;refine nD 3 [4,5,8,9,10,11,12] u c ?_;refine nD 4 [5,8,9,10,11,12] u c ?_;refine nA 5 [8,9,10,11,12] rfl rfl u c (λw' I=>by obtain⟨p0,p1,p2⟩:=I;go_simp;rfl) ?_;refine nD 6 [8,9,10,11,12] u c ?_;refine nD 7 [8,9,10,11,12] u c ?_;refine nD 8 [9,10,11,12] u c ?_;have Q:∀o q p,q<w3.heap.size->(w3.alloc o).cell? ⟨q,p,B0⟩=w3.cell? ⟨q,p,B0⟩:=λo q p hq=>World.cell?_alloc_lt w3 o ⟨q,p,B0⟩ hq
  refine nG 9 (λz d=>?_);go_simp;refine d _ _ (λ_=>⟨(Q _ _ _ ce).trans cv,(Q _ _ _ az).trans n0,(Q _ _ _ ay).trans n1⟩) ?_;clear d z c Q;refine nG 10 (λz d=>?_);refine SX w3.drew w3.heap.size rfl _ (.tmp 104) (.tmp 112) 50 rfl 0 56 _ 4 48 Tryz.underlying50 If rfl Z2 _ _ _ #[ZT eQ 1,ZV ⟨kx.toArray⟩,ZV ⟨v.toArray⟩,ZX bf] rfl ax.o 1 rfl _ rfl rfl (by simp[Wx]) Zx Z0 (VG _) ?_;intro V6 w6 D K;have an:Am w3 w6 (WK A5 ops.length c5).ownBlock V6.ownBlock:=⟨⟨K.1.os,K.1.tape,K.1.output,K.1.size,K.1.block⟩,K.2⟩
  have bI:=a2.o.push bD bA (op:=opL kx ((0,v,bf),H2)) an D;have c9:=LH (show UB W r o k gS nd (y+1) O B3 E M (4+3*y+3) (ZT eQ ((q+1:Nat):Int)) (w6.setCell ⟨E,0,B0⟩ V6)from⟨q+1,ah,P,F,H2,G',V6,_,rfl,Z0,bI,cf.o,by rw[VJ];show ops.length+1<=q+1;omega⟩);have a6:=an.1.al a2.o.m.al (λe=>Bh a2.o.m.row a2.o.m.al Z2 e.symm);have v6:=a6.cell 0;simp only[NW,Ft]at v6;have f6:=a6.frozen 0;have l6:=a6.lt;obtain⟨A7,c7,cn,_,_⟩:=AM D;subst cn;clear K an D bI a6 ax a2 cf cv c1 c2 ce J n0 n1 az ay N;go_simp;refine d _ _ nZ ?_;clear d z;refine nG 11 (λz d=>?_);go_simp;refine d _ _ nZ ?_;clear d z;refine nG 12 (λz d=>?_);go_simp;refine d _ _ nZ ?_;clear d z;refine nX ?_;clear u;go_wp2_with fail;go_roundw;exact c9.o;simp[intOf];omega
 obtain rfl:q=4:=by omega
 obtain⟨_,_,_,_,_,J,_,_,_,_,N⟩:=hW.s.sy.cells;have m0:=hW.s.sy.nm.var;have b6:=LH (IP hW.s.sy.hi hE.s.h.a.wf hE.s.h.a.c M);have HW:=LH hW;have HE:=LH hE;unfold Fk at b6;unfold pw at *;clear hW hE;go_wp2_with fail;refine b6.o.mono ?_;rintro e w4 ⟨er,H4,rfl,hR,au⟩;obtain⟨rfl,hN,bF⟩:=HE.o.ends Z0 hR;obtain⟨ag,ap⟩:=HW.o.bP au;clear J N m0;obtain⟨_,_,_,_,_,J,_,_,_,_,N⟩:=ap.s.sy.cells;have b8:=LH (qe5 ap.s.sy.hi hN.h.a.wf hN.h.a.c);have a0:=ap.s.sy.hi.dz;have HN:=LH hN;have bY:=LH bF;have bW:=LH ap;have cc:=LH HE.o.dk;unfold Pq at b8;unfold pw at *;clear hR au ap hN bF b6 HW HE;simp only[C0,Z8];go_wp2_with fail;refine b8.o.mono ?_;rintro e w5 ⟨rfl,H5,aX,bN,aG,bi⟩;obtain⟨h3,a4,aK,bg⟩:=HN.o.calm a0 aX;have ai:=bY.o.aK HN.o.h.a (q89 aX HN.o.h.a.wf HN.o.h.a.c);obtain⟨aF,ad⟩:=bW.o.bP bN;have b1:(H5.tx (O.length+1)).aa=3:=by rw[aZ];exact h3
 have aU:=JA a4.s (ai.ec (now2:=y+1+1) Z0 b1);rw[PC b1]at aU;have aM:(DF (Bn H5 O++[(⟨ops,y+1,y+1+1⟩:Au)]) (Bn H5 O++[(⟨ops,y+1,y+1+1⟩:Au)]).length [] Mp.empty).isSome=VD:=aU;have cw:=LH aM;have cg:=LH (Hb aK.ne);have cC:H5.m=M:=by have:=ai.len;rw[VJ]at this;exact this.trans aZ
 have aP:=LH (show H5.aa (M:Int)=3 from(state_m Z0 Z0).trans h3);have bU:=LH aG;have cm:=a4.a.c;have bP:BH [(⟨ops,y+1,y+1+1⟩:Au)]:=λt ht o ho=>cc.o ⟨ops,y+1,-1⟩ (WW _ (VU.2 rfl)) o (by rw[VU.1 ht]at ho;exact ho)
 have cx:=LH bP;clear J N aX bN aG bi a4 aK bg ai aU aM h3 b1 HN bY bW b8 cc bP a0;obtain⟨_,_,aj,_,_,J,_,b2,_,_,N⟩:=ad.s.sy.cells;have f2:=aj.al.frozen 2;obtain⟨F6,a1⟩:=ad.dM (y+1+1);have bV:=LH a1;have aA:IntKind.i64.wrap (y+1+1)=y+1+1:=V4 _ ⟨Z0,Z0⟩;clear aj ad a1;unfold pw at *;go_upto_region 30 with (fail)
 generalize bz:YB _ _ _=W6;have a1:Fi W r o k gS nd (y+1+1) aF P F6 H5 O B3 E V ops (y+1) 0 W6:=by rw[<- bz];exact bV.o
 clear bV bz J b2 f2 N aA;obtain⟨_,_,_,_,_,J,_,b2,_,_,N⟩:=a1.s.sy.cells;obtain⟨_,_,c2,ce⟩:=a1.m.cells;have f2:=a1.m.al.frozen 2;have aw:=LH (a1.till bD bA (y+1+1));clear a1;unfold pw at *;go_upto_region 31 with (fail)
 generalize bx:YB _ _ _=W7;have ao:Fi W r o k gS nd (y+1+1) aF P F6 H5 O B3 E V ops (y+1) (y+1+1) W7:=by rw[<- bx];exact aw.o
 clear aw bx J b2 f2 N c2 ce;obtain⟨_,_,_,_,_,J,_,_,_,_,N⟩:=ao.s.sy.cells;have a3:=LH (q45 ao.s.sy.hi Z0 M);have bd:=LH (Rl ao.s.sy.hi bU.o cm);rw[aP.o]at a3;rw[cg.o]at bd;have aw:=LH ao;unfold pw at *;clear ao bU cg aP;go_wp2_with fail;refine a3.o.mono ?_;rintro e Z ⟨rfl,rfl⟩;go_wp2_with fail;refine bd.o.mono ?_;rintro e Z ⟨rfl,br⟩;have ac:=aw.o.below br;clear br aw a3 bd J N;obtain⟨A5,c5,aT,_,_⟩:=AM ac.m.row;subst aT;obtain⟨c0,c1,c2,ce⟩:=ac.m.cells;have b3:=LH (λ(X:D0) (hb:VI Z.heap.size Z X)=>Sa (ac.s.below hb).sy Z0 Z0 Z0 cq);have a8:=LH (λ(X:D0) (hb:VI Z.heap.size Z X)=>(⟨(hb.cell ce).trans c0,(hb.cell ce).trans c1,(hb.cell ce).trans c2⟩:X.cell? ⟨E,0,B0⟩=Bs (WK A5 ops.length c5)/\X.cell? ⟨E,1,B0⟩=Bs (ZT eQ (y+1))/\X.cell? ⟨E,2,B0⟩=Bs (ZT eQ (y+1+1))));have ax:=LH (λ(X:D0) (hb:VI Z.heap.size Z X)=>Jc ac.m.row hb);have cd:=LH ac.s.fin;have bE:(Bn H5 O).length<=7:=by
  rw[JB];unfold E4;exact VK (WC _ _) Zz
 clear ac;unfold Un pw at b3;go_upto_region 33 with (fail)
 refine nW ?_;refine CR (λX=>X.cell? ⟨E,0,B0⟩=Bs (WK A5 ops.length c5)/\X.cell? ⟨E,1,B0⟩=Bs (ZT eQ (y+1))/\X.cell? ⟨E,2,B0⟩=Bs (ZT eQ (y+1+1))) 10 (λ_ _ _ _ _ h=>h) (λu=>?_);have c:=a8.o Z.drew (VC _ _).drew;refine nD 0 [1,4,5,6,7,8,9,10] u c ?_;refine nA 2 [3,4,5,6,7,8,9,10] rfl rfl u c (λw' I=>by obtain⟨p0,p1,p2⟩:=I;go_simp;rfl) ?_;clear c c0 c1 c2;refine ntwo 1 3 Z1 rfl rfl Z1 Z1 (λz d=>?_) (λz d=>?_);go_simp;refine(b3.o Z.drew (VC _ _).drew).mono ?_;rintro e w9 ⟨VT,lS,rfl,aq,S,a5⟩;have C:VI Z.heap.size Z w9:=(VC _ _).drew.trans a5;go_simp;refine d _ _ (λ_=>a8.o _ C) ?_;clear d z;refine nG 3 (λz d=>?_);go_simp;have aB:∀ob,VI Z.heap.size Z (w9.alloc ob):=λob=>C.alloc C.size ob
 refine d _ _ (λ_=>a8.o _ (aB _)) ?_;clear d z;have ae:=LH (ToR.mk (aq.more aO |>.below ((VC _ _).alloc (Hi _) (eT #[WK A5 ops.length c5,ZT eQ (y+1),ZT eQ (y+1+1)] 52))) S (Rd.lit w9 #[WK A5 ops.length c5,ZT eQ (y+1),ZT eQ (y+1+1)] 52 1 3 rfl) (ax.o _ (aB _)) (aB _) (Hi _) (by simp;have:=C.size;exact Nat.le_succ_of_le this));have cj:lS.length<=7:=by rw[<- V0 (f:=(·.t)),S];exact bE
 clear aq S a5 C aB
 rotate_left
 go_simp;have aa:∀ob,VI Z.heap.size Z (Z.drew.alloc ob):=λob=>(VC _ _).drew.alloc (Hi _) ob
 refine d _ _ (λ_=>a8.o _ (aa _)) ?_;clear d z;refine nG 1 (λz d=>?_);go_simp;refine(b3.o _ (aa _)).mono ?_;rintro e w9 ⟨VT,lS,rfl,aq,S,a5⟩;have C:=(aa _).trans (a5.mono (aa _).size);go_simp;refine d _ _ (λ_=>a8.o _ C) ?_;clear d z;have ae:=LH (ToR.mk (aq.more aO) S ((Rd.lit Z.drew #[WK A5 ops.length c5,ZT eQ (y+1),ZT eQ (y+1+1)] 52 1 3 rfl).below (a5.mono Z3)) (ax.o _ C) C (aa _).size a5.size);have cj:lS.length<=7:=by rw[<- V0 (f:=(·.t)),S];exact bE
 clear aq S a5 C aa
 all_goals
  refine nG 4 (λz d=>?_);refine q2m _ (.tmp 156) (.tmp 158) 29 rfl _ 52 _ 3 40 Tryz.underlying29 qd9 rfl Z2 _ _ _ rfl ae.o.s.row _ _ 1 _ _ rfl ae.o.rd.bB (by simp[Wx]) Zx Z0 ae.o.b2 ?_;intro V6 w6 D K;obtain⟨bG,aV,a6⟩:=ae.o.push cx.o Z0 K D;obtain⟨A2,c2,L',aJ,rfl,bk,bh,bm⟩:=bG.bB;have e1:L'.length=(Bn H5 O++[(⟨ops,y+1,y+1+1⟩:Au)]).length:=by rw[aJ,<- V0 (f:=(·.t)),aV]
  have bp:L'.length<=8:=by rw[e1,VJ];show(Bn H5 O).length+1<=8;omega
  have a9:=LH (J1 L' w6.heap.size L'.length c2 A2 w6 bk (Hi _) bp bm);have aH:(Cn (Aj L') L'.length []).isSome=VD:=by
   have e2:Aj L'=Bn H5 O++[(⟨ops,y+1,y+1+1⟩:Au)]:=by rw[bh,aV]
   rw[e2,e1,<- JZ];exact cw.o
  unfold q7f at a9;rw[aH]at a9;have ba:=LH a6;clear bG aV bk bh bm e1 bp aH aJ D K ae a6;go_simp;refine d _ _ (λ_=>a8.o _ ba.o) ?_;clear d z;refine nG 5 (λz d=>?_);go_simp;refine a9.o.mono ?_;rintro e be ⟨A3,k3,c3,rfl,ck,bj,aL⟩;have aS:=ba.o.trans (aL.mono ba.o.size);have HF:=LH (show Um W (ZY (ZX VD)) be from⟨rfl,cd.o.trans (aS.mono cd.o.size)⟩);have c:=a8.o be aS;clear a9 ck bj aL aS;go_simp;refine d _ _ (λ_=>c) ?_;clear d z;refine nG 6 (λz d=>?_);go_simp;refine d _ _ (λ_=>c) ?_;clear d z;refine nD 7 [9,10] u c ?_;refine nD 8 [10] u c ?_;refine nG 9 (λz d=>?_);go_simp;refine d _ _ (λ_=>c) ?_;clear d z;refine nG 10 (λz d=>?_);go_simp;refine d _ _ nZ ?_;clear d z;refine nX ?_;clear u c;go_wp2_with fail;go_ret;exact HF.o
section
open Go.RowKit Go.WideShapes Go.ChangeShapes
section
variable {H:Type}{enc:VR×S2->H}{P:Program}
def qdn{f:Func}{s:ChangeSpec}{C:Bool}{args:Array S2}{L gs:List (YI H)}{c:List Zf}
  (N:DataW.Whole enc P f.params.toList s.vars u W args.toList L gs c)
  (y:∀(b:Nat)(A:Nat->Bool)(S:Bool),YP enc P w b A S f.resultTypes.toList (v.resultList f.resultTypes.size) (s.fn H (L++gs)).results [])
  (n:∀A:Nat->Bool,(∀p∈c,A p.block=VD)->YP enc P w 0 A VD f.params.toList args.toList (s.fn H (L++gs)).args pa)
  (d:∀A:Nat->Bool,(∀p∈c,A p.block=VD)->DataW.TrodVars enc P w A s.vars (s.fn H (L++gs)).vars pv)
  (x:c=pa++pv) (O:VI W.heap.size W w)
  (M:∀(j:Nat)(t:VR)(r:S2),f.resultTypes[j]? = Bs t->(v.resultList f.resultTypes.size)[j]? = Bs r->Value.okWide P w .any 0 t r) :
  s.post enc P f u C q D W args v w:=by
 have J:∀p∈c,p.block<W.heap.size:=λp h=>N.lt p h
 have z:∀p∈c,(λb=>decide (b<W.heap.size)) p.block=VD:=λp h=>Z6 (J p h)
 refine⟨L,gs,c,[],pa,pv,N,y _ _ _,n _ z,d _ z,World.keptBut_mono (λp h=>⟨h,?_⟩) (O.frame (·∈c)),λ_=>?_⟩;rw[x,List.mem_append]at h;exact Or.inr h;obtain⟨_,_,_,_,_,Q,R⟩:=N;refine⟨M,_,_,([]++pa)++pv,⟨[]++pa,pv,trodAll_append (n _ (λ_ _=>rfl)) (y _ _ _),d _ (λ_ _=>rfl),rfl,?_,?_⟩,?_⟩;intro b I h;have K:MemPlace.cell b I∈c:=by rw[x];simpa using h
 rw[O.frozen (J _ K)];exact Q b I K;intro U;have:=R U;rw[x]at this;simpa using this;intro p h _;rw[x];simpa using h
end
end
section
open Go.ChangeShapes Go.WideShapes Go.ChangeAt Go.RowKit Go.Deep
section
variable {H:Type}{enc:VR×S2->H}{P:Program}
def q7h(hl:laidOutB P=VD){W y:D0}{u:Nat->Bool} : ∀(ts:List VR) (c:List S2) (n:List (YI H)) (ps:List Zf),(∀t∈ts,P.readableRec t=VD/\t<P.types.size)->
  YP enc P W 0 (λ_=>VD) VD ts c n ps->(∀p∈ps,W.sameAt y p)->(∀p∈ps,u p.block=VD)->YP enc P y 0 u VD ts c n ps
 |[],c,n,ps,_,h,_,_=>by
  cases c<;>cases n<;>simp_all [YP]
 |t::ts,[],n,ps,_,h,_,_=>by simp[YP]at h
 |t::ts,v::c,[],ps,_,h,_,_=>by simp[YP]at h
 |t::ts,v::c,d::n,ps,hr,h,hsame,hs=>by
  obtain⟨p,q,E,D,rfl⟩:=h;obtain⟨A,z⟩:=hr t (VB ..);exact⟨p,q,WideElems.Trod_stays hl A z E (λx f=>hsame x (VM _ f)) (λx f=>hs x (VM _ f)),
   q7h hl ts c n q (λt C=>hr t (VE _ C)) D (λx f=>hsame x (WW _ f)) (λx f=>hs x (WW _ f)),rfl⟩
def close_law{f:Func}{s:ChangeSpec}{v d y:Bool}{N:D0}{args:Array S2}{J gs:List (YI H)}{n:List Zf} 
  (hl:laidOutB P=VD) (O:∀t∈f.params.toList,P.readableRec t=VD/\t<P.types.size) (C:f.resultTypes=#[tb]) (A:P.underlying tb=Bs .bool) (z:s.vars=[])
  (L:DataW.Whole enc P f.params.toList s.vars h W args.toList J gs n) (c:s.fn H (J++gs) = {results:=[.lit (.bool VD)],args:=J}) (K:VI W.heap.size W N) :
  s.post enc P f h v d y W args (ZX VD) N:=by
 have u:=L;obtain⟨p,q,S,M,rfl,R,Q⟩:=L;rw[z]at M;obtain⟨rfl,rfl⟩:=trodVars_none M;simp only[WB]at u c;have I:∀x∈p,x.block<W.heap.size:=λx D=>u.lt x D
 refine qdn (pa:=p) (pv:=[]) u (λ_ _ _=>?_) (λU E=>?_) (λ_ _=>?_) Z3 K (ok_one C rfl (okWide_bool_mk A _));rw[C];simp only[WB,c];exact trodAll_cons_mk (shut_bool A _) trodAll_mk0;simp only[WB,c];exact q7h hl _ _ _ _ O S (λx D=>K.same (I x D)) E;rw[z];simp only[WB,c];rfl
end
def Vo{H:Type}{d:YI H}{l:List (YI H)}(h:d∈l):Rows.uptoBulk d<=Rows.uptoBulkAll l:=by
 induction l with
 |nil=>cases h
 |cons x r c=>
  simp only[Rows.uptoBulkAll];obtain e|e:=ZF.1 h;subst e;omega;have:=c e;omega
def R7{H:Type}(l r:List (YI H)):Rows.uptoBulkAll l<=Rows.uptoBulk (DataW.slice l r):=by simp only[Rows.uptoBulk];omega
def qa7{g o:Nat}{c:Option Nat}(h:w.cell? ⟨g,o,c⟩=Bs v):c=B0:=by obtain _|c:=c;rfl;unfold World.cell? at h;split at h;simp at h;cases h
def q7e{a:Addr}(h:w.cell? (a.add k)=Bs v)(g o:Nat)(d:Option Nat)(n:a=⟨g,o,d⟩):w.cell? ⟨g,o+k,B0⟩=Bs v/\g<w.heap.size:=by subst n;have c:=V5 w _ h;rw[IS]at c;refine⟨?_,c⟩;unfold Addr.add at h;split at h;rename_i f;subst f;have:=qa7 h;subst this;exact h;exact h
section
variable {H:Type}{enc:VR×S2->H}{W:D0}
def TM{α:Type}(size:Nat)(c:α->List S2)(n:∀x,(c x).length=size)(Q:α->Prop)(g o:Nat):∀m:Nat,(∀i,i<m->∃x,Q x/\∀j u,(c x)[j]? = Bs u->W.cell? ⟨g,o+(i*size+j),B0⟩=Bs u)->
  ∃l:List α,l.length=m/\(∀x∈l,Q x)/\∀j u,(l.flatMap c)[j]? = Bs u->W.cell? ⟨g,o+j,B0⟩=Bs u
 |0,_=>⟨[],rfl,(λx z=>by cases z),(λj u d=>by simp at d)⟩
 |m+1,h=>by
  obtain⟨l,hl,C,D⟩:=TM size c n Q g o m (λi I=>h i Z0);obtain⟨x,z,A⟩:=h m Z0;have q:(l.flatMap c).length=m*size:=by
   rw[<- hl];clear hl C D;induction l with
   |nil=>simp
   |cons y r E=>simp only[VH,VJ,n,E,Wi,Nat.succ_mul];omega
  refine⟨l++[x],by simp[hl],λy f=>?_,λj u d=>?_⟩;obtain f|f:=ZD.1 f;exact C y f;rw[VU.1 f];exact z;rw[Wq]at d;obtain v|v:=Nat.lt_or_ge j (l.flatMap c).length;rw[VZ v]at d;exact D j u d;rw[Wg v]at d;have:=A (j-m*size) u (by rw[<- q];simpa using d);rw[q]at v;have e:m*size+(j-m*size)=j:=by omega
  rwa [e]at this
def open_gen{P:Program}{T e:VR}(hT:P.underlying T=Bs (.slice e))(size:Nat)(hC:P.cellsOf e=size)(BJ:0<size)(d:α->List S2)(q:∀x,(d x).length=size)(Q:Nat->α->Prop){sp:Nat->Bool}
  (M:∀(n:Nat)(cs:List S2)(y:YI H×List Zf),DataW.trod enc P W 0 sp VD n e cs=Bs y->∃x,cs=d x/\Q (Rows.uptoBulk y.1) x)
  {y:YI H×List Zf} (h:DataW.trod enc P W 0 sp VD n T [v]=Bs y) :
  ∃(A:Option Addr)(k c:Nat)(l:List α),v=WK A k c/\k<=c/\l.length=k/\Rd W W.heap.size size A k (l.flatMap d)/\∀x∈l,∃m,m<=Rows.uptoBulk y.1/\Q m x:=by
 obtain⟨hc,_⟩|⟨a,f,cap,m,n',D,Pl,hc,_,a0,_,hm,rfl,hi⟩:=open_slice hT h;obtain rfl:v=WK B0 0 0:=Z6 hc;exact⟨B0,0,0,[],rfl,Hi _,rfl,Rd.bo _ _ _ _,(λp K=>by cases K)⟩;obtain rfl:v=WK (Bs a) f cap:=Z6 hc;have a6:f<=m:=by rw[hm];split<;>omega
 obtain⟨g,o,E⟩:=a;have a3:=R7 ((Ww f).map D) ((Ww (m-f)).map λj=>D (f+j));have L:∀i,i<f->∃x:α,((∃b,b<=Rows.uptoBulk (DataW.slice ((Ww f).map D) ((Ww (m-f)).map λj=>D (f+j)))/\Q b x)/\g<W.heap.size/\E=B0)/\∀j u,(d x)[j]? = Bs u->W.cell? ⟨g,o+(i*size+j),B0⟩=Bs u:=λi a1=>by
  obtain⟨a8,N,ht⟩:=hi i Z0;rw[hC]at N;obtain⟨p,rfl,K⟩:=M _ _ _ ht;obtain⟨_,_,a5⟩:=World.cells?_some N;have C:∀j u,(d p)[j]? = Bs u->W.cell? ⟨g,o+(i*size+j),B0⟩=Bs u/\g<W.heap.size:=λj u U=>by
   have hj:j<size:=by rw[<- q p];exact(ZC.1 U).1
   have S:=a5 j hj;rw[U,NU]at S;exact q7e S g o E rfl
  have a4:Rows.uptoBulk (D i)<=Rows.uptoBulkAll ((Ww f).map D):=Vo (ZE.2 ⟨i,ZH.2 a1,rfl⟩);obtain⟨u0,Y⟩:∃u0,(d p)[0]? = Bs u0:=⟨_,K0 (by rw[q];exact BJ)⟩
  have z:E=B0:=by
   obtain⟨a7,J,Z⟩:=hi 0 Z0;rw[hC]at J;obtain⟨p0,rfl,_⟩:=M _ _ _ Z;obtain⟨_,_,R⟩:=World.cells?_some J;have S:=R 0 BJ;obtain⟨u1,X⟩:∃u1,(d p0)[0]? = Bs u1:=⟨_,K0 (by rw[q];exact BJ)⟩
   rw[X]at S;exact qa7 (w:=W) (g:=g) (o:=o) (v:=u1) (by simpa [Addr.add]using S)
  exact⟨p,⟨⟨Rows.uptoBulk (D i),VK a4 a3,K⟩,(C 0 _ Y).2,z⟩,λj u U=>(C j u U).1⟩
 obtain⟨l,I,hq,O⟩:=TM size d q _ g o f L;have a2:(l.flatMap d).length=f*size:=by
  rw[<- I];clear I hq O;induction l with
  |nil=>simp
  |cons y r ih=>simp only[VH,VJ,ih,Wi,q,Nat.succ_mul];omega
 refine⟨Bs ⟨g,o,E⟩,f,cap,l,rfl,a0,I,⟨a2,λh0=>?_⟩,λp K=>(hq p K).1⟩;obtain⟨x,hx⟩:∃x,x∈l:=by
  cases l with
  |nil=>simp at I;omega
  |cons x r=>exact⟨x,VB ..⟩
 obtain⟨_,hg,z⟩:=hq x hx;subst z;exact⟨g,o,rfl,hg,O⟩
end
end
section
open Go.ChangeShapes Go.WideShapes Go.ChangeAt Go.RowKit Go.Deep
def own_knob:ownKnob Tryz.prog.godebug=B0:=by kernel_rfl
def h_size:Tryz.prog.types.size=259:=by kernel_rfl
def g_names:Tryz.prog.globalNamed "chainmail/chainmailkeep.names" = Bs 0:=by kernel_rfl
def t_names:(Tryz.prog.globals[0]?).map (·.type)=Bs 39:=by kernel_rfl
def qdu:List (String×YI Unit):=[("chainmail/chainmailkeep.names",Rows.laid_chainmail_chainmailkeep_names)]
def names_of(h:laidMetH Tryz.prog qdu W):∃r o k,NmI W r o k:=by
 rw[MakeChecks.laidMetH_plain _ _ _ Z1]at h;obtain⟨ps,⟨X,R,Q,Y,U,S,u,z,y,D,_,_⟩,_,_⟩:=h;obtain rfl:=Wn (g_names.symm.trans u);obtain rfl:=Wn (t_names.symm.trans z);obtain⟨a,cap,E,M,C⟩:=open_row Tryz.underlying39 Z1 D;have c:W.cell? ⟨0,0,B0⟩=Bs (WK (Bs a) 4 cap):=by
  have:=World.var?_cell u y 0;rw[Array.eq_one_of_toList E]at this;simpa using this
 have hs:∀(i:Nat)(x:Sx),names[i]? = Bs x->W.cell? (a.add i)=Bs (.string ⟨x.toArray⟩):=λi x d=>by
  have N:([.lit (.string [97]),.lit (.string [98]),.lit (.string [99]),.lit (.string [100])]:List (YI Unit))[i]? = Bs (.lit (.string x)):=by
   have f:=(ZC.1 d).1;have f:i<4:=f;obtain rfl|rfl|rfl|rfl:=(by omega:i=0\/i=1\/i=2\/i=3)<;> (simp[names]at d;subst d;rfl)
  obtain⟨v,n,q,O,L⟩:=C i _ N;obtain⟨s,I,e1,_⟩:=DataW.trod_string Tryz.underlying9 L;simp only[Prod.mk.injEq,DataW.lit.injEq,Lit.string.injEq]at e1;have I:v=.string s:=Z6 I;rw[O,I];congr 2;rw[e1.1]
 obtain⟨g,o,K⟩:=a;have J:=hs 0 [97] rfl;have A:K=B0:=qa7 (w:=W) (g:=g) (o:=o) (by simpa [Addr.add]using J);subst A;refine⟨g,o,cap,c,λq x d=>(q7e (hs q x d) g o B0 rfl).1,V5 W _ c,(q7e J g o B0 rfl).2⟩
def door_met(c:Os)(args:Array S2):laidMetH Tryz.prog qdu ((World.doorLaid Tryz.prog 400 c).forCall (λ_ _=>0) ⟨#[],args,[]⟩).memory:=
 laidMetH_of_parts3 (fuel:=8) (laidMet_of_run' 8 Z1 Z1) Z1 Z1
end
end Go.Proofs.YtccahlhdifadfaaGreatDoor
