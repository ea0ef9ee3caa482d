import Derived.Test.YtccahlhdifadfaaGreatDoorPk02
import Derived.StillTailTactics
import Derived.RangeFuncNested
import Derived.RangeFuncBound
import Derived.RangeFuncCalls
import Derived.RangeFuncLeaves
import Derived.Shelf.Abstract
import Derived.Shelf.RegionOpen
import Derived.WalkKit
import Derived.OwnWalkIn
import Derived.TacticsInMore
import Derived.LoopNIn
import Derived.LoopIn
import Derived.OrdersIn
namespace Go.Proofs.YtccahlhdifadfaaGreatDoor
open Go.RowKit
open _root_.And renaming intro → Wm
open _root_.Array renaming replicate_zero → YI, replicate_succ → YJ
open _root_.Bool renaming false → Jx, true → VJ, and_eq_true → Wj, eq_iff_iff → XU, false_eq_true → X3, eq_false_iff → Zd
open _root_.Classical renaming not_not → XR
open _root_.Go renaming World → D0, Value → O0, Calls → VY, maxLen → Wo, Ending → WC, wpAnyIn_done → WV, wp_region_still_tail → XI, undef → Yq
open _root_.Go.Act renaming eval → Xh
open _root_.Go.Fence renaming wide → X0
open _root_.Go.IntWalk renaming i64_in → V4, wrap64_in → Xf
open _root_.Go.Region renaming ready → Wu, wanted → Ww
open _root_.Go.RowKit renaming Below → VP, wrap64 → Xn
open _root_.Go.RowKit.Below renaming refl → VK
open _root_.Go.Value renaming int → Wp, oneCell' → WB, slice → WM
open _root_.Go.World renaming ownsRow_nil → VZ, block_lt_of_cell? → Wa, cell?_alloc_lt → WX, drew → Yo
open _root_.Iff renaming rfl → Yl
open _root_.Int renaming le_refl → WD
open _root_.List renaming getElem?_cons_zero → Ft, getElem?_toArray → Hi, getElem?_eq_getElem → L1, getElem?_cons_succ → N2, mem_of_getElem? → S2, mem_cons_self → VH, mem_cons_of_mem → VI, flatMap_cons → VM, prefix_refl → VQ, length_append → VS, findIdx?_eq_some_iff_getElem → VU, mem_singleton → VW, take_add_one → VX, take_of_length_le → V0, getElem?_map → V8, length_map → We, getElem?_append_left → Wg, range' → Wh, getElem?_append_right → Wk, length_cons → Wl, findIdx?_eq_none_iff → Wn, take_append_of_le_length → Wq, getElem_mem → Wv, mem_of_mem_take → Wy, flatMap_append → WG, map_cons → WH, foldl_append → WQ, take_succ_cons → WU, pairwise_map → W8, drop_succ_cons → Xb, map_append → Xd, take_length → Xe, size_toArray → Xo, prefix_append → Xq, nil_append → Xt, mem_range'_1 → Xz, take_zero → XM, map_nil → XN, length_set → XS, length_nil → XT, cons_append → XY, drop_zero → Ys, append_toArray → YT, range'_concat → YZ, push_toArray → Y8
open _root_.List.Pairwise renaming filter → X6, nil → Yk
open _root_.Nat renaming le_refl → K0, lt_of_lt_of_le → VL, zero_le → VN, le_trans → VO, le_succ → WT, lt_or_ge → W7, lt_succ_self → YK
open _root_.Option renaming some → Bs, none → B0, map_some → WK
open _root_.Option.some renaming injEq → VR
variable {f:Array O0} {t t':Bl} {x':Bm} {b:Bool} {c:Cm} {B o tx:Int} {h:Int->Option Int} {v:Ko} {l l':List Cm} {ss:List Nat} {L:List Pr} {g i j n s:Nat} {D:Nat->Prop} {v':Nt} {p:Pr} {x:Sx} {T T':Tb} {d:TypeId} {V V' v1:O0} {w w':D0}
set_option linter.all false
set_option maxRecDepth 100000
set_option maxHeartbeats 16000000
def IJ (d:Nd):d.tick.2.length<=100000:=by
 unfold Nd.tick;split
 ·simp
 ·split
  ·split <;> simp
  ·simp
def Wf.aG {H:Hs} (h:Wf H) (e:H.c=3) {s j:Nat} (hs:s<3) (b:j<H.n):Wf (H.aG s j):=by
 have f:=h.n4;obtain⟨d,c⟩:=q8z (h.nd s j (by omega) b) hs (by omega);exact(h.aq d).send c
noncomputable def tickds (s:Nat) (H:Hs) (l:List Nat):Hs:=l.foldl (Hs.aG s) H
def IH {H:Hs} {l:List Nat} (h:l[i]? = Bs j):tickds s H (l.take (i+1))=Hs.aG s (tickds s H (l.take i)) j:=by
 unfold tickds;rw[VX,h,WQ];rfl
def q4q (s:Nat):∀ (l:List Nat) (H:Hs),(tickds s H l).n=H.n/\(tickds s H l).c=H.c/\(tickds s H l).m=H.m
 | [],_=>⟨rfl,rfl,rfl⟩
 | j::l,H=>q4q s l (Hs.aG s H j)
def Wf.cC {s:Nat} (hs:s<3):∀ (l:List Nat) {H:Hs},Wf H->H.c=3->(∀ j∈l,j<H.n)->Wf (tickds s H l)
 | [],_,h,_,_=>h
 | j::l,H,h,hc,hl=>Wf.cC hs l (H:=Hs.aG s H j) (h.aG hc hs (hl j (VH ..))) hc (fun q b=>hl q (VI _ b))
noncomputable def tickd (H:Hs) (ss:List Nat):Hs:=ss.foldl Hs.bm H
def Fe (H:Hs) (s:Nat):H.bm s=tickds s H ((H.sh s).ah H.n):=rfl
def KE {H:Hs} (h:ss[i]? = Bs s):tickd H (ss.take (i+1))=(tickd H (ss.take i)).bm s:=by
 unfold tickd;rw[VX,h,WQ];rfl
def q5u:∀ (ss:List Nat) (H:Hs),(tickd H ss).n=H.n/\(tickd H ss).c=H.c/\(tickd H ss).m=H.m
 | [],_=>⟨rfl,rfl,rfl⟩
 | s::ss,H=>by
  obtain⟨g,f,e⟩:=q4q s ((H.sh s).ah H.n) H;obtain⟨d,c,b⟩:=q5u ss (H.bm s);exact⟨d.trans g,c.trans f,b.trans e⟩
def Wf.c4:∀ (ss:List Nat) {H:Hs},Wf H->H.c=3->(∀ s∈ss,s<3)->Wf (tickd H ss)
 | [],_,h,_,_=>h
 | s::ss,H,h,hc,hl=>by
  obtain⟨f,d,e⟩:=q4q s ((H.sh s).ah H.n) H;exact Wf.c4 ss (H:=H.bm s) (Wf.cC (hl s (VH ..)) _ h hc (fun j c=>UX c)) (d.trans hc) (fun q b=>hl q (VI _ b))
def Vy (P:Aq) (own:Ah) (H:Hs) (w:D0) (v:O0) (wr:D0):Prop:=∃ q:Nat,v=.int .i64 q/\q<=3/\BZ P own (tickd H ([0,1,2].take q)) w wr
def TcIn (P:Aq) (own:Ah) (H:Hs) (s:Nat) (l:List Nat) (w:D0) (v:O0) (wr:D0):Prop:=∃ i:Nat,v=.int .i64 i/\i<=l.length/\BZ P own (tickds s H (l.take i)) w wr
def ND (P:Aq) (own:Ah) (H:Hs) (w:D0) (e:WC) (w':D0):Prop:=e=.returned (.tuple #[])/\∃ H',DX H H'/\BZ P own H' w w'
section
variable {w w':D0} {own own':Ah} {P:Aq} {H:Hs}
def HI.shRow (h:HI w own P H) (o:H.c=3):∃ r k,(∃ v,Eh w own P H.c H.m H.net H.ag v/\v.Vr=.slice (Bs ⟨r,0,B0⟩) 3 k)/\∀ W own',Ay w own W own'->∀ s,s<3->W.cell? ⟨r,s,B0⟩=Bs (pw (P.gs s))/\r<W.heap.size:=by
 obtain⟨v,j⟩:=h.hs;obtain⟨r,k,e,x,_⟩:=j.bZ (s:=0) (by omega);rw[o] at e;refine⟨r,k,⟨v,j,e⟩,fun W own' p s hs=>?_⟩;have d:=p.fr.own j.shr (fun b t hs=>(hs.tag (j.bx b t)).2.1 rfl);rw[e,o] at d;obtain⟨g,c,f,q,u,l,m⟩:=SK d hs;injection f with f _ _;injection f with f;injection f with f _ _;subst f;rw[V8,List.getElem?_range hs] at l;simp only[WK,VR] at l;exact⟨by rw[m,<- l],q⟩
def F9 (h:HI w own P H) (wf:Wf H) (Z:H.c=3):VY Tryz.prog 31 #[pw P.g] w (ND P own H w):=by
 have HH:=LH h;have a7:=LH wf;have ab:=wf.n4;obtain⟨r3,k3,⟨vh,S,a2⟩,U⟩:=h.shRow Z;obtain⟨_,c3,_,_,gl⟩:=S.cells;rw[a2] at c3;have ak:=LH U;clear h wf S a2 U;unfold pw at *;go_enter Tryz.func31,Tryz.ntmps31;go_wp2_with fail;clear c3;go_loopw [11] (Vy P own H w) (fun v _=>3-(intOf v).toNat)
 case atStart=>exact⟨0,rfl,VN _,own,HH.o,HZ.refl _ _ _⟩
 case round=>
  obtain⟨q,rfl,hq,d,z,y⟩:=hrel;by_cases ao:(q:Int)<3
  ·obtain⟨ad,aa⟩:=ak.o wr d y q (by omega);have T:([0,1,2]:List Nat)[q]? = Bs q:=by
    have:q=0\/q=1\/q=2:=by omega
    rcases this with rfl|rfl|rfl <;> rfl
   have aj:=LH (KE (H:=H) T);have o:=q5u ([0,1,2].take q) H;have f:Wf (tickd H ([0,1,2].take q)):=a7.o.c4 _ Z (fun s hs=>by have:=Wy hs;simp at this;omega);have Y:(tickd H ([0,1,2].take q)).c=3:=o.2.1.trans Z;have an:(tickd H ([0,1,2].take q)).n<=4:=by rw[o.1];exact ab
   clear o T;generalize tickd H ([0,1,2].take q)=H2 at *;have HL:=LH (q5h z f (s:=q) (by omega));have ai:=LH (Fe H2 q);have ap:=U3 (H2.sh q) H2.n;have HM:=LH (fun j (hj:j∈(H2.sh q).ah H2.n)=>UX hj);have L:=LH z;have a5:=LH y;have ah:=LH f;unfold DD pw at HL;clear z y f;generalize (H2.sh q).ah H2.n=l at *;go_wp2_with fail;refine HL.o.mono ?_;rintro e w1 ⟨V,rfl,x,I⟩;obtain⟨A,c,rfl,_,_⟩:=AR x;have a9:=LH x;have am:=LH (L.o.below I);have af:=LH (a5.o.trans (HZ.below d I));have N:=LH (fun b (hb:(WM A l.length c).ownBlock=Bs b)=>L.o.free (x.lt b hb).1);clear x I HL ad aa L a5;go_wp2_with fail;go_loopw [18] (TcIn P d H2 q l w1) (fun v _=>l.length-(intOf v).toNat)
   case atStart=>exact⟨0,rfl,VN _,d,am.o,HZ.refl _ _ _⟩
   case round=>
    obtain⟨i,rfl,hi,p,m,g⟩:=hrel;by_cases aq:(i:Int)<l.length
    ·have G:i<l.length:=by omega
     have ar:i<=4:=by omega
     obtain⟨r,c',hV,hr,u,hu,ac⟩:=SK (Py a9.o N.o g) (k:=i) G;injection hV with hA _ hcp;subst hA hcp;have hx:l[i]? = Bs l[i]:=L1 G;rw[V8,hx] at hu;simp only[WK,VR] at hu;subst hu;have X:=HM.o l[i] (Wv G);have al:=LH (IH (s:=q) (H:=H2) hx);have o:=q4q q (l.take i) H2;have t:Wf (tickds q H2 (l.take i)):=ah.o.cC (by omega) _ Y (fun j hj=>HM.o j (Wy hj));have au:(tickds q H2 (l.take i)).c=3:=o.2.1.trans Y;have E:l[i]<(tickds q H2 (l.take i)).n:=by rw[o.1];exact X
     clear o hx X;generalize l[i]=j at *;generalize tickds q H2 (l.take i)=H3 at *;have HT:=LH (OX (m.below (VK wr.heap.size wr).drew) (show q<H3.c by omega) E);have R:=q8z (t.nd q j (by omega) E) (show q<3 by omega) (show j<4 by have:=t.n4;omega);have a6:=LH R;have ag:=LH t;have J:=LH (g.trans (HZ.below p (VK wr.heap.size wr).drew));unfold pw at HT;clear m g R t;go_upto_region 6 with (fail)
     clear ac;refine nW ?_;refine CF (fun _=>True) 5 (fun _ _ _ _ _ h=>h) (fun B=>?_);have C:=True.intro;refine nD 0 [1,2,5] B C ?_;refine nD 1 [2,5] B C ?_;refine nD 2 [5] B C ?_;refine nD 3 [4,5] B C ?_;clear C;refine nG 4 (fun KK hK=>?_);go_simp;refine HT.o.mono ?_;rintro e w3 ⟨V,rfl,ho,own4,a4,a1,D⟩;have W:=q7a a4 ho (fun q hq=>by rcases D q hq with e|e <;> (rw[e];simp)) a6.o.2 (ag.o.aq a6.o.1) (IJ _);have K:=LH W;have ae:=LH (J.o.trans (a1.mono (fun _=>MO)));obtain⟨A,kk,M,rfl,_⟩:=ho;unfold pw at K;clear W D a4 a1 HT;go_simp;refine hK _ _ (fun _=>True.intro) ?_;clear hK KK;refine nG 5 (fun KK hK=>?_);go_simp;refine K.o.mono ?_;rintro e w4 ⟨d4,O,rfl,a3,a0⟩;go_simp;refine hK _ _ nZ ?_;clear hK KK;refine nX ?_;clear B;have HR:=LH (show TcIn P d H2 q l w1 (.int .i64 ((i+1:Nat):Int)) w4 from⟨i+1,rfl,by omega,O,by rw[al.o];exact a3,ae.o.trans (a0.mono (fun _=>UR))⟩);clear a3 a0 K;go_wp2_with fail;go_roundw
     ·exact HR.o
     ·simp[intOf];omega
    ·obtain rfl:i=l.length:=by omega
     rw[Xe,<- ai.o] at m;have HR:=LH (show Vy P own H w (.int .i64 ((q+1:Nat):Int)) wr from⟨q+1,rfl,by omega,p,by rw[aj.o];exact m,af.o.trans g⟩);clear m g;go_wp2_with fail;go_roundw
     ·exact HR.o
     ·simp[intOf];omega
  ·obtain rfl:q=3:=by omega
   have f:Wf H.aT:=a7.o.c4 _ Z (fun s hs=>by simp at hs;omega);have a8:=LH (q4d (show HI wr d P H.aT from z) f ((q5u _ H).2.1.trans Z));have J:=LH y;unfold pw at a8;clear z f y;go_wp2_with fail;refine a8.o.mono ?_;rintro e w3 ⟨rfl,H',hr,p,m,g⟩;have HF:=LH (show ND P own H w (.returned (.tuple #[])) w3 from⟨rfl,H',hr,p,m,J.o.trans g⟩);clear hr m g;go_wp2_with fail
   go_end0
   exact HF.o
end
structure Sz (H H':Hs):Prop where
 n:H'.n=H.n
 c:H'.c=H.c
 m:H'.m=H.m
def Sz.refl (H:Hs):Sz H H:=⟨rfl,rfl,rfl⟩
def Sz.trans {a b c:Hs} (h:Sz a b) (k:Sz b c):Sz a c:=⟨k.n.trans h.n,k.c.trans h.c,k.m.trans h.m⟩
def Sm.sz {H H':Hs} (h:Sm H H'):Sz H H':=⟨h.n,h.c,h.m⟩
def Pj (H:Hs) (m:Ms):Sz H (H.arrive m):=by
 rcases e:H.node m.a4 with _|⟨s,j⟩
 ·rw[Ig e];exact Sz.refl H
 ·rw[Ih e];have h:=Bz.take ((H.aq s j (((H.sh s).nd j).step m).1).send (((H.sh s).nd j).step m).2) s;exact⟨h.n,h.c,h.m⟩
def DX.wf {H H':Hs} (h:DX H H') (d:Wf H) (b:H.c=3):Wf H'/\Sz H H':=by
 obtain⟨j,c,g⟩:=q5u [0,1,2] H;have e:Wf H.aT:=d.c4 _ b (fun s hs=>by simp at hs;omega);have f:H.aT.c=3:=c.trans b;exact⟨Wf.settle h e f,Sz.trans ⟨j,c,g⟩ (Sm.settle h).sz⟩
def Pu.wf {H H':Hs} {k:Nat} (h:Pu H k H') (b:Wf H) (c:H.c=3):Wf H'/\Sz H H':=by
 cases h with
 | none h=>exact⟨b,Sz.refl _⟩
 | @some m e _ r=>
  have d:=(b.aE k).arrive (show(({ H with net:=takeS H.net k } : Hs)).c=3 from c) (b.net _ (S2 e));have s1:=Pj ({ H with net:=takeS H.net k } : Hs) m;exact⟨Wf.settle r d (s1.c.trans c),Sz.trans ⟨s1.n,s1.c,s1.m⟩ (Sm.settle r).sz⟩
def NJ (P:Aq) (own:Ah) (H:Hs) (w:D0) (e:WC) (w':D0):Prop:=e=.returned (.tuple #[])/\∃ H',Cd 4 H H'/\BZ P own H' w w'/\Wf H'/\Sz H H'
def CaRel (P:Aq) (own:Ah) (H:Hs) (w:D0) (v:O0) (wr:D0):Prop:=∃ (q:Nat) (H2:Hs),v=.int .i64 q/\q<=4/\BZ P own H2 w wr/\Wf H2/\Sz H H2/\∀ H',Cd (4-q) H2 H'->Cd 4 H H'
def CaIn (P:Aq) (own:Ah) (c:Hs) (w:D0) (v:O0) (wr:D0):Prop:=∃ (n:Nat) (b:Hs),v=.int .i64 n/\n<=5000/\BZ P own b w wr/\Wf b/\Sz c b/\∀ H',Pq (5000-n) b H'->Pq 5000 c H'
section
variable {w w':D0} {own own':Ah} {P:Aq} {H:Hs}
def OD (h:HI w own P H):VY Tryz.prog 39 #[pw P.g] w fun e w'=>e=.returned (.int .i64 H.net.l.length)/\w=w':=by
 obtain⟨v,c⟩:=h.hs;have b:v.L.length=H.net.l.length:=by rw[<- c.msgs];unfold AF;rw[We]
 rw[<- b];exact Jn _ _ _ _ _ _ _ _ _ _ _ _ c.nt
def qcy (h:HI w own P H) (wf:Wf H) (hc:H.c=3):VY Tryz.prog 15 #[pw P.g] w (NJ P own H w):=by
 have HH:=LH h;have a1:=LH wf;clear h wf;unfold pw at *;go_enter Tryz.func15,Tryz.ntmps15;go_wp2_with fail;go_loopw [3] (CaRel P own H w) (fun v _=>4-(intOf v).toNat)
 case atStart=>exact⟨0,H,rfl,VN _,⟨own,HH.o,HZ.refl _ _ _⟩,a1.o,Sz.refl H,fun _ h=>h⟩
 case round=>
  obtain⟨q,H2,rfl,hq,⟨D,t,s⟩,m,o,u⟩:=hrel;by_cases af:(q:Int)<4
  ·have B:H2.c=3:=o.c.trans hc;have HT:=LH (F9 t m B);have T:=LH s;have a3:=LH m;have a7:=LH o;have ac:=LH u;unfold pw at HT;clear t s m o u;go_wp2_with fail;refine HT.o.mono ?_;rintro e w1 ⟨rfl,V,z,g,S,O⟩;obtain⟨G,A⟩:=DX.wf z a3.o B;have M:V.c=3:=A.c.trans B;have aa:=LH S;have a0:=LH (T.o.trans O);have a4:=LH G;have a8:=LH (a7.o.trans A);have a5:=LH z;clear S O G A z HT T;go_wp2_with fail;go_loopw [2] (CaIn P g V w1) (fun v _=>5000-(intOf v).toNat)
   case atStart=>exact⟨0,V,rfl,VN _,⟨g,aa.o,HZ.refl _ _ _⟩,a4.o,Sz.refl V,fun _ h=>h⟩
   case round=>
    obtain⟨n,x,rfl,hn,⟨C,c,l⟩,f,d,p⟩:=hrel;obtain⟨vh,I⟩:=c.hs;have gl:=I.cells.2.2.2.2;have r:=LH (OD c);unfold pw at r;clear I;have b:(x.net.l=[]\/n=5000)->CaRel P own H w (.int .i64 ((q+1:Nat):Int)) wr:=fun K=>by
     refine⟨q+1,x,rfl,by omega,⟨C,c,a0.o.trans l⟩,f,a8.o.trans d,fun H' W=>ac.o H' ?_⟩;rw[show 4-q=(4-(q+1))+1 by omega];refine Cd.more a5.o (p x ?_) W;rcases K with Y|Y
     ·exact .none Y
     ·rw[Y];exact .zero x
    by_cases y:x.net.l=[]
    ·have HO:=LH (b (.inl y));have j:x.net.l.length=0:=by rw[y];rfl
     rw[j] at r;clear b c l f d p y j;go_wp2_with fail;refine r.o.mono ?_;rintro e w2 ⟨rfl,rfl⟩;go_wp2_with fail;go_roundw
     ·exact HO.o
     ·simp[intOf];omega
    ·have j:0<x.net.l.length:=List.length_pos_iff.2 y;have ad:decide ((x.net.l.length:Int) > 0)=VJ:=decide_eq_true (by omega);by_cases ae:(n:Int)<5000
     ·have U:=LH (qae c f (d.c.trans M) j);have ag:=LH c;have Z:=LH l;have a2:=LH f;have a6:=LH d;have ab:=LH p;have a9:=LH y;have L:x.c=3:=d.c.trans M;unfold pw at U;clear b c l f d p y;go_wp2_with fail;refine r.o.mono ?_;rintro e w2 ⟨rfl,rfl⟩;go_wp2_with fail;refine U.o.mono ?_;rintro e w3 ⟨rfl,H4,X,own4,R,N⟩;obtain⟨E,J⟩:=Pu.wf X a2.o L;have HR:=LH (show CaIn P g V w1 (.int .i64 ((n+1:Nat):Int)) w3 from⟨n+1,H4,rfl,by omega,⟨own4,R,Z.o.trans N⟩,E,a6.o.trans J,fun H' W=>ab.o H' (by
       rw[show 5000-n=(5000-(n+1))+1 by omega];exact .more a9.o X W)⟩)
      clear R N X E J;go_wp2_with fail;go_roundw
      ·exact HR.o
      ·simp[intOf];omega
     ·have HO:=LH (b (.inr (by omega)));clear b c l f d p y j;go_wp2_with fail;refine r.o.mono ?_;rintro e w2 ⟨rfl,rfl⟩;go_wp2_with fail
      all_goals (go_roundw;(case rel=>exact HO.o);(case measure=>simp[intOf];omega))
  ·obtain rfl:q=4:=by omega
   have HF:=LH (show NJ P own H w (.returned (.tuple #[])) wr from⟨rfl,H2,u H2 (.zero H2),⟨D,t,s⟩,m,o⟩);clear t s m o u;go_wp2_with fail
   go_end0
   exact HF.o
end
def OC (id:Int) (L:List AS):AF (Bn id L)=(AF L).filter fun m=>!gone id m:=by
 unfold AF Bn;rw[List.filter_map];rfl
def Um (dead:Int->Bool) (id:Int):AU (SS dead) id (Bs (.bool VJ))=SS fun i=>decide (i=id) || dead i:=by
 funext j;unfold AU SS;by_cases e:j=id
 ·subst e;simp
 ·simp[e]
def Bq.tight {w:D0} {n:Nat} {D:Option Nat} {dead:Int->Bool} (h:Bq w n D dead) (d:∀ i,dead i=VJ->0<=i/\i<=60):Bq w 100 D dead:=by
 cases D with
 | none=>exact h
 | some b=>
  refine(Ab.tight (C:=BC) h Dq (fun o _ c=>?_)).mono (by rw[Tu];omega);cases e:dead o with
  | false=>rw[e] at c;exact absurd rfl c
  | true=>have:=d o e;exact Px this.1 this.2
def Hs.bC (H:Hs) (id:Int):Hs:={ H with net:=Ev H.net id }
def Hs.aK (H:Hs) (s:Nat) (id:Int):Hs:=H.ar s { H.sh s with ao:=fun i=>decide (i=id) || (H.sh s).ao i }
def q4l {H:Hs} {id:Int} (h:H.node id=B0):H.fail id=H:=by unfold Hs.fail;rw[h]
def q4k {H:Hs} {id:Int} (h:H.node id=Bs (s,j)):H.fail id=(H.aK s id).bC id:=by unfold Hs.fail;rw[h];rfl
def Gc (H:Hs) (id:Int):Int:=if H.node id=B0 then 7 else 0
def Wf.cV {H:Hs} (h:Wf H) (c:H.c=3) (hs:s<3) (b:j<H.n):0<=((H.sh s).nd j).id/\((H.sh s).nd j).id<=60:=by
 have e:=(h.nd s j (by omega) b).id;have d:=h.n4;omega
def Wf.aK {H:Hs} (h:Wf H) {s:Nat} {id:Int} (d:0<=id/\id<=60):Wf (H.aK s id):=by
 have e:∀ k,((H.aK s id).sh k).nd=(H.sh k).nd/\((H.aK s id).sh k).tab=(H.sh k).tab/\((H.aK s id).sh k).sto=(H.sh k).sto/\∀ i,((H.aK s id).sh k).ao i=VJ->0<=i/\i<=60\/(H.sh k).ao i=VJ:=fun k=>by
  by_cases f:k=s
  ·subst f;have:(H.aK k id).sh k = { H.sh k with ao:=fun i=>decide (i=id) || (H.sh k).ao i }:=An _ _ _;rw[this];refine⟨rfl,rfl,rfl,fun i b=>?_⟩;rcases Bool.or_eq_true_iff.1 b with b|b
   ·have:=of_decide_eq_true b;subst this;exact .inl d
   ·exact .inr b
  ·have:(H.aK s id).sh k=H.sh k:=As f _;rw[this];exact⟨rfl,rfl,rfl,fun i b=>.inr b⟩
 exact⟨h.n4,h.c3,h.bz,fun k j c g=>by rw[(e k).1];exact h.nd k j c g,fun k c=>by rw[(e k).2.1];exact h.tab k c,fun k c=>by rw[(e k).2.2.1];exact h.sto k c,fun k c i b=>((e k).2.2.2 i b).elim (fun q=>q) (h.ao k c i),h.net,h.down,h.tx,h.tm,h.cR⟩
def Wf.bC {H:Hs} (h:Wf H) {id:Int} (c:0<=id/\id<=60):Wf (H.bC id):=
 ⟨h.n4,h.c3,h.bz,h.nd,h.tab,h.sto,h.ao,fun m d=>h.net m (List.mem_filter.1 d).1,fun i b=>by
  rcases Bool.or_eq_true_iff.1 b with b|b
  ·have:=of_decide_eq_true b;subst this;exact c
  ·exact h.down i b,h.tx,h.tm,h.cR⟩
def Wf.fail {H:Hs} (h:Wf H) (c:H.c=3) (id:Int):Wf (H.fail id):=by
 rcases e:H.node id with _|⟨s,j⟩
 ·rw[q4l e];exact h
 ·rw[q4k e];obtain⟨g,f,_,d⟩:=q8n e;have b:=h.cV c g f;rw[d] at b;exact(h.aK b).bC b
section
variable {w w':D0} {own own':Ah} {P:Aq} {H:Hs}
def DP.dz {gn:Nat->Nat} {v:Nt} {x:Bm} (h:DP w own n s g gn v x) {c:Int->Bool} (j:Fr (fun k=>k=v.bd) w w') (o:Ab BC w' v.bd 100 (SS c)):DP w' own n s g gn v { x with ao:=c }:=by
 have d:=h.cI;have n0:¬g=v.bd:=fun e=>by have:=h.gt;rw[e,d] at this;cases this
 have m:∀ b,AE v.mt v.dp x.tab b->¬b=v.bd:=fun b f e=>by have:=h.b5 b f;rw[e,d] at this;cases this
 have n2:∀ b,Dl v.ms v.dq x.sto b->¬b=v.bd:=fun b f e=>by have:=h.bF b f;rw[e,d] at this;cases this
 have l:∀ b,v.Vn.ownBlock=Bs b->¬b=v.bd:=fun b f e=>by have:=h.b6 b f;rw[e,d] at this;cases this
 have f:Ae w' g 105 (FG v { x with ao:=c }):=j.ak h.tab.ak n0;exact⟨j.own h.row l,h.b6,o,d,h.tab.bW j m f rfl,h.b5,h.sto.bW j n2 f rfl rfl,h.bF,h.gt⟩
def OG (h:HI w own P H) (B:Wf H) {id:Int} (u:0<=id/\id<=60):VY Tryz.prog 83 #[pw P.g,.int .i64 id] w fun e w'=>∃ d own',e=.returned (.int .i64 d)/\HI w' own' P (H.bC id)/\HZ QI w own w' own':=by
 obtain⟨v,j⟩:=h.hs;refine(RZ 0 P.g 0 100 _ _ v.Vn v.D v.L H.net.ao v.lost id w j.nt (FH (by omega) (by omega)) (by decide)).mono ?_;rintro e w' ⟨V',l,d,lost',rfl,_,f,G,E,I⟩;have o:=G1 j G;have z:∀ i,(decide (i=id) || H.net.ao i)=VJ->0<=i/\i<=60:=(B.bC u).down;have m:AJ w' 0 P.g 0 92 (Oi { v with Vn:=V',D:=l,L:=Bn id v.L,lost:=lost' } H.ag) V' l 100 (Bn id v.L) (fun i=>decide (i=id) || H.net.ao i) lost':=
  ⟨f.ak,f.c0,f.c1,f.c2,f.row,f.own,f.down.tight z,f.len,f.ne,f.bg⟩
 have y:Ext own (DK own w.heap.size (E7 { v with Vn:=V',D:=l,L:=Bn id v.L,lost:=lost' }) .net) w.heap.size:=QS;have s:∀ b,E7 { v with Vn:=V',D:=l,L:=Bn id v.L,lost:=lost' } b->own b=Bs .net\/w.heap.size<=b:=fun b c=>by
  rcases c with c|c|⟨x,p,c⟩
  ·exact .inl (j.bc b (.inl (by rw[<- E];exact c)))
  ·have g:l=Bs b:=c;rcases I with A|⟨q,A,J⟩
   ·exact .inl (j.bc b (.inr (.inl (by rw[<- A];exact g))))
   ·rw[A] at g;injection g with g;exact .inr (by omega)
  ·exact .inl (j.bc b (.inr (.inr ⟨x,(List.mem_filter.1 p).1,c⟩)))
 have r:=j.cL (net':=Ev H.net id) (v':={ v with Vn:=V',D:=l,L:=Bn id v.L,lost:=lost' }) o y rfl rfl m (by show AF (Bn id v.L)=H.net.l.filter _;rw[OC,j.msgs]) (fun b c=>QQ (s b c) c) (fun x p=>j.br x (List.mem_filter.1 p).1);exact⟨d,_,rfl,h.setHs' (net':=Ev H.net id) (time':=H.ag) (GQ o (fun t C=>C.elim .inl (fun e=>.inr (.inl e)))) y (QP o.size (fun b c=>m.aw c)) ⟨_,r⟩,⟨y,o,(by first|exact Pz (by simp)|exact fun _ _ h=>h)⟩⟩
def RT (h:HI w own P H) (N:Wf H) (hc:H.c=3) (id:Int):VY Tryz.prog 56 #[pw P.g,.int .i64 id] w (E9 P own w (Gc H id,H.fail id)):=by
 have HH:=LH h;have u:=LH N;have f:=LH (Jc h N hc id);unfold VD at f;clear h N;rcases c:H.node id with _|⟨s,j⟩
 ·rw[c] at f;have HR:=LH (fun W (m:VP w.heap.size w W)=>show E9 P own w (Gc H id,H.fail id) (.returned (.iface 79 (.int .i64 7))) W from⟨by unfold Gc;rw[if_pos c];rfl,own,by show HI W own P (H.fail id);rw[q4l c];exact HH.o.below m,HZ.below own m⟩);unfold Jd at f;unfold pw at *;clear c;go_enter Tryz.func56,Tryz.ntmps56;go_wp2_with fail;refine f.o.mono ?_;rintro e L ⟨rfl,m⟩;have HF:=LH (HR.o L m);clear m;go_wp2_with fail;go_ret;exact HF.o
 ·rw[c] at f;obtain⟨O,T,_,t⟩:=q8n c;have p:=u.o.cV hc O T;rw[t] at p;have X:=LH (q4k c);have D:Gc H id=0:=by unfold Gc;rw[if_neg (by rw[c];simp)]
  have Y:=LH D;unfold Jd at f;have A:s<H.c:=by omega
  unfold pw at *;clear c t D;go_enter Tryz.func56,Tryz.ntmps56;go_wp2_with fail;refine f.o.mono ?_;rintro e L ⟨rfl,m⟩;have x:=LH (HH.o.below m);have V:=LH (HZ.below (Z:=BM) own m);obtain⟨v,z⟩:=x.o.sh s A;obtain⟨_,c1,_,_,_,gl⟩:=z.cells;have J:=LH z.dd;have K:=LH (fun q (l:Ab BC q v.bd 101 (AU (SS (H.sh s).ao) id (Bs (.bool VJ)))) (g:Fr (fun k=>k=v.bd) L q)=>(by
   rw[Um] at l;have E:=(u.o.aK (s:=s) p).ao s A;rw[show(H.aK s id).sh s = { H.sh s with ao:=fun i=>decide (i=id) || (H.sh s).ao i } from An _ _ _] at E;have S:Ab BC q v.bd 100 (SS fun i=>decide (i=id) || (H.sh s).ao i):=by
    refine(Ab.tight (C:=BC) l Dq (fun o _ R=>?_)).mono (by rw[Tu];omega);cases e:(decide (o=id) || (H.sh s).ao o) with
    | false=>unfold SS at R;simp only[e] at R;exact absurd rfl R
    | true=>have:=E o e;exact Px this.1 this.2
   have B:Fr (OS own (CZ s)) L q:=g.mono (fun b _ e=>⟨_,by rw[e];exact z.cI,.inr (.inr (.inl rfl))⟩);exact⟨x.o.setSh' rfl B (Ext.refl own _) (fun b m=>VL (x.o.lt b m) g.size) ⟨v,z.dz g S⟩,V.o.trans ⟨Ext.refl own _,GQ B (fun _=>Fu),fun _ _ h=>h⟩⟩:HI q own P (H.aK s id)/\Ay w own q own))
  clear m f z;go_wp2_with (at_mapUpdate;refine SR (C:=BC) rfl 60 4 Tryz.underlying60 _ _ _ rfl rfl J.o (by unfold Wo;omega) id (.bool VJ) rfl rfl (FH (by omega) (by omega)) ?_;intro q l g)
  have M:=K.o q l g;obtain⟨vh,y⟩:=M.1.hs;have a0:=y.cells.2.2.2.2;have HD:=LH (OG M.1 (u.o.aK p) p);have U:=LH M.2;unfold pw at HD;clear M l g c1 gl y K J
  try go_wp2_with fail
  refine HD.o.mono ?_;rintro e w8 ⟨d,r,rfl,I,G⟩;have HF:=LH (show E9 P own w (Gc H id,H.fail id) (.returned .nilIface) w8 from⟨by rw[Y.o];rfl,r,by show HI w8 r P (H.fail id);rw[X.o];exact I,U.o.trans (G.mono (fun _=>UR))⟩);clear I G;go_wp2_with fail;go_ret;exact HF.o
end
def EX.ending (h:EX t):EX { t with state:=2,places:=fun k=>if (t.ae k).isSome then Bs (-1) else t.places k }:=
 ⟨h.br,h.ps,h.sh,fun k e b=>by
  show k=0\/k=1;replace b:(if (t.ae k).isSome then Bs (-1) else t.places k)=Bs e:=b;split at b
  ·rename_i hs;obtain⟨q,c⟩:=Option.isSome_iff_exists.1 hs;exact(h.sh k q c).1
  ·exact h.pl k e b,h.wn,h.wnd⟩
def Wf.ending {H:Hs} (h:Wf H) {i:Nat} (c:1<=i) (b:i<=H.m):Wf (H.ending i):=h.au (h.tx i c b).ending rfl
def DN (t:Bl) (left:Int->Bool):Int->Option Int:=fun o=>if (t.ae o).isSome && !left o then Bs (-1) else t.places o
def RW (c:EX t) {left:Int->Bool} (h:DN t left o≠B0):0<=o/\o<=60:=by
 unfold DN at h;have:o=0\/o=1:=by
  split at h
  ·rename_i hs;rw[Wj] at hs;obtain⟨q,b⟩:=Option.isSome_iff_exists.1 hs.1;exact(c.sh o q b).1
  ·obtain⟨q,b⟩:=Option.ne_none_iff_exists'.1 h;exact c.pl o q b
 omega
def Pc {left b:Int->Bool} (d:t.ae o≠B0) (hl:∀ y,b y=VJ↔left y=VJ/\y≠o):AO (DN t left) o (-1)=DN t b:=by
 funext j;unfold AO DN;by_cases e:j=o
 ·subst e;rw[if_pos rfl];obtain⟨q,c⟩:=Option.ne_none_iff_exists'.1 d;have:b j=Jx:=by
   rw[Zd];exact fun h=>((hl j).1 h).2 rfl
  rw[c,this];rfl
 ·rw[if_neg e];have:b j=left j:=by
   rw[XU,hl j];exact⟨fun h=>h.1,fun h=>⟨h,e⟩⟩
  rw[this]
def EeRel (t:Bl) (v:Ko) (r:Nat) (c wr:D0):Prop:=
 ∃ (left:Int->Bool) (b:Nat),DE BC wr v.bs r 100 (CT t.ae) left b/\Ab BC wr v.bp 100 (CT (DN t left))/\Fr (fun k=>k=v.bp) c wr
def EG (P:Aq) (own:Ah) (H:Hs) (id:Int) (w:D0) (e:WC) (w':D0):Prop:=∃ b H',e=.returned (CD b)/\Hz H id b H'/\BZ P own H' w w'
section
variable {w w':D0} {own own':Ah} {P:Aq} {H:Hs}
open Classical in
def Hj (h:HI w own P H) (I:Wf H) (hc:H.c=3) (id:Int):VY Tryz.prog 14 #[pw P.g,.int .i64 id] w (EG P own H id w):=by
 have V:=LH (q51 h (by have:=I.bz;omega) id);by_cases E:id<1\/H.m<id
 ·have HR:=LH (show EG P own H id w (.returned (.iface 79 (.int .i64 7))) w from⟨7,H,rfl,.missing E,own,h,HZ.refl _ _ _⟩);rw[q7d E] at V;clear h I E;unfold pw at *;go_enter Tryz.func14,Tryz.ntmps14;go_wp2_with fail;refine V.o.mono ?_;rintro e w1 ⟨rfl,rfl⟩;go_wp2_with fail;go_ret;exact HR.o
 ·obtain⟨i,rfl⟩:∃ i:Nat,id=i:=⟨id.toNat,by omega⟩
  have h1:1<=i:=by omega
  have hi:i<=H.m:=by omega
  have g:1<=(i:Int)/\(i:Int)<=H.m:=by omega
  rw[q5j h1 hi] at V;obtain⟨v,z⟩:=h.tx i h1 hi;have f1:=z.ak.frozen 1;obtain⟨_,k1,_,k3,k4,_,k8,gl⟩:=z.cells;obtain⟨A8,c8,G,_,_⟩:=AR z.aj;rw[G] at k8;by_cases s1:(H.tx i).state=1
  ·have aj:=(I.tx i h1 hi).bD;rw[s1] at k1;by_cases f:(H.tx i).aj=[]
   ·have s:(H.tx i).aj.length=0:=by rw[f];rfl
    rw[s] at k8;have HH:=LH h;have ap:=LH I;have HV:=LH z;have B:=z.setState 2;have a6:Fr (OS own (fun t=>t=.tx i)) w (w.setCell ⟨P.gt i,1,B0⟩ (.int .i64 2)):=(Fr.refl _ w).setCell (p:=⟨P.gt i,1,B0⟩) (.inl ⟨_,z.gt,rfl⟩) _;have j:=LH B;have az:=LH a6;have aA:=LH (fun H' (r:DL (H.ending i) H')=>Hz.ends (H:=H) (id:=i) g s1 f r);have aq:=LH B.ae;have T:=LH (I.tx i h1 hi);have al:=z.ne;have aI:=LH (show(w.setCell ⟨P.gt i,1,B0⟩ (.int .i64 2)).heap.size=w.heap.size by simp);have aG:=B.ae.lt;have aB:=LH (show CT (DN (H.tx i) (fun x=>((CT (H.tx i).ae) x).isSome))=CT (H.tx i).places from by
     congr 1;funext o;unfold DN CT;cases e:(H.tx i).ae o <;> simp[e])
    clear h I E z s1 f s B a6 G g aj;unfold pw at *;go_enter Tryz.func14,Tryz.ntmps14;go_wp2_with fail;refine V.o.mono ?_;rintro e w1 ⟨rfl,rfl⟩;go_wp2_with (at_range;refine q2u rfl _ 61 3 rfl Tryz.underlying61 rfl aq.o ?_;intro w0 ab M a7 BD)
    generalize a0:(w.setCell ⟨P.gt i,1,B0⟩ (.int .i64 2)).heap.size=A at M BD ⊢;have af:=LH a0;clear a0;have ar:=LH (show Ab BC w0 v.bp 100 (CT (DN (H.tx i) (fun x=>((CT (H.tx i).ae) x).isSome))) from by rw[aB.o];exact j.o.places.fr a7 (fun h=>h))
    try go_frame
    go_loopw [6] (fun _ wr=>EeRel (H.tx i) v A (w.setCell ⟨P.gt i,1,B0⟩ (.int .i64 2)) wr) (fun _ wr=>wr.rangeLeft v.bs A)
    case atStart=>exact⟨_,ab,M,ar.o,a7.mono (fun _ _ h=>h.elim)⟩
    case round=>
     obtain⟨left,aH,Y,a1,a5⟩:=hrel;have ae:=LH Y;have ah:=LH a1;have U:=LH a5;clear Y a1 a5;go_wp2_with (at_next;refine q3c rfl _ rfl rfl ae.o ?_ ?_)
     ·intro s;have O:DN (H.tx i) left=fun k=>if ((H.tx i).ae k).isSome then Bs (-1) else(H.tx i).places k:=by
       funext o;unfold DN;cases e:(H.tx i).ae o with
       | none=>rfl
       | some q=>
        have:left o=Jx:=s o (by have:=(T.o.sh o q e).1;exact FH (by omega) (by omega));rw[this];rfl
      have D:Fr (OS own (fun t=>t=.tx i)) w wr:=az.o.trans' U.o (fun b E e=>⟨_,by rw[e];exact HV.o.pt,rfl⟩);have X:Co wr own i (P.gt i) v ({ H.tx i with state:=2,places:=fun k=>if ((H.tx i).ae k).isSome then Bs (-1) else(H.tx i).places k }):=by
       have a2:=ah.o;rw[O] at a2;exact j.o.cj U.o a2
      have aa:HI wr own P (H.ending i):=HH.o.setTx' D (Ext.refl own _) (fun b E=>VL (HH.o.lt b E) D.size) ⟨_,X⟩;have ac:=LH (q4d aa (ap.o.ending h1 hi) hc);have ao:=LH (show Ay w own wr own from⟨Ext.refl own _,GQ D (fun _=>Di),fun _ _ h=>h⟩);unfold pw at ac;clear aa X D O s;go_wp2_with fail;refine ac.o.mono ?_;rintro e w9 ⟨rfl,H',hr,W,a9,a8⟩;have ay:=LH (show EG P own H i w (.returned .nilIface) w9 from⟨0,H',rfl,aA.o H' hr,W,a9,ao.o.trans a8⟩);clear hr a9 a8;go_wp2_with fail;go_ret;exact ay.o
     ·intro o v9 w3 R ak aE c L a3 S aD an;obtain⟨q,hq,rfl⟩:∃ m,(H.tx i).ae o=Bs m/\v9=.int .i64 m:=by
       unfold CT at c;cases e:(H.tx i).ae o with
       | none=>rw[e] at c;cases c
       | some m=>rw[e] at c;injection c with c;exact⟨m,rfl,c.symm⟩
      rw[show BC.val o=Wp .i64 o from rfl] at an ⊢;have Z:¬A=v.bp:=fun e=>by have:=j.o.places.lt;have:=af.o;omega
      have a4:¬P.gt i=v.bp:=fun e=>j.o.aW.2.2.2.1 e.symm
      have d:Fr (fun k=>k=v.bp) (w.setCell ⟨P.gt i,1,B0⟩ (.int .i64 2)) w3:=U.o.trans' S (fun k hk (e:k=A)=>by have:=af.o;omega);have ai:=LH d;have ag:=LH (ah.o.fr S (fun e=>Z e.symm));have d4:=(d.ak j.o.ak a4).cell 4;have dl:=(d.ak j.o.ak a4).lt;unfold Om at d4;simp only[Hi,Ft,N2] at d4;have ad:=LH L;have ax:=LH (ae.o.left_eq▸a3:R<wr.rangeLeft v.bs A);have au:=LH (fun J (l:Ab BC J v.bp 101 (AU (CT (DN (H.tx i) left)) o (Bs (.int .i64 (-1))))) (u:Fr (fun k=>k=v.bp) w3 J)=>(by
       have K:=ad.o.fr u (fun e=>al e) Z;rw[qcq] at l;have am:Ab BC J v.bp 100 (CT (AO (DN (H.tx i) left) o (-1))):=by
        refine(l.tight Dq (fun a _ ha=>?_)).mono (show Dq.length<=100 from by rw[Tu];decide);by_cases ea:a=o
        ·subst ea;have hk:=(T.o.sh a q hq).1;exact Px (by omega) (by omega)
        ·have N:=RW T.o (left:=left) (o:=a) (fun e=>ha (by unfold CT AO;rw[if_neg ea,e];rfl));exact Px N.1 N.2
       refine⟨⟨_,R,K,?_,ai.o.trans u⟩,by show J.rangeLeft v.bs A<_;rw[K.left_eq];exact ax.o⟩;rw[<- Pc (left:=left) (o:=o) (by rw[hq];simp) (fun y=>by simp)];exact am:EeRel (H.tx i) v A (w.setCell ⟨P.gt i,1,B0⟩ (.int .i64 2)) J/\J.rangeLeft v.bs A<wr.rangeLeft v.bs A))
      clear d c L a3 S hq;go_wp2_with (at_mapUpdate;refine SR (C:=BC) rfl 61 3 Tryz.underlying61 _ _ _ rfl rfl ag.o (by unfold Wo;omega) o (.int .i64 (-1)) rfl rfl ak ?_;intro J l u)
      have hn:=au.o J l u;have aw:=LH hn.1;have av:=LH hn.2;clear hn l u d4 dl;go_roundw
      case rel=>exact⟨_,_,_,_,_,_,_,_,_,_,aw.o,rfl⟩
      case measure=>exact av.o
   ·have HR:=LH (show EG P own H i w (.returned (.iface 79 (.int .i64 11))) w from⟨11,H,rfl,.waits g s1 f,own,h,HZ.refl _ _ _⟩);have aC:0<(H.tx i).aj.length:=List.length_pos_iff.2 f;have aF:(0:Int)<(H.tx i).aj.length:=by omega
    clear h I E z s1 f G g;unfold pw at *;go_enter Tryz.func14,Tryz.ntmps14;go_wp2_with fail;refine V.o.mono ?_;rintro e w1 ⟨rfl,rfl⟩;go_wp2_with fail;go_ret;exact HR.o
  ·have HR:=LH (show EG P own H i w (.returned (.iface 79 (.int .i64 6))) w from⟨6,H,rfl,.state g s1,own,h,HZ.refl _ _ _⟩);have e1:((H.tx i).state != 1)=VJ:=by simpa using s1
   clear h I E z s1 G g;unfold pw at *;go_enter Tryz.func14,Tryz.ntmps14;go_wp2_with fail;refine V.o.mono ?_;rintro e w1 ⟨rfl,rfl⟩;go_wp2_with fail;go_ret;exact HR.o
end
def Hs.came (H:Hs) (i s:Nat):Hs:=H.au i { H.tx i with ae:=AO (H.tx i).ae s (H.sh s).aa }
noncomputable def Hs.aU (H:Hs) (i s:Nat) (k:Sx) (mode:Int):Hs:=H.ar s { H.sh s with tab:=Am (H.sh s).tab i k mode }
def Hs.aM (H:Hs) (i:Nat) (k:Sx) (mode:Int):Hs:=H.au i { H.tx i with aj:=(H.tx i).aj++[(k,mode)] }
noncomputable def woundd (H:Hs) (l:List Int):Hs:=l.foldl Hs.aF H
def Ps (H:Hs) (i s:Nat):Prop:=∃ e,(H.tx i).ae s=Bs e/\e≠(H.sh s).aa
def E4 (k:Sx):Aa k<2:=Nat.mod_lt _ (by decide)
section
variable {H:Hs} {id:Int} {i:Nat} {k:Sx} {mode:Int}
def Ty (h:id<1\/H.m<id):H.lock id k mode=(7,H):=by unfold Hs.lock;rw[if_pos h]
def q3r (c:1<=i) (b:i<=H.m) (h:(H.tx i).state≠1):H.lock i k mode=(6,H):=by
 unfold Hs.lock;rw[if_neg (by omega)];rw[if_pos (by exact h)]
def q4i (e:1<=i) (d:i<=H.m) (h:(H.tx i).state=1) (c:k.length<=20) (b:H.head (Aa k)=B0):H.lock i k mode=(12,H):=by
 unfold Hs.lock;rw[if_neg (by omega)];rw[if_neg (by exact fun q=>q h)];rw[if_neg (by omega)];rw[if_pos b]
def q3s (f:1<=i) (e:i<=H.m) (h:(H.tx i).state=1) (d:k.length<=20) (c:H.head (Aa k)≠B0) (b:Ps H i (Aa k)):H.lock i k mode=(6,H.abort i):=by
 unfold Hs.lock;rw[if_neg (by omega)];rw[if_neg (by exact fun q=>q h)];rw[if_neg (by omega)];rw[if_neg c];rw[if_pos (by exact b)];rfl
def q3q (g:1<=i) (f:i<=H.m) (h:(H.tx i).state=1) (e:k.length<=20) (d:H.head (Aa k)≠B0) (c:¬Ps H i (Aa k)) (b:B6 (H.tx i).aj k=VJ):H.lock i k mode=(11,H.came i (Aa k)):=by
 unfold Hs.lock;rw[if_neg (by omega)];rw[if_neg (by exact fun q=>q h)];rw[if_neg (by omega)];rw[if_neg d];rw[if_neg (by exact c)];exact if_pos (by show B6 ((H.came i (Aa k)).tx i).aj k=VJ;rw[show((H.came i (Aa k)).tx i).aj=(H.tx i).aj by unfold Hs.came;rw[SL]];exact b)
def q6k (g:1<=i) (f:i<=H.m) (h:(H.tx i).state=1) (e:k.length<=20) (d:H.head (Aa k)≠B0) (c:¬Ps H i (Aa k)) (b:B6 (H.tx i).aj k=Jx):H.lock i k mode=(H.came i (Aa k)).aV i k mode:=by
 unfold Hs.lock;rw[if_neg (by omega)];rw[if_neg (by exact fun q=>q h)];rw[if_neg (by omega)];rw[if_neg d];rw[if_neg (by exact c)];exact if_neg (by show ¬B6 ((H.came i (Aa k)).tx i).aj k=VJ;rw[show((H.came i (Aa k)).tx i).aj=(H.tx i).aj by unfold Hs.came;rw[SL],b];simp)
def q2q (h:Ch (Ac (H.sh (Aa k)).tab k).ws i=VJ):H.aV i k mode=(9,H.aU i (Aa k) k mode):=by
 unfold Hs.aV;simp only[h,if_true];rfl
def q36 (h:Ch (Ac (H.sh (Aa k)).tab k).ws i=Jx) (b:Ai (Ac (H.sh (Aa k)).tab k).h i mode (Ac (H.sh (Aa k)).tab k).ws=VJ):H.aV i k mode=(0,H.aU i (Aa k) k mode):=by
 unfold Hs.aV;simp only[h,b,if_true,X3,if_false];rfl
def q37 (h:Ch (Ac (H.sh (Aa k)).tab k).ws i=Jx) (c:Ai (Ac (H.sh (Aa k)).tab k).h i mode (Ac (H.sh (Aa k)).tab k).ws=Jx) (b:(Ac (H.sh (Aa k)).tab k).ws.length=50):H.aV i k mode=(4,H.aU i (Aa k) k mode):=by
 unfold Hs.aV;simp only[h,c,b,if_true,X3,if_false];rfl
def q2c (h:Ch (Ac (H.sh (Aa k)).tab k).ws i=Jx) (c:Ai (Ac (H.sh (Aa k)).tab k).h i mode (Ac (H.sh (Aa k)).tab k).ws=Jx) (b:(Ac (H.sh (Aa k)).tab k).ws.length≠50) :
  H.aV i k mode=(if B6 ((woundd ((H.aU i (Aa k) k mode).aM i k mode) (D8 (Ac (H.sh (Aa k)).tab k).h i mode)).tx i).aj k then 11 else 0,woundd ((H.aU i (Aa k) k mode).aM i k mode) (D8 (Ac (H.sh (Aa k)).tab k).h i mode)):=by
 unfold Hs.aV;simp only[h,c,b,X3,if_false];rfl
open Classical in
def Fa (e:∀ o m,h o=Bs m->1<=o/\o<=60) {l:List Int} (hl:Ht h tx mode l):l=D8 h tx mode:=by
 refine Fx (lt:=(· < ·)) (fun a=>by omega) (fun a b c=>by omega) hl.1 ?_ (fun a=>?_)
 ·unfold D8;refine X6 _ ?_;rw[W8];refine List.Pairwise.imp (fun {a b} h=>?_) List.pairwise_lt_range;show(a:Int)<b;omega
 ·rw[hl.2 a];unfold D8;rw[List.mem_filter,decide_eq_true_iff];constructor
  ·rintro ⟨g,m,d,f⟩;refine⟨List.mem_map.2 ⟨a.toNat,List.mem_range.2 ?_,?_⟩,g,m,d,f⟩
   ·have:=e a m d;omega
   ·have:=e a m d;show(a.toNat:Int)=a;omega
  ·exact fun h=>h.2
def q8v (b:o∈D8 h tx mode):0<=o/\o<=60:=by
 unfold D8 at b;obtain⟨n,c,e⟩:=List.mem_map.1 (List.mem_filter.1 b).1;have:=List.mem_range.1 c;have e:(n:Int)=o:=e;omega
def q8x {l:List Int} {q:Nat} (h:l[q]? = Bs o):woundd H (l.take (q+1))=(woundd H (l.take q)).aF o:=by
 unfold woundd;rw[VX,h,WQ];rfl
def Is (H:Hs) (o:Int):Sz H (H.aF o):=by
 unfold Hs.aF;split
 ·exact(If H o.toNat).1.sz
 ·exact Sz.refl H
def q49:∀ (l:List Int) (H:Hs),Sz H (woundd H l)
 | [],H=>Sz.refl H
 | o::l,H=>(Is H o).trans (q49 l (H.aF o))
def Wf.aF (h:Wf H) (b:H.c=3) (o:Int):Wf (H.aF o):=by
 unfold Hs.aF;split
 ·rename_i hs;exact h.abort b (by omega) (by omega)
 ·exact h
def Wf.aX:∀ (l:List Int) {H:Hs},Wf H->H.c=3->Wf (woundd H l)
 | [],_,h,_=>h
 | o::l,H,h,hc=>Wf.aX l (h.aF hc o) ((Is H o).c.trans hc)
def Wf.came (h:Wf H) (f:1<=i) (d:i<=H.m) {s:Nat} (hs:s<2):Wf (H.came i s):=by
 have b:=h.tx i f d;refine h.au ⟨b.br,b.ps,fun k e c=>?_,b.pl,b.wn,b.wnd⟩ rfl;replace c:AO (H.tx i).ae s (H.sh s).aa k=Bs e:=c;unfold AO at c;split at c
 ·rename_i g;exact⟨by omega,trivial⟩
 ·exact b.sh k e c
def Wf.bV (h:Wf H) (f:Da T):Wf (H.ar s { H.sh s with tab:=T }):=by
 have e:∀ k,((H.ar s { H.sh s with tab:=T }).sh k).nd=(H.sh k).nd/\((H.ar s { H.sh s with tab:=T }).sh k).sto=(H.sh k).sto/\((H.ar s { H.sh s with tab:=T }).sh k).ao=(H.sh k).ao/\(((H.ar s { H.sh s with tab:=T }).sh k).tab=T\/((H.ar s { H.sh s with tab:=T }).sh k).tab=(H.sh k).tab):=fun k=>by
  by_cases c:k=s
  ·subst c;rw[show(H.ar k { H.sh k with tab:=T }).sh k = { H.sh k with tab:=T } from An _ _ _];exact⟨rfl,rfl,rfl,.inl rfl⟩
  ·rw[show(H.ar s { H.sh s with tab:=T }).sh k=H.sh k from As c _];exact⟨rfl,rfl,rfl,.inr rfl⟩
 refine Wf.of (H':=H.ar s { H.sh s with tab:=T }) h rfl rfl rfl rfl (fun k j b d=>by rw[(e k).1];exact h.nd k j b d) (fun k b=>?_) (fun k b=>by rw[(e k).2.1];exact h.sto k b) (fun k _=>(e k).2.2.1) h.net rfl h.tx (fun _=>rfl);rcases(e k).2.2.2 with e2|e2
 ·rw[e2];exact f
 ·rw[e2];exact h.tab k b
def Wf.aU (h:Wf H) (d:1<=i) (c:i<=H.m) {s:Nat} (hs:s<H.c) (b:k∈names):Wf (H.aU i s k mode):=
 h.bV ((h.tab s hs).lock (by have:=h.bz;omega) b mode)
def qau {l:List (Sx×Int)} : B6 l x=VJ↔x∈l.map (·.1):=by
 unfold B6;rw[List.any_eq_true,List.mem_map];exact⟨fun⟨a,c,b⟩=>⟨a,c,by simpa using b⟩,fun⟨a,c,b⟩=>⟨a,c,by simpa using b⟩⟩
def Wf.aM (h:Wf H) (l:1<=i) (j:i<=H.m) (g:k∈names) (e:B6 (H.tx i).aj k=Jx):Wf (H.aM i k mode):=by
 have d:=h.tx i l j;refine h.au ⟨d.br,d.ps,d.sh,d.pl,fun a c=>?_,?_⟩ rfl
 ·rcases List.mem_append.1 c with c|c
  ·exact d.wn a c
  ·rw[List.mem_singleton.1 c];exact g
 ·show(((H.tx i).aj++[(k,mode)]).map (·.1)).Nodup;rw[Xd,List.nodup_append];refine⟨d.wnd,by simp,fun a c b f=>?_⟩;simp only[WH,XN,VW] at f;subst f;rintro rfl;rw[qau.2 c] at e;cases e
end
section
variable {w w':D0} {own own':Ah} {P:Aq} {H:Hs}
def TX (c:Nat) (k:Sx) (w:D0) (h:w.cell? ⟨c,0,B0⟩=Bs (.string ⟨k.toArray⟩)) :
  DV 63 #[.pointer (Bs ⟨c,0,B0⟩)] (CB k) B0 w:=by
 intro W x g;have b:=Wa w _ h;have l:=(g.cell (p:=⟨c,0,B0⟩) b (fun e=>nomatch e)).trans h;have j:c<W.heap.size:=VL b g.size;have f:=LH (fun o=>(VK W.heap.size W).alloc (K0 _) o);clear h b g;unfold wnV CB;show VY _ _ #[_,_] _ fun e w'=>e=.returned (.bool (decide (x.1=k)))/\VP W.heap.size W w'
 by_cases e:x.1=k
 ·have d:(x.1 == k)=VJ:=by simpa using e
  rw[decide_eq_true e];go_enter Tryz.func63,Tryz.ntmps63;go_wp2_with fail;go_ret;exact⟨rfl,f.o _⟩
 ·have d:(x.1 == k)=Jx:=by simpa using e
  rw[decide_eq_false e];go_enter Tryz.func63,Tryz.ntmps63;go_wp2_with fail;go_ret;exact⟨rfl,f.o _⟩
def TW (c:Nat) (k:Sx) (w:D0) (h:w.cell? ⟨c,0,B0⟩=Bs (.string ⟨k.toArray⟩)) :
  DV 65 #[.pointer (Bs ⟨c,0,B0⟩)] (CB k) B0 w:=by
 intro W x g;have b:=Wa w _ h;have l:=(g.cell (p:=⟨c,0,B0⟩) b (fun e=>nomatch e)).trans h;have j:c<W.heap.size:=VL b g.size;have f:=LH (fun o=>(VK W.heap.size W).alloc (K0 _) o);clear h b g;unfold wnV CB;show VY _ _ #[_,_] _ fun e w'=>e=.returned (.bool (decide (x.1=k)))/\VP W.heap.size W w'
 by_cases e:x.1=k
 ·have d:(x.1 == k)=VJ:=by simpa using e
  rw[decide_eq_true e];go_enter Tryz.func65,Tryz.ntmps65;go_wp2_with fail;go_ret;exact⟨rfl,f.o _⟩
 ·have d:(x.1 == k)=Jx:=by simpa using e
  rw[decide_eq_false e];go_enter Tryz.func65,Tryz.ntmps65;go_wp2_with fail;go_ret;exact⟨rfl,f.o _⟩
def qav (l:List (Sx×Int)) (k:Sx):l.any (CB k)=B6 l k:=by
 unfold B6;congr 1;funext a;exact Bool.eq_iff_iff.2 (by simp[CB])
def qax {c:Nat} (b:Co w own i g v t) (f:EX t) (k:Sx) (j:w.cell? ⟨c,0,B0⟩=Bs (.string ⟨k.toArray⟩)) :
  VY Tryz.prog 62 #[v.Vx,.func (.func 63) #[] #[.pointer (Bs ⟨c,0,B0⟩)]] w fun e w'=>e=.returned (.bool (B6 t.aj k))/\VP w.heap.size w w':=by
 obtain⟨A,l,h,_,_⟩:=AR b.aj;have d:=b.aj;rw[h] at d ⊢;rw[<- qav];exact q74 _ _ _ B0 A _ l t.aj w (Pw Tryz.func63 (by kernel_rfl) rfl) (TX c k w j) (Rd.ay d) rfl (by have:=f.bD;omega)
def qaw {c:Nat} (b:Co w own i g v t) (f:EX t) (k:Sx) (j:w.cell? ⟨c,0,B0⟩=Bs (.string ⟨k.toArray⟩)) :
  VY Tryz.prog 62 #[v.Vx,.func (.func 65) #[] #[.pointer (Bs ⟨c,0,B0⟩)]] w fun e w'=>e=.returned (.bool (B6 t.aj k))/\VP w.heap.size w w':=by
 obtain⟨A,l,h,_,_⟩:=AR b.aj;have d:=b.aj;rw[h] at d ⊢;rw[<- qav];exact q74 _ _ _ B0 A _ l t.aj w (Pw Tryz.func65 (by kernel_rfl) rfl) (TW c k w j) (Rd.ay d) rfl (by have:=f.bD;omega)
end
def Aj (l:List Cm) (kind id:Int):Prop:=∃ c∈l,c.ai=kind/\c.tx=id
def q8q {kind id:Int} : JC kind id c=VJ↔c.ai=kind/\c.tx=id:=by unfold JC;simp
def PB {kind id:Int} : place l kind id=B0↔¬Aj l kind id:=by
 unfold place Aj;rw[Wn];constructor
 ·rintro h ⟨c,b,d⟩;have:=h c b;rw[Zd] at this;exact this (q8q.2 d)
 ·intro h c b;rw[Zd];exact fun e=>h ⟨c,b,q8q.1 e⟩
def q4g {kind id:Int} {p:Nat} (h:place l kind id=Bs p):∃ c,l[p]? = Bs c/\c.ai=kind/\c.tx=id:=by
 unfold place at h;rw[VU] at h;obtain⟨d,b,_⟩:=h;exact⟨_,L1 d,q8q.1 b⟩
def AH (H:Hs) (k:Nat) (kind id:Int):Prop:=∃ j p c,H.head k=Bs j/\(lg H k j)[p]? = Bs c/\c.ai=kind/\c.tx=id/\((p:Nat):Int)<H.an k j
inductive Bp:Hs->Hs->Prop where
 | abort {H:Hs} {i:Nat} (h1:1<=i) (hi:i<=H.m) (hs:(H.tx i).state=1\/((H.tx i).state=2/\(H.tx i).ag=0)):Bp H (H.abort i)
 | tell {H:Hs} {i k:Nat} {kind:Int} (h1:1<=i) (hi:i<=H.m) (hk:k<2) (hs:(kind=3/\(H.tx i).state=3)\/(kind=4/\(H.tx i).state=4)):Bp H (H.ax i kind k)
 | prep {H:Hs} {i k j:Nat} (b:Bool) (h1:1<=i) (hi:i<=H.m) (hk:k∈(H.tx i).af) (hh:H.head k=Bs j) (hp:¬Aj (lg H k j) 2 i) (hs:(H.tx i).state=2) (ht:(H.tx i).ag=0)
   (he:(H.tx i).ae k=Bs (H.sh k).aa) (hpl:((H.tx i).places k).getD 0<0):Bp H (H.add k j ⟨2,i,0,(H.tx i).of k⟩ b).2
 | place {H:Hs} {i k:Nat} (a:Int) (h1:1<=i) (hi:i<=H.m) (hk:k∈(H.tx i).af) (ha:0<=a) (hs:(H.tx i).state=2):Bp H (H.a8 i k a)
 | timed {H:Hs} {i:Nat} (h1:1<=i) (hi:i<=H.m) (hs:(H.tx i).state=2) (hp:∀ k∈(H.tx i).af,AH H k 2 i):Bp H (H.timed i)
 | decide {H:Hs} {i j:Nat} (b:Bool) (h1:1<=i) (hi:i<=H.m) (hh:H.head 2=Bs j) (hp:¬Aj (lg H 2 j) 3 i) (hs:(H.tx i).state=2) (ht:(H.tx i).ag≠0):Bp H (H.add 2 j ⟨3,i,(H.tx i).ag,[]⟩ b).2
 | commit {H:Hs} {i:Nat} (h1:1<=i) (hi:i<=H.m) (hs:(H.tx i).state=2) (hp:AH H 2 3 i):Bp H (H.az i 3)
 | came {H:Hs} {i k:Nat} (h1:1<=i) (hi:i<=H.m) (hk:k<2) (hs:(H.tx i).state=1) (hh:H.head k≠B0) (he:(H.tx i).ae k=B0\/(H.tx i).ae k=Bs (H.sh k).aa):Bp H (H.came i k)
 | got {H:Hs} {i:Nat} {x:Sx} {mode:Int} (h1:1<=i) (hi:i<=H.m) (hs:(H.tx i).state=1) (hx:x∈names) (hm:Br mode) (hh:H.head (Aa x)≠B0) (he:(H.tx i).ae (Aa x)=Bs (H.sh (Aa x)).aa)
   (hw:Ch (Ac (H.sh (Aa x)).tab x).ws i=Jx) (hf:Ai (Ac (H.sh (Aa x)).tab x).h i mode (Ac (H.sh (Aa x)).tab x).ws=VJ):Bp H (H.aU i (Aa x) x mode)
 | wait {H:Hs} {i:Nat} {x:Sx} {mode:Int} (h1:1<=i) (hi:i<=H.m) (hs:(H.tx i).state=1) (hx:x∈names) (hm:Br mode) (hh:H.head (Aa x)≠B0) (he:(H.tx i).ae (Aa x)=Bs (H.sh (Aa x)).aa)
   (hww:B6 (H.tx i).aj x=Jx) (hw:Ch (Ac (H.sh (Aa x)).tab x).ws i=Jx) (hf:Ai (Ac (H.sh (Aa x)).tab x).h i mode (Ac (H.sh (Aa x)).tab x).ws=Jx):Bp H ((H.aU i (Aa x) x mode).aM i x mode)
 | tick {H:Hs} {s j:Nat} (hs:s<3) (hl:Lv H s j):Bp H (Hs.aG s H j)
 | arrive {H:Hs} {k:Nat} {m:Ms} (hk:H.net.l[k]? = Bs m):Bp H (({ H with net:=takeS H.net k } : Hs).arrive m)
inductive Ag:Hs->Hs->Prop where
 | refl (H:Hs):Ag H H
 | step {A B C:Hs} (h:Bp A B) (r:Ag B C):Ag A C
def Ag.one {A B:Hs} (h:Bp A B):Ag A B:=.step h (.refl B)
def Ag.trans {A B C:Hs} (h:Ag A B) (k:Ag B C):Ag A C:=by
 induction h with
 | refl=>exact k
 | step h _ b=>exact .step h (b k)
def Bp.sm {H H':Hs} (h:Bp H H'):Sm H H':=by
 cases h with
 | abort=>exact(If _ _).1
 | tell=>exact⟨(DF _ _ _ _).1,(DF _ _ _ _).2.1,(DF _ _ _ _).2.2.1⟩
 | prep=>exact Sm.add _ _ _ _ _
 | place=>exact⟨rfl,rfl,rfl⟩
 | timed=>exact⟨(E3 _ _).1,(E3 _ _).2.1,(E3 _ _).2.2.1⟩
 | decide=>exact Sm.add _ _ _ _ _
 | commit=>exact⟨rfl,rfl,rfl⟩
 | came=>exact⟨rfl,rfl,rfl⟩
 | got=>exact⟨rfl,rfl,rfl⟩
 | wait=>exact⟨rfl,rfl,rfl⟩
 | tick=>exact⟨rfl,rfl,rfl⟩
 | @arrive k m c=>
  cases b:Hs.node { H with net:=takeS H.net k } m.a4 with
  | none=>rw[Ig b];exact⟨rfl,rfl,rfl⟩
  | some q=>
   obtain⟨s,j⟩:=q;rw[Ih b];have h:=Bz.take ((({ H with net:=takeS H.net k } : Hs).aq s j (((H.sh s).nd j).step m).1).send (((H.sh s).nd j).step m).2) s;exact⟨h.n,h.c,h.m⟩
def Ag.sm {H H':Hs} (h:Ag H H'):Sm H H':=by
 induction h with
 | refl=>exact Sm.refl _
 | step h _ b=>exact h.sm.trans b
section
variable {H:Hs} {i:Nat}
def qb4 {kind:Int} (b:1<=i):∀ (ks:List Nat) {H:Hs},i<=H.m->(∀ k∈ks,k<2)->((kind=3/\(H.tx i).state=3)\/(kind=4/\(H.tx i).state=4))->Ag H (telld H i kind ks)
 | [],H,_,_,_=>Ag.refl H
 | k::ks,H,hi,hk,hs=>by
  have e:=DF H i kind k;refine Ag.step (Bp.tell b hi (hk k VH) hs) ?_;exact qb4 b ks (by rw[e.2.2.1];exact hi) (fun x c=>hk x (VI _ c)) (by rw[(e.2.2.2.2 i).1];exact hs)
def q7m {kind:Int} (d:1<=i) (c:i<=H.m) (hs:(kind=3/\(H.tx i).state=3)\/(kind=4/\(H.tx i).state=4)):Ag H (H.aS i kind):=
 qb4 d _ c (fun _ b=>BR b) hs
def qbu (H:Hs) (s j:Nat) (c:Cm) (b:Bool) {k:Nat} (d:k≠s):(H.add s j c b).2.sh k=H.sh k:=by
 unfold Hs.add;split
 ·rfl
 ·exact((Bz.take _ s).sh k d).trans (Ic H j _ d)
def PA {H H':Hs} {k:Nat} (b:H'.n=H.n) (hs:H'.sh k=H.sh k):H'.head k=H.head k:=by unfold Hs.head;rw[b,hs]
def AH.congr {H H':Hs} {k:Nat} {kind id:Int} (h:AH H k kind id) (d:H'.n=H.n) (hs:H'.sh k=H.sh k):AH H' k kind id:=by
 obtain⟨j,p,c,f,e,b⟩:=h;exact⟨j,p,c,by rw[PA d hs];exact f,by unfold lg at *;rw[hs];exact e,b.1,b.2.1,by unfold Hs.an at *;rw[hs];exact b.2.2⟩
def q4h (d:Nd) (c:Cm) (b:Bool):(d.add c b).1.1.head=d.head/\(d.add c b).1.1.id=d.id:=by
 have e:(d.grow c).1.head=d.head/\(d.grow c).1.id=d.id:=by
  unfold Nd.grow Nd.tick;split
  ·split
   ·exact⟨rfl,rfl⟩
   ·split <;> exact⟨rfl,rfl⟩
  ·exact⟨rfl,rfl⟩
 unfold Nd.add;split
 ·exact⟨rfl,rfl⟩
 ·split
  ·exact⟨rfl,rfl⟩
  ·exact e
def Oh {H H':Hs} {k:Nat} (c:H'.n=H.n) (d:(H'.sh k).ao=(H.sh k).ao) (b:∀ j,((H'.sh k).nd j).id=((H.sh k).nd j).id/\((H'.sh k).nd j).head=((H.sh k).nd j).head):H'.head k=H.head k:=by
 unfold Hs.head Bm.cy Bm.ah;rw[c,d];have e:(fun j=>!(H.sh k).ao ((H'.sh k).nd j).id)=(fun j=>!(H.sh k).ao ((H.sh k).nd j).id):=funext fun j=>by rw[(b j).1]
 have f:(fun j=>((H'.sh k).nd j).head)=(fun j=>((H.sh k).nd j).head):=funext fun j=>(b j).2
 rw[e,f]
def UV (H:Hs) (s j:Nat) (c:Cm) (b:Bool) (k:Nat):(H.add s j c b).2.head k=H.head k:=by
 by_cases f:k=s
 ·subst f;unfold Hs.add;split
  ·rfl
  ·have d:=Bz.take ((H.aq k j (((H.sh k).nd j).add c b).1.1).send (((H.sh k).nd j).add c b).1.2) k;refine Oh d.n ?_ (fun a=>?_)
   ·rw[d.ao];show((H.aq k j _).sh k).ao=_;rw[D9]
   ·rw[d.nd];show(((H.aq k j _).sh k).nd a).id=_/\(((H.aq k j _).sh k).nd a).head=_;rw[D9];by_cases e:a=j
    ·subst e;simp only[An];exact⟨(q4h _ c b).2,(q4h _ c b).1⟩
    ·simp only[As e];exact⟨trivial,trivial⟩
 ·exact PA (C0 H s j c b).1 (qbu H s j c b f)
def U1 (d:Nd) (c:Cm):(d.grow c).1.log=d.log++[c]:=by
 unfold Nd.grow Nd.tick;split
 ·split
  ·rfl
  ·split <;> rfl
 ·rfl
def Oj {d:Nd} (h:(d.add c b).2.2=0):(d.add c b).1=d.grow c/\(d.log.length:Int)<=(d.add c b).2.1:=by
 unfold Nd.add at *;by_cases f:(!d.head)=VJ
 ·rw[if_pos f] at h;simp at h
 ·rw[if_neg f] at h ⊢;by_cases e:d.log.length=500
  ·rw[if_pos e] at h;simp at h
  ·rw[if_neg e] at h ⊢;refine⟨by first|rfl|trivial,?_⟩;show _<=(if b=VJ then(d.log.length:Int)+1 else d.log.length);split <;> omega
def Dp (h:t'.ae=t.ae):t'.af=t.af:=by unfold Bl.af;rw[h]
def QH (h:¬(H.add s j c b).1<0):lg (H.add s j c b).2 s j=lg H s j++[c]/\((lg H s j).length:Int)<=(H.add s j c b).1:=by
 unfold Hs.add at *;split at h
 ·exact absurd (show(-1:Int)<0 by decide) h
 ·rename_i f;rw[if_neg f];have e:=Oj (d:=(H.sh s).nd j) (c:=c) (b:=b) (Classical.not_not.1 f);refine⟨?_,e.2⟩;have g:=Bz.take ((H.aq s j (((H.sh s).nd j).add c b).1.1).send (((H.sh s).nd j).add c b).1.2) s;unfold lg;rw[g.nd];show(((H.aq s j _).sh s).nd j).log=_;rw[D9];simp only[An];rw[e.1,U1]
def Ge {k:Nat} (b:Bool) (D:Wf H) (q:1<=i) (o:i<=H.m) (y:k∈(H.tx i).af) (hs:(H.tx i).state=2) :
  Ag H (H.aA i k b).1/\((H.aA i k b).2≠B0->(∀ a,a≠k->(H.aA i k b).1.sh a=H.sh a)/\((H.aA i k b).1.tx i).ae=(H.tx i).ae)/\((H.aA i k b).2=Bs VJ->AH (H.aA i k b).1 k 2 i):=by
 cases f:H.head k with
 | none=>rw[q5l f];exact⟨Ag.refl H,fun _=>⟨fun _ _=>rfl,rfl⟩,fun h=>by simp at h⟩
 | some j=>
  cases g:place ((H.sh k).nd j).log 2 i with
  | some p=>
   rw[q3t f g];refine⟨Ag.one (Bp.place p q o y (by omega) hs),fun _=>⟨fun _ _=>rfl,?_⟩,fun h=>?_⟩
   ·show(Af H.tx i _ i).ae=_;rw[An]
   ·obtain⟨c,E,u⟩:=q4g g;refine⟨j,p,c,f,E,u.1,u.2,?_⟩;simp only[VR,decide_eq_true_eq] at h;exact h
  | none=>
   by_cases x:Dd H i k
   ·by_cases z:(H.tx i).ag=0
    ·rw[q5m f g x z];exact⟨Ag.one (Bp.abort q o (.inr ⟨hs,z⟩)),fun h=>absurd rfl h,fun h=>by simp at h⟩
    ·rw[q7f f g x z];exact⟨Ag.refl H,fun _=>⟨fun _ _=>rfl,rfl⟩,fun h=>by simp at h⟩
   ·have l:=x;unfold Dd at l;simp only[not_or] at l;obtain⟨I,m,G⟩:=l;have A:(H.tx i).ae k=Bs (H.sh k).aa:=by
     have J:=(Dy.1 y).2;cases e:(H.tx i).ae k with
     | none=>exact absurd e J
     | some v=>rw[e] at m;simp only[Option.getD_some,ne_eq,XR] at m;rw[m]
    have d:=C0 H k j ⟨2,i,0,(H.tx i).of k⟩ b;have r:(H.tx i).ag=0:=by have:=D.cR i q o;omega
    have s:=Ag.one (Bp.prep b q o y f (PB.1 g) hs r A (by omega));by_cases C:(H.add k j ⟨2,i,0,(H.tx i).of k⟩ b).1<0
    ·rw[q7e f g x C];refine⟨s.trans (Ag.one (Bp.abort q (by rw[d.2.2.1];exact o) (.inr ⟨by rw[(d.2.2.2.2 i).1];exact hs,by rw[(d.2.2.2.2 i).2.2.2.2];exact r⟩))),fun h=>absurd rfl h,fun h=>by simp at h⟩
    ·rw[q7g f g x C];have t:((H.add k j ⟨2,i,0,(H.tx i).of k⟩ b).2.tx i).af=(H.tx i).af:=by unfold Bl.af;rw[(d.2.2.2.2 i).2.2.1]
     refine⟨s.trans (Ag.one (Bp.place _ q (by rw[d.2.2.1];exact o) (by rw[t];exact y) (by omega) (by rw[(d.2.2.2.2 i).1];exact hs))),fun _=>⟨fun a B=>qbu H k j _ b B,?_⟩,fun h=>?_⟩
     ·show(((H.add k j ⟨2,i,0,(H.tx i).of k⟩ b).2.au i _).tx i).ae=_;rw[SL];exact(d.2.2.2.2 i).2.2.1
     ·simp only[VR,decide_eq_true_eq] at h;obtain⟨K,L⟩:=QH C;refine⟨j,(lg H k j).length,⟨2,i,0,(H.tx i).of k⟩,(UV H k j _ b k).trans f,?_,rfl,rfl,?_⟩
      ·show(lg (H.add k j ⟨2,i,0,(H.tx i).of k⟩ b).2 k j)[_]? = _;rw[K];simp
      ·show _<(H.add k j ⟨2,i,0,(H.tx i).of k⟩ b).2.an k j;omega
def q83 (b:Nat->Bool) (p:1<=i):∀ (ks:List Nat) {H:Hs} (c:Bool),Wf H->H.c=3->i<=H.m->(H.tx i).state=2->(∀ k∈ks,k∈(H.tx i).af)->ks.Nodup->
  Ag H (Hs.a3 i b ks H c).1/\((Hs.a3 i b ks H c).2≠B0->(∀ a,a ∉ ks->(Hs.a3 i b ks H c).1.sh a=H.sh a)/\((Hs.a3 i b ks H c).1.tx i).ae=(H.tx i).ae)/\
   ((Hs.a3 i b ks H c).2=Bs VJ->∀ k∈ks,AH (Hs.a3 i b ks H c).1 k 2 i)
 | [],H,c,_,_,_,_,_,_=>⟨Ag.refl H,fun _=>⟨fun _ _=>rfl,rfl⟩,fun _ k o=>by cases o⟩
 | k::ks,H,c,wf,hc,hi,hs,hks,hn=>by
  rw[List.nodup_cons] at hn;have o:=hks k VH;obtain⟨t,J,I⟩:=Ge (b k) wf p hi o hs;have q:=q65 H i k (b k);have C:=wf.aA hc p hi (BR o) (b k);have j:Hs.a3 i b (k::ks) H c=(match (H.aA i k (b k)).2 with|none=>((H.aA i k (b k)).1,B0)|some a=>Hs.a3 i b ks (H.aA i k (b k)).1 (c && a)):=rfl;rw[j];cases e:(H.aA i k (b k)).2 with
  | none=>exact⟨t,fun h=>absurd rfl h,fun h=>by simp at h⟩
  | some a=>
   have g:(H.aA i k (b k)).2≠B0:=by rw[e];simp
   obtain⟨G,s⟩:=J g;have l:((H.aA i k (b k)).1.tx i).af=(H.tx i).af:=by unfold Bl.af;rw[s]
   obtain⟨q1,r,A⟩:=q83 b p ks (c && a) C (q.sm.c.trans hc) (by rw[q.sm.m];exact hi) (by rw[q.on g];exact hs) (fun x d=>by rw[l];exact hks x (VI _ d)) hn.2;simp only;refine⟨t.trans q1,fun f=>?_,fun h x d=>?_⟩
   ·obtain⟨z,v⟩:=r f;exact⟨fun x d=>(z x (fun h=>d (VI _ h))).trans (G x (fun e=>d (e▸VH))),v.trans s⟩
   ·rcases List.mem_cons.1 d with rfl|d
    ·have m:a=VJ:=by
      cases a with
      | true=>rfl
      | false=>
       exfalso;have D:∀ (ks:List Nat) (H:Hs),(Hs.a3 i b ks H Jx).2≠Bs VJ:=by
        intro ks;induction ks with
        | nil=>intro H h;simp[Hs.a3] at h
        | cons y ks B=>
         intro H h;have E:Hs.a3 i b (y::ks) H Jx=(match (H.aA i y (b y)).2 with|none=>((H.aA i y (b y)).1,B0)|some a=>Hs.a3 i b ks (H.aA i y (b y)).1 (Jx && a)):=rfl;rw[E] at h;cases u:(H.aA i y (b y)).2 with
         | none=>rw[u] at h;simp at h
         | some a=>rw[u] at h;exact B _ h
       rw[Bool.and_false] at h;exact D _ _ h
     subst m;exact(I e).congr (q1.sm.n) ((r (by rw[h];simp)).1 x hn.1)
    ·exact A h x d
def IF (b:Wf H) (e:1<=i) (c:i<=H.m):((H.timed i).tx i).ag≠0:=by
 have f:=b.cR i e c;have d:=b.bk;unfold Hs.timed;split
 ·show(Af H.tx i _ i).ag≠0;rw[An];show Xn (H.ag+1)≠0;rw[show Xn (H.ag+1)=H.ag+1 from Xf _ ⟨by omega,by omega⟩];omega
 ·rename_i h;exact h
def q99 (c:1<=i) (b:i<=H.m) (hs:(H.tx i).state=2) (d:AH H 2 3 i):Ag H (H.commit i):=by
 refine Ag.step (Bp.commit c b hs d) ?_;refine q7m (H:=H.az i 3) c b (.inl ⟨rfl,?_⟩);show(Af H.tx i _ i).state=3;rw[An]
def Hk (b:Bool) (t:Wf H) (q:1<=i) (l:i<=H.m) (hs:(H.tx i).state=2) (u:∀ k∈(H.tx i).af,AH H k 2 i):Ag H (H.aI i b).1:=by
 cases o:H.head 2 with
 | none=>rw[q67 o];exact Ag.refl H
 | some j=>
  cases e:place ((H.sh 2).nd j).log 3 i with
  | some p=>
   rw[q66 o e];split
   ·exact Ag.refl H
   ·rename_i r;obtain⟨c,B,A,z⟩:=q4g e;exact q99 q l hs ⟨j,p,c,o,B,A,z,by omega⟩
  | none=>
   rw[q85 o e];have f:=E3 H i;have y:=Bp.timed q l hs u;have m:(H.timed i).head 2=Bs j:=by rw[PA f.1 (by rw[f.2.2.2.1])];exact o
   have h:¬Aj (lg (H.timed i) 2 j) 3 i:=by unfold lg;rw[f.2.2.2.1];exact PB.1 e
   have d:=C0 (H.timed i) 2 j ⟨3,i,((H.timed i).tx i).ag,[]⟩ b;have g:((H.timed i).tx i).state=2:=(U4 H i i).trans hs;have s:Ag H ((H.timed i).add 2 j ⟨3,i,((H.timed i).tx i).ag,[]⟩ b).2:=Ag.step y (Ag.one (Bp.decide b q (by rw[f.2.2.1];exact l) m h g (IF t q l)));split
   ·exact s
   ·rename_i v;split
    ·exact s
    ·rename_i r;obtain⟨x,C⟩:=QH v;refine s.trans (q99 q (by rw[d.2.2.1,f.2.2.1];exact l) (by rw[(d.2.2.2.2 i).1];exact g) ⟨j,(lg (H.timed i) 2 j).length,⟨3,i,((H.timed i).tx i).ag,[]⟩,(UV _ 2 j _ b 2).trans m,by rw[x];simp,rfl,rfl,?_⟩);omega
def Pb (b:Nat->Bool) (m:Wf H) (o:H.c=3) (j:1<=i) (g:i<=H.m) (hs:(H.tx i).state=2):Ag H (H.ends i b).1:=by
 obtain⟨l,s,r⟩:=q83 b j (H.tx i).af VJ m o g hs (fun _ h=>h) (q2o _);have f:=q40 i b (H.tx i).af H VJ;have p:=Wf.a3 (b:=b) j (H.tx i).af VJ m o g (fun k q=>BR q);cases e:(Hs.a3 i b (H.tx i).af H VJ).2 with
 | none=>rw[q5k (show _=((Hs.a3 i b (H.tx i).af H VJ).1,B0) from by rw[<- e])];exact l
 | some a=>
  cases a with
  | false=>rw[q4n (show _=((Hs.a3 i b (H.tx i).af H VJ).1,Bs Jx) from by rw[<- e])];exact l
  | true=>
   rw[q4m (show _=((Hs.a3 i b (H.tx i).af H VJ).1,Bs VJ) from by rw[<- e])];have c:(Hs.a3 i b (H.tx i).af H VJ).2≠B0:=by rw[e];simp
   have d:((Hs.a3 i b (H.tx i).af H VJ).1.tx i).af=(H.tx i).af:=Dp (s c).2;exact l.trans (Hk _ p j (by rw[f.sm.m];exact g) (by rw[f.on c];exact hs) (by rw[d];exact r e))
def GN (b:Nat->Bool) (e:Wf H) (f:H.c=3) (d:1<=i) (c:i<=H.m):Ag H (H.av i b).1:=by
 unfold Hs.av;split
 ·rename_i h;exact Pb b e f d c h
 ·split
  ·rename_i h;exact q7m d c (.inl ⟨rfl,h⟩)
  ·split
   ·rename_i h;exact q7m d c (.inr ⟨rfl,h⟩)
   ·exact Ag.refl H
def q7q (bs:Nat->Nat->Bool):∀ (k i:Nat) (r:Hs×Bool),Wf r.1->r.1.c=3->1<=i->i+k<=r.1.m+1->Ag r.1 (Hs.round bs k i r).1
 | 0,_,r,_,_,_,_=>Ag.refl r.1
 | k+1,i,r,c,b,d,e=>by
  have hs:=GN (bs i) c b d (show i<=r.1.m by omega);exact hs.trans (q7q bs k (i+1) ((r.1.av i (bs i)).1,(r.1.av i (bs i)).2 || r.2) (c.av b d (by omega) _) (hs.sm.c.trans b) (by omega) (by show _<=(r.1.av i (bs i)).1.m+1;rw[hs.sm.m];omega))
def q2m {H H':Hs} (h:DL H H'):Wf H->H.c=3->Ag H H':=by
 induction h with
 | @stop H bs _=>exact fun c b=>q7q bs H.m 1 (H,Jx) c b (K0 _) (by show _<=H.m+1;omega)
 | @more H H' bs _ _ e=>
  intro c b;have d:=q7q bs H.m 1 (H,Jx) c b (K0 _) (by show _<=H.m+1;omega);exact d.trans (e (Wf.round H.m 1 (r:=(H,Jx)) c b (K0 _) (by show _<=H.m+1;omega)) (d.sm.c.trans b))
def q8p {k:Sx} {mode:Int} (h:Am (H.sh (Aa k)).tab i k mode=(H.sh (Aa k)).tab):H.aU i (Aa k) k mode=H:=by
 unfold Hs.aU;rw[h];exact q7o H _
def q5s (b:Wf H) (o:Int):Ag H (H.aF o):=by
 unfold Hs.aF;split
 ·rename_i h;have e:((o.toNat:Nat):Int)=o:=by omega
  exact Ag.one (Bp.abort (by omega) (by omega) (.inl h.2.2))
 ·exact Ag.refl H
def q4p:∀ (l:List Int) {H:Hs},Wf H->H.c=3->Ag H (Go.Proofs.YtccahlhdifadfaaGreatDoor.woundd H l)
 | [],H,_,_=>Ag.refl H
 | o::l,H,wf,hc=>by
  have b:=q5s wf o;exact b.trans (q4p l (wf.aF hc o) (b.sm.c.trans hc))
def Jp {k:Sx} {mode:Int} (p:Wf H) (r:H.c=3) (f:1<=i) (e:i<=H.m) (hs:(H.tx i).state=1) (d:k∈names) (l:Br mode) (m:H.head (Aa k)≠B0) (o:(H.tx i).ae (Aa k)=Bs (H.sh (Aa k)).aa)
  (j:B6 (H.tx i).aj k=Jx):Ag H (H.aV i k mode).2:=by
 by_cases b:Ch (Ac (H.sh (Aa k)).tab k).ws i=VJ
 ·rw[q2q b];show Ag H (H.aU i (Aa k) k mode);rw[q8p (by unfold Am;rw[if_pos b])];exact Ag.refl H
 ·have b:Ch (Ac (H.sh (Aa k)).tab k).ws i=Jx:=by simpa using b
  by_cases c:Ai (Ac (H.sh (Aa k)).tab k).h i mode (Ac (H.sh (Aa k)).tab k).ws=VJ
  ·rw[q36 b c];exact Ag.one (Bp.got f e hs d l m o b c)
  ·have c:Ai (Ac (H.sh (Aa k)).tab k).h i mode (Ac (H.sh (Aa k)).tab k).ws=Jx:=by simpa using c
   by_cases h:(Ac (H.sh (Aa k)).tab k).ws.length=50
   ·rw[q37 b c h];show Ag H (H.aU i (Aa k) k mode);rw[q8p (by unfold Am;rw[b,if_neg (by simp),c,if_neg (by simp),if_pos h])];exact Ag.refl H
   ·rw[q2c b c h];have g:=Bp.wait f e hs d l m o j b c;refine Ag.step g ?_;have q:Wf ((H.aU i (Aa k) k mode).aM i k mode):=(p.aU f e (s:=Aa k) (by have:=E4 k;omega) d).aM f e d j;exact q4p _ q r
def QO {id:Int} {k:Sx} {mode:Int} (o:Wf H) (q:H.c=3) (j:k∈names) (p:Br mode):Ag H (H.lock id k mode).2:=by
 by_cases r:id<1\/H.m<id
 ·rw[Ty r];exact Ag.refl H
 ·obtain⟨i,rfl⟩:∃ i:Nat,id=i:=⟨id.toNat,by omega⟩
  have d:1<=i:=by omega
  have c:i<=H.m:=by omega
  by_cases hs:(H.tx i).state=1
  ·by_cases f:H.head (Aa k)=B0
   ·rw[q4i d c hs (Ea j) f];exact Ag.refl H
   ·by_cases b:Ps H i (Aa k)
    ·rw[q3s d c hs (Ea j) f b];exact Ag.one (Bp.abort d c (.inl hs))
    ·have m:(H.tx i).ae (Aa k)=B0\/(H.tx i).ae (Aa k)=Bs (H.sh (Aa k)).aa:=by
      cases e:(H.tx i).ae (Aa k) with
      | none=>exact .inl rfl
      | some v=>exact .inr (by rw[Classical.byContradiction (fun h=>b ⟨v,e,h⟩)])
     have l:=Bp.came d c (E4 k) hs f m;by_cases g:B6 (H.tx i).aj k=VJ
     ·rw[q3q d c hs (Ea j) f b g];exact Ag.one l
     ·have g:B6 (H.tx i).aj k=Jx:=by simpa using g
      rw[q6k d c hs (Ea j) f b g];refine Ag.step l (Jp (o.came d c (E4 k)) q d c ?_ j p f ?_ ?_)
      ·show(Af H.tx i _ i).state=1;rw[An];exact hs
      ·show(Af H.tx i _ i).ae _=_;rw[An];show AO _ _ _ _=_;unfold AO;rw[if_pos rfl];rfl
      ·show B6 (Af H.tx i _ i).aj k=Jx;rw[An];exact g
  ·rw[q3r d c hs];exact Ag.refl H
def Gf (id:Int):Ag H (H.drop id).2:=by
 unfold Hs.drop;split
 ·exact Ag.refl H
 ·split
  ·exact Ag.refl H
  ·rename_i c b;exact Ag.one (Bp.abort (by omega) (by omega) (.inl (Classical.not_not.1 b)))
def Ej (d:Nd):d.tick.1.id=d.id/\d.tick.1.log=d.log/\d.tick.1.aa=d.aa/\d.tick.1.nodes=d.nodes/\d.tick.1.at_=d.at_:=by
 unfold Nd.tick;split
 ·exact⟨rfl,rfl,rfl,rfl,rfl⟩
 ·split <;> exact⟨rfl,rfl,rfl,rfl,rfl⟩
def Ff (s j t a:Nat):Lv (Hs.aG s H j) t a↔Lv H t a:=q62 (H:=H) (Ej _).1
def q94 {s:Nat} (hs:s<3):∀ (l:List Nat) {H:Hs},(∀ j∈l,Lv H s j)->Ag H (tickds s H l)
 | [],H,_=>Ag.refl H
 | j::l,H,hl=>Ag.step (Bp.tick hs (hl j VH)) (q94 hs l (fun a b=>(Ff s j s a).2 (hl a (VI _ b))))
def qb0:∀ (ss:List Nat) {H:Hs},(∀ s∈ss,s<3)->Ag H (tickd H ss)
 | [],H,_=>Ag.refl H
 | s::ss,H,hs=>by
  have d:Ag H (H.bm s):=by rw[Fe];exact q94 (hs s VH) _ (fun j c=>ET.1 c)
  exact d.trans (qb0 ss (fun x b=>hs x (VI _ b)))
def q95 {H':Hs} (h:DX H H') (d:Wf H) (b:H.c=3):Ag H H':=by
 have c:Ag H H.aT:=qb0 [0,1,2] (by simp);have e:Wf H.aT:=Wf.c4 [0,1,2] d b (by simp);exact c.trans (q2m h e (c.sm.c.trans b))
def q5n {k:Nat} {H':Hs} (h:Pu H k H') (b:Wf H) (d:H.c=3):Ag H H':=by
 cases h with
 | none _=>exact Ag.refl H
 | @some m c _ r=>
  have e:=Bp.arrive c;exact Ag.step e (q2m r ((b.aE k).arrive d (b.net m (S2 c))) (e.sm.c.trans d))
def L4 {H H':Hs} (h:Pq n H H'):Wf H->H.c=3->Ag H H':=by
 induction h with
 | zero=>exact fun _ _=>Ag.refl _
 | none _=>exact fun _ _=>Ag.refl _
 | more _ d _ f=>
  intro c b;have e:=q5n d c b;exact e.trans (f (d.wf c b).1 (e.sm.c.trans b))
def Drain.wf {n:Nat} {H H':Hs} (h:Pq n H H'):Wf H->H.c=3->Wf H':=by
 induction h with
 | zero=>exact fun h _=>h
 | none _=>exact fun h _=>h
 | more _ d _ e=>exact fun c b=>e (d.wf c b).1 ((d.wf c b).2.c.trans b)
def qai {H H':Hs} (h:Cd n H H'):Wf H->H.c=3->Ag H H':=by
 induction h with
 | zero=>exact fun _ _=>Ag.refl _
 | more t d _ j=>
  intro e b;have c:=q95 t e b;have f:=(t.wf e b).1;have g:=L4 d f (c.sm.c.trans b);exact(c.trans g).trans (j (Drain.wf d f (c.sm.c.trans b)) ((c.trans g).sm.c.trans b))
end
def Qp (H:Hs) (id:Int):Int:=(H.tx id.toNat).state
def SH (H:Hs) (id:Int):Int:=(H.tx id.toNat).ag
def UA (H:Hs) (l:List Cm):Prop:=∀ (p:Nat) (c:Cm),l[p]? = Bs c->(1<=c.tx/\c.tx<=H.m)/\
 (c.ai=2\/(c.ai=3/\Qp H c.tx=3/\c.ag=SH H c.tx/\1<=c.ag/\Aj (l.take p) 2 c.tx)\/(c.ai=4/\Qp H c.tx=4))
def UB (H:Hs) (l:List Cm):Prop:=∀ c∈l,(1<=c.tx/\c.tx<=H.m)/\c.ai=3/\c.ag=SH H c.tx/\1<=c.ag
structure CQ (H:Hs):Prop where
 pl:∀ k,k<2->∀ j,Lv H k j->UA H (lg H k j)
 p2:∀ j,Lv H 2 j->UB H (lg H 2 j)
 ct:∀ i,1<=i->i<=H.m->(H.tx i).state=3->1<=(H.tx i).ag
structure BF (H H':Hs):Prop where
 m:H.m<=H'.m
 s3:∀ i,1<=i->i<=H.m->(H.tx i).state=3->(H'.tx i).state=3
 s4:∀ i,1<=i->i<=H.m->(H.tx i).state=4->(H'.tx i).state=4
 tm:∀ i,1<=i->i<=H.m->1<=(H.tx i).ag->(H'.tx i).ag=(H.tx i).ag
def BF.refl (H:Hs):BF H H:=⟨K0 _,fun _ _ _ h=>h,fun _ _ _ h=>h,fun _ _ _ _=>rfl⟩
def BF.trans {A B C:Hs} (h:BF A B) (k:BF B C):BF A C:=
 ⟨VO h.m k.m,fun i c b e=>k.s3 i c (VO b h.m) (h.s3 i c b e),fun i c b e=>k.s4 i c (VO b h.m) (h.s4 i c b e),
  fun i c b e=>(k.tm i c (VO b h.m) (by rw[h.tm i c b e];exact e)).trans (h.tm i c b e)⟩
def BF.of {H H':Hs} (b:H'.m=H.m) (h:∀ i,(H'.tx i).state=(H.tx i).state/\(H'.tx i).ag=(H.tx i).ag):BF H H':=
 ⟨by omega,fun i _ _ e=>(h i).1.trans e,fun i _ _ e=>(h i).1.trans e,fun i _ _ _=>(h i).2⟩
def Aj.mono {kind id:Int} (h:Aj l kind id) (hl:∀ c∈l,c∈l'):Aj l' kind id:=by obtain⟨c,b,d⟩:=h;exact⟨c,hl c b,d⟩
def UA.mono {H H':Hs} (t:BF H H') (h:UA H l) (j:l' <+: l):UA H' l':=fun p c m=>by
 have e:=getElem?_prefix j m;obtain⟨⟨u,y⟩,s⟩:=h p c e;have d:c.tx.toNat<=H.m:=by omega
 have b:1<=c.tx.toNat:=by omega
 refine⟨⟨u,by have:=t.m;omega⟩,s.imp id (Or.imp (fun⟨g,f,x,v,o⟩=>⟨g,t.s3 _ b d f,?_,v,?_⟩) (fun⟨g,f⟩=>⟨g,t.s4 _ b d f⟩))⟩
 ·rw[x];exact(t.tm _ b d (by show 1<=SH H c.tx;omega)).symm
 ·obtain⟨r,rfl⟩:=j;have q:=(List.getElem?_eq_some_iff.1 m).1;rw[Wq (by omega)] at o;exact o
def UB.mono {H H':Hs} (t:BF H H') (h:UB H l) (d:l' <+: l):UB H' l':=fun c f=>by
 obtain⟨⟨o,p⟩,m,j,g⟩:=h c (d.subset f);have e:c.tx.toNat<=H.m:=by omega
 have b:1<=c.tx.toNat:=by omega
 exact⟨⟨o,by have:=t.m;omega⟩,m,by rw[j];exact(t.tm _ b e (by show 1<=SH H c.tx;omega)).symm,g⟩
def BJ (H H':Hs):Prop:=∀ k j,k<3->Lv H' k j->∃ i,Lv H k i/\lg H' k j <+: lg H k i
def AP (H H':Hs):Prop:=∀ i,1<=i->i<=H'.m->(H'.tx i).state=3->i<=H.m/\(H.tx i).state=3
def AP.of {H H':Hs} (b:H'.m=H.m) (h:∀ i,(H'.tx i).state=(H.tx i).state):AP H H':=fun i _ c e=>⟨by omega,(h i).symm.trans e⟩
def CQ.sub' {H H':Hs} (h:CQ H) (t:BF H H') (s:BJ H H') (e:∀ i,1<=i->i<=H'.m->(H'.tx i).state=3->1<=(H'.tx i).ag):CQ H':=
 ⟨fun k f j c=>by obtain⟨i,d,b⟩:=s k j (by omega) c;exact(h.pl k f i d).mono t b,
  fun j c=>by obtain⟨i,d,b⟩:=s 2 j (by omega) c;exact(h.p2 i d).mono t b,e⟩
def CQ.sub {H H':Hs} (h:CQ H) (t:BF H H') (n:AP H H') (s:BJ H H'):CQ H':=
 h.sub' t s (fun i c d e=>by obtain⟨a,b⟩:=n i c d e;have:=h.ct i c a b;rw[t.tm i c a this];exact this)
def BJ.same {H H':Hs} (h:AK H H'):BJ H H':=fun k j _ b=>⟨j,h.lv.1 b,by rw[h.lg];exact VQ _⟩
section
variable {H:Hs} {i:Nat}
def Mr (h:(((H.sh s).nd j).add c b).2.2≠0):(H.add s j c b).2=H:=by unfold Hs.add;rw[if_pos h]
def Hr (H:Hs) (s j:Nat) (c:Cm) (b:Bool):((H.add s j c b).2=H\/∀ a i,lg (H.add s j c b).2 a i=if a=s/\i=j then lg H s j++[c] else lg H a i)/\∀ a i,Lv (H.add s j c b).2 a i↔Lv H a i:=by
 by_cases d:(((H.sh s).nd j).add c b).2.2=0
 ·have e:=(Oj d).1;have hs:=AK.take ((H.aq s j (((H.sh s).nd j).add c b).1.1).send (((H.sh s).nd j).add c b).1.2) s;have f:(H.add s j c b).2=((H.aq s j (((H.sh s).nd j).add c b).1.1).send (((H.sh s).nd j).add c b).1.2).take s:=by unfold Hs.add;rw[if_neg (by simp[d])]
  rw[f];refine⟨.inr fun a i=>?_,fun a i=>?_⟩
  ·rw[hs.lg];show lg (H.aq s j _) a i=_;rw[q4z,e,U1];rfl
  ·rw[hs.lv];exact q62 (H:=H) (s:=s) (j:=j) (q4h _ c b).2
 ·rw[Mr d];exact⟨.inl rfl,fun _ _=>Yl⟩
def Ho (H:Hs) (s j:Nat) (c:Cm) (b:Bool):BF H (H.add s j c b).2:=by
 have h:=C0 H s j c b;exact BF.of h.2.2.1 (fun i=>⟨(h.2.2.2.2 i).1,(h.2.2.2.2 i).2.2.2.2⟩)
def q88 {p:Nat} (h:p<=l.length):(l++[c]).take p=l.take p:=Wq h
def CQ.add (h:CQ H) {s j:Nat} {c:Cm} (b:Bool) (hl:Lv H s j) (v:1<=c.tx/\c.tx<=H.m)
  (z:s<2->c.ai=2\/(c.ai=3/\Qp H c.tx=3/\c.ag=SH H c.tx/\1<=c.ag/\Aj (lg H s j) 2 c.tx)\/(c.ai=4/\Qp H c.tx=4))
  (r:s=2->c.ai=3/\c.ag=SH H c.tx/\1<=c.ag):CQ (H.add s j c b).2:=by
 obtain⟨l,x⟩:=Hr H s j c b;rcases l with l|l
 ·rw[l];exact h
 ·have t:=Ho H s j c b;have hs:=C0 H s j c b;have o:∀ id,Qp (H.add s j c b).2 id=Qp H id:=fun id=>(hs.2.2.2.2 _).1
  have m:∀ id,SH (H.add s j c b).2 id=SH H id:=fun id=>(hs.2.2.2.2 _).2.2.2.2
  refine⟨fun k g a u=>?_,fun a u=>?_,fun a B A e=>by rw[(hs.2.2.2.2 a).2.2.2.2];exact h.ct a B (by rw[<- hs.2.2.1];exact A) ((hs.2.2.2.2 a).1.symm.trans e)⟩
  ·rw[l];split
   ·rename_i e;obtain⟨rfl,rfl⟩:=e;intro p d f;by_cases y:p<(lg H k a).length
    ·rw[Wg y] at f;have:=(h.pl k g a hl).mono t (VQ _) p d f;rw[q88 (by omega)];exact this
    ·rw[Wk (by omega)] at f;have q:p-(lg H k a).length=0:=by
      have:=(List.getElem?_eq_some_iff.1 f).1;simp at this;omega
     rw[q] at f;simp only[Ft,VR] at f;subst f;rw[q88 (by omega),o,m,hs.2.2.1];have C:(lg H k a).take p=lg H k a:=V0 (by omega);rw[C];exact⟨v,z g⟩
   ·exact(h.pl k g a ((x k a).1 u)).mono t (VQ _)
  ·rw[l];split
   ·rename_i e;obtain⟨rfl,rfl⟩:=e;intro d f;rcases List.mem_append.1 f with f|f
    ·exact(h.p2 a hl).mono t (VQ _) d f
    ·rw[VW] at f;subst f;rw[m,hs.2.2.1];exact⟨v,r rfl⟩
   ·exact(h.p2 a ((x 2 a).1 u)).mono t (VQ _)
def CQ.ax (h:CQ H) {k:Nat} {kind:Int} (l:1<=i) (g:i<=H.m) (f:k<2) (hs:(kind=3/\(H.tx i).state=3/\1<=(H.tx i).ag)\/(kind=4/\(H.tx i).state=4)):CQ (H.ax i kind k):=by
 cases b:H.head k with
 | none=>rw[I1 b];exact h
 | some j=>
  rw[Ie b];split
  ·rename_i d;refine h.add Jx (Cu b).1 (by show 1<=(i:Int)/\(i:Int)<=H.m;omega) (fun _=>?_) (fun e=>by omega);rcases hs with ⟨rfl,hs,c⟩|⟨rfl,hs⟩
   ·refine .inr (.inl ⟨rfl,hs,?_,?_,?_⟩)
    ·show(if (3:Int)=3 then(H.tx i).ag else 0)=_;rw[if_pos rfl];rfl
    ·show 1<=(if (3:Int)=3 then(H.tx i).ag else 0);rw[if_pos rfl];exact c
    ·have:=d.2;rw[ne_eq,PB,XR] at this;exact this
   ·exact .inr (.inr ⟨rfl,hs⟩)
  ·exact h
def CQ.aN {kind:Int} (b:1<=i):∀ (ks:List Nat) {H:Hs},CQ H->i<=H.m->(∀ k∈ks,k<2)->((kind=3/\(H.tx i).state=3/\1<=(H.tx i).ag)\/(kind=4/\(H.tx i).state=4))->CQ (Go.Proofs.YtccahlhdifadfaaGreatDoor.telld H i kind ks)
 | [],_,h,_,_,_=>h
 | k::ks,H,h,hi,hk,hs=>by
  have e:=DF H i kind k;exact CQ.aN b ks (h.ax b hi (hk k VH) hs) (by rw[e.2.2.1];exact hi) (fun x c=>hk x (VI _ c)) (by rw[(e.2.2.2.2 i).1,(e.2.2.2.2 i).2.2.2.2];exact hs)
def Kn (i:Nat):∀ (ks:List Nat) (H:Hs),AK H (reld H i ks)
 | [],H=>AK.refl H
 | k::ks,H=>(AK.rel H k i).trans (Kn i ks (H.rel k i))
def CQ.abort (h:CQ H) (o:1<=i) (l:i<=H.m) (hs:(H.tx i).state=1\/((H.tx i).state=2/\(H.tx i).ag=0)):CQ (H.abort i):=by
 rw[Ia];have t1:BF H (H.al i):=by
  refine⟨K0 _,fun a _ _ e=>?_,fun a _ _ e=>?_,fun a _ _ e=>?_⟩
  ·show(Af H.tx i _ a).state=_;by_cases b:a=i
   ·subst b;rw[e] at hs;rcases hs with h|⟨h,_⟩ <;> cases h
   ·rw[As b];exact e
  ·show(Af H.tx i _ a).state=_;by_cases b:a=i
   ·subst b;rw[An]
   ·rw[As b];exact e
  ·show(Af H.tx i _ a).ag=_;by_cases b:a=i
   ·subst b;rw[An]
   ·rw[As b]
 have b:=FI i (H.tx i).af (H.al i);have g:BF (H.al i) (reld (H.al i) i (H.tx i).af):=BF.of b.2.2.1 (fun a=>⟨(b.2.2.2.2 a).1,(b.2.2.2.2 a).2.2.2.2⟩);have c:AP H (reld (H.al i) i (H.tx i).af):=fun a p d e=>by
  rw[(b.2.2.2.2 a).1] at e;have e:(Af H.tx i _ a).state=3:=e;refine⟨by rw[b.2.2.1] at d;exact d,?_⟩;by_cases f:a=i
  ·subst f;rw[An] at e;cases e
  ·rw[As f] at e;exact e
 have m:=h.sub (t1.trans g) c (BJ.same ((AK.au H i _).trans (Kn i _ _)));refine CQ.aN o _ m (by rw[b.2.2.1];exact l) (fun k j=>BR j) (.inr ⟨rfl,?_⟩);rw[(b.2.2.2.2 i).1];show(Af H.tx i _ i).state=4;rw[An]
def qc7 (h:BN H) (hs:s<H.c) (hl:Lv H s j) {m:Ms} (f:m∈H.net.l):∃ q,Lv H s q/\(((H.sh s).nd j).step m).1.log <+: lg H s q:=by
 have b:∀ d:Nd,d.log=((H.sh s).nd j).log->∃ q,Lv H s q/\d.log <+: lg H s q:=fun d e=>⟨j,hl,by rw[e];exact VQ _⟩
 obtain⟨L,p,a⟩:=h.at_ hs hl;have t:=qcl h hs hl f;unfold Nd.step at t ⊢;split
 ·exact b _ rfl
 ·rename_i r;rw[if_neg r] at t;simp only at t ⊢;split
  ·exact b _ rfl
  ·rename_i v;rw[if_neg v] at t;split
   ·exact b _ rfl
   ·rename_i u;rw[if_neg u] at t;split
    ·rename_i g;rw[if_pos g] at t;have e:=g.2.1;simp only[Wj,decide_eq_true_eq,beq_iff_eq] at e;obtain⟨y,x⟩:=e;rw[a.at_] at y;have o:p-1<L.length:=by have:=(List.getElem?_eq_some_iff.1 a.ix).1;omega
     obtain⟨q,c⟩:∃ q,L[p-1]? = Bs q:=⟨_,L1 o⟩
     obtain⟨l,_⟩:=h.bJ f hs (a.cfg.lt q (S2 c)) (x.trans (a.a4 (by omega) c));exact⟨q,l,t.lo q ((MQ a.cfg.sorted c a.ix).1 (by omega)) l⟩
    ·split
     ·exact b _ rfl
     ·exact b _ rfl
def Mk (h:BN H) (l:H.c=3) {k:Nat} {m:Ms} (g:H.net.l[k]? = Bs m):BJ H (({ H with net:=takeS H.net k } : Hs).arrive m):=by
 intro a q o c;cases f:Hs.node { H with net:=takeS H.net k } m.a4 with
 | none=>rw[Ig f] at c ⊢;exact⟨q,c,VQ _⟩
 | some r=>
  obtain⟨s,j⟩:=r;obtain⟨hs,hl,_⟩:=q3y (H:={ H with net:=takeS H.net k }) l f;rw[Ih f] at c ⊢;have b:=AK.take ((({ H with net:=takeS H.net k } : Hs).aq s j (((H.sh s).nd j).step m).1).send (((H.sh s).nd j).step m).2) s;have t:=qcl h (s:=s) (j:=j) hs hl (S2 g);have d:Lv H a q:=(q62 (H:={ H with net:=takeS H.net k }) t.id).1 (b.lv.1 c);rw[b.lg];show ∃ i,Lv H a i/\lg (({ H with net:=takeS H.net k } : Hs).aq s j (((H.sh s).nd j).step m).1) a q <+: lg H a i;rw[q4z];split
  ·rename_i e;obtain⟨rfl,rfl⟩:=e;exact qc7 h (s:=a) (j:=q) (by rw[l];exact o) hl (S2 g)
  ·exact⟨q,d,VQ _⟩
def Qf: BJ H (Hs.aG s H j):=fun a q _ b=>by
 refine⟨q,(Ff s j a q).1 b,?_⟩;show lg (H.aq s j _) a q <+: _;rw[q4z];split
 ·rename_i e;obtain⟨rfl,rfl⟩:=e;rw[(Ej _).2.1];exact VQ _
 ·exact VQ _
def q6c:(∀ a,((H.timed i).tx a).state=(H.tx a).state/\((H.tx a).ag≠0->((H.timed i).tx a).ag=(H.tx a).ag))/\(H.timed i).m=H.m:=by
 refine⟨fun a=>⟨U4 H i a,fun b=>?_⟩,(E3 H i).2.2.1⟩;unfold Hs.timed;split
 ·rename_i h;show(Af H.tx i _ a).ag=_;by_cases e:a=i
  ·subst e;exact absurd h b
  ·rw[As e]
 ·rfl
def CQ.step {H':Hs} (s:Bp H H') (V:BN H) (D:Wf H) (S:H.c=3) (h:CQ H):CQ H'/\BF H H':=by
 cases s with
 | @abort i g f hs=>
  refine⟨h.abort g f hs,?_⟩;obtain⟨u,_,z⟩:=If H i;refine⟨by rw[u.m];exact K0 _,fun a _ _ e=>?_,fun a _ _ e=>?_,fun a _ _ _=>(z a).2.2.2.2⟩
  ·rw[(z a).1];split
   ·rename_i l;subst l;rw[e] at hs;rcases hs with h|⟨h,_⟩ <;> cases h
   ·exact e
  ·rw[(z a).1];split
   ·rfl
   ·exact e
 | @tell i k kind g f o hs=>
  have e:=DF H i kind k;refine⟨?_,BF.of e.2.2.1 (fun a=>⟨(e.2.2.2.2 a).1,(e.2.2.2.2 a).2.2.2.2⟩)⟩;exact h.ax g f o (hs.imp (fun⟨a,b⟩=>⟨a,b,h.ct i g f b⟩) id)
 | @prep i k j b g f o q v hs M y N=>
  exact⟨h.add b (Cu q).1 (by show 1<=(i:Int)/\(i:Int)<=H.m;omega) (fun _=>.inl rfl) (fun e=>by have:=BR o;omega),Ho H k j _ b⟩
 | @place i k a g f o Z hs=>
  have t:BF H (H.a8 i k a):=BF.of rfl (fun x=>⟨q24 H i k a x,by
   show(Af H.tx i _ x).ag=_;by_cases e:x=i
   ·subst e;rw[An]
   ·rw[As e]⟩)
  exact⟨h.sub t (AP.of rfl (q24 H i k a)) (BJ.same (AK.au H i _)),t⟩
 | @timed i g f hs v=>
  obtain⟨u,C⟩:=q6c (H:=H) (i:=i);have d:=E3 H i;have t:BF H (H.timed i):=⟨by rw[C];exact K0 _,fun a _ _ e=>(u a).1.trans e,fun a _ _ e=>(u a).1.trans e,fun a _ _ e=>(u a).2 (by omega)⟩
  exact⟨h.sub t (AP.of C (fun a=>(u a).1)) (BJ.same ⟨d.1,d.2.1,d.2.2.2.2,fun s=>by rw[d.2.2.2.1],fun s=>by rw[d.2.2.2.1],fun s=>by rw[d.2.2.2.1]⟩),t⟩
 | @decide i j b g f q v hs M=>
  refine⟨h.add b (Cu q).1 (by show 1<=(i:Int)/\(i:Int)<=H.m;omega) (fun e=>by omega) (fun _=>⟨rfl,rfl,?_⟩),Ho H 2 j _ b⟩;have:=D.cR i g f;show 1<=(H.tx i).ag;omega
 | @commit i g f hs v=>
  have t:BF H (H.az i 3):=by
   refine⟨K0 _,fun a _ _ e=>?_,fun a _ _ e=>?_,fun a _ _ _=>?_⟩
   ·show(Af H.tx i _ a).state=_;by_cases l:a=i
    ·subst l;rw[An]
    ·rw[As l];exact e
   ·show(Af H.tx i _ a).state=_;by_cases l:a=i
    ·subst l;rw[e] at hs;cases hs
    ·rw[As l];exact e
   ·show(Af H.tx i _ a).ag=_;by_cases l:a=i
    ·subst l;rw[An]
    ·rw[As l]
  refine⟨h.sub' t (BJ.same (AK.au H i _)) (fun a U T e=>?_),t⟩;show 1<=(Af H.tx i _ a).ag;have e:(Af H.tx i _ a).state=3:=e;by_cases l:a=i
  ·subst l;rw[An];obtain⟨j,p,c,q1,I,Y,G,_⟩:=v;have A:=h.p2 j (Cu q1).1 c (S2 I);have E:=A.2.2.1;have X:=A.2.2.2;rw[G] at E;have W:SH H (a:Int)=(H.tx a).ag:=rfl;show 1<=(H.tx a).ag;omega
  ·rw[As l] at e ⊢;exact h.ct a U T e
 | @came i k g f o hs q y=>
  have t:BF H (H.came i k):=BF.of rfl (fun x=>by
   show(Af H.tx i _ x).state=_/\(Af H.tx i _ x).ag=_;by_cases e:x=i
   ·subst e;rw[An];exact⟨rfl,rfl⟩
   ·rw[As e];exact⟨rfl,rfl⟩)
  exact⟨h.sub t (AP.of rfl (fun x=>by
   show(Af H.tx i _ x).state=_;by_cases e:x=i
   ·subst e;rw[An]
   ·rw[As e])) (BJ.same (AK.au H i _)),t⟩
 | @got i x mode g f hs J O q y L R=>
  have t:BF H (H.aU i (Aa x) x mode):=BF.of rfl (fun _=>⟨rfl,rfl⟩);exact⟨h.sub t (AP.of rfl (fun _=>rfl)) (BJ.same (AK.ar rfl rfl rfl)),t⟩
 | @wait i x mode g f hs J O q y K L R=>
  have t:BF H ((H.aU i (Aa x) x mode).aM i x mode):=BF.of rfl (fun a=>by
   show(Af H.tx i _ a).state=_/\(Af H.tx i _ a).ag=_;by_cases e:a=i
   ·subst e;rw[An];exact⟨rfl,rfl⟩
   ·rw[As e];exact⟨rfl,rfl⟩)
  exact⟨h.sub t (AP.of rfl (fun a=>by
   show(Af H.tx i _ a).state=_;by_cases e:a=i
   ·subst e;rw[An];rfl
   ·rw[As e])) (BJ.same ((AK.ar (x:={ H.sh (Aa x) with tab:=Am (H.sh (Aa x)).tab i x mode }) rfl rfl rfl).trans (AK.au _ i _))),t⟩
 | @tick s j hs hl=>
  have t:BF H (Hs.aG s H j):=BF.of rfl (fun _=>⟨rfl,rfl⟩);exact⟨h.sub t (AP.of rfl (fun _=>rfl)) Qf,t⟩
 | @arrive k m o=>
  have t:BF H (({ H with net:=takeS H.net k } : Hs).arrive m)/\AP H (({ H with net:=takeS H.net k } : Hs).arrive m):=by
   cases B:Hs.node { H with net:=takeS H.net k } m.a4 with
   | none=>rw[Ig B];exact⟨BF.of rfl (fun _=>⟨rfl,rfl⟩),AP.of rfl (fun _=>rfl)⟩
   | some r=>
    obtain⟨s,j⟩:=r;rw[Ih B];have e:=Bz.take ((({ H with net:=takeS H.net k } : Hs).aq s j (((H.sh s).nd j).step m).1).send (((H.sh s).nd j).step m).2) s;exact⟨BF.of e.m (fun a=>⟨(e.tx a).1,(e.tx a).2.2.2.2⟩),AP.of e.m (fun a=>(e.tx a).1)⟩
  exact⟨h.sub t.1 t.2 (Mk V S o),t.1⟩
end
section
variable {H:Hs}
def Wf.cp (h:Wf H) {x:Bm} (m:x.nd=(H.sh s).nd) (l:x.ao=(H.sh s).ao) (f:Da x.tab) (g:Db x.sto):Wf (H.ar s x):=by
 have e:∀ k,((H.ar s x).sh k).nd=(H.sh k).nd/\((H.ar s x).sh k).ao=(H.sh k).ao/\((((H.ar s x).sh k).tab=x.tab/\((H.ar s x).sh k).sto=x.sto)\/(((H.ar s x).sh k).tab=(H.sh k).tab/\((H.ar s x).sh k).sto=(H.sh k).sto)):=fun k=>by
  by_cases c:k=s
  ·subst c;rw[show(H.ar k x).sh k=x from An _ _ _];exact⟨m,l,.inl ⟨rfl,rfl⟩⟩
  ·rw[show(H.ar s x).sh k=H.sh k from As c _];exact⟨rfl,rfl,.inr ⟨rfl,rfl⟩⟩
 refine Wf.of (H':=H.ar s x) h rfl rfl rfl rfl (fun k j b d=>by rw[(e k).1];exact h.nd k j b d) (fun k b=>?_) (fun k b=>?_) (fun k _=>(e k).2.1) h.net rfl h.tx (fun _=>rfl)
 ·rcases(e k).2.2 with ⟨e2,_⟩|⟨e2,_⟩
  ·rw[e2];exact f
  ·rw[e2];exact h.tab k b
 ·rcases(e k).2.2 with ⟨_,e2⟩|⟨_,e2⟩
  ·rw[e2];exact g
  ·rw[e2];exact h.sto k b
def Wf.a5 (h:Wf H) {s j:Nat} {ids:List Int} (hs:s<H.c) (c:j<H.n) (b:∀ x∈ids,0<=x/\x<=60):Wf (Hs.a5 s ids H j):=by
 have e:=h.c3;have d:=h.n4;have w:=q8z (MG (h.nd s j hs c) (H.sh s).aa b) (by omega) (by omega);exact Wf.send (h.aq w.1) w.2
def q78 (s:Nat) (ids:List Int):∀ (l:List Nat) (H:Hs),(l.foldl (Hs.a5 s ids) H).n=H.n/\(l.foldl (Hs.a5 s ids) H).c=H.c/\(l.foldl (Hs.a5 s ids) H).m=H.m
 | [],_=>⟨rfl,rfl,rfl⟩
 | j::l,H=>by
  obtain⟨d,c,b⟩:=q78 s ids l (Hs.a5 s ids H j);exact⟨d,c,b⟩
def Wf.bS {s:Nat} {ids:List Int} (b:∀ x∈ids,0<=x/\x<=60):∀ (l:List Nat) {H:Hs},Wf H->s<H.c->(∀ j∈l,j<H.n)->Wf (l.foldl (Hs.a5 s ids) H)
 | [],_,h,_,_=>h
 | j::l,_,h,hs,hl=>Wf.bS b l (h.a5 hs (hl j VH) b) hs (fun a c=>hl a (VI _ c))
def Wf.ids (h:Wf H) {s:Nat} (hs:s<H.c):∀ x∈(H.sh s).ids H.n,0<=x/\x<=60:=by
 intro x c;unfold Bm.ids at c;obtain⟨j,b,rfl⟩:=List.mem_map.1 c;have b:j<H.n:=by unfold Bm.ah at b;exact List.mem_range.1 (List.mem_filter.1 b).1
 have e:=h.c3;have d:=h.n4;exact(h.nd s j hs b).cV (by omega) (by omega)
def Wf.bh (h:Wf H) {s:Nat} (hs:s<H.c):Wf (H.bh s):=by
 unfold Hs.bh;simp only;have b:=h.ids hs;have g:Wf (H.ar s { H.sh s with aa:=Xn ((H.sh s).aa+1),size:=((H.sh s).ah H.n).length }):=h.cp rfl rfl (h.tab s hs) (h.sto s hs);have f:=Wf.bS b ((H.sh s).ah H.n) g hs (fun j e=>by unfold Bm.ah at e;exact List.mem_range.1 (List.mem_filter.1 e).1);have c:=q78 s ((H.sh s).ids H.n) ((H.sh s).ah H.n) (H.ar s { H.sh s with aa:=Xn ((H.sh s).aa+1),size:=((H.sh s).ah H.n).length });generalize List.foldl (Hs.a5 s ((H.sh s).ids H.n)) (H.ar s { H.sh s with aa:=Xn ((H.sh s).aa+1),size:=((H.sh s).ah H.n).length }) ((H.sh s).ah H.n)=H2 at *;have d:s<H2.c:=by rw[c.2.1];exact hs
 exact(f.cp (x:={ H2.sh s with tab:=fun _=>B0,sto:=fun _=>[],done:=0 }) rfl rfl Da.none_ Db.none_).take d
def Wf.fix (h:Wf H) {s:Nat} (hs:s<H.c):Wf (H.fix s):=by
 unfold Hs.fix;split
 ·exact h
 ·exact h.bh hs
def N3 (H:Hs) (i:Nat):Sz H (H.a7 i):=by
 unfold Hs.a7;split
 ·exact(If H i).1.sz
 ·exact Sz.refl H
def Wf.a7 (h:Wf H) (c:H.c=3) {i:Nat} (d:1<=i) (b:i<=H.m):Wf (H.a7 i):=by
 unfold Hs.a7;split
 ·exact h.abort c d b
 ·exact h
end
def lkV (P:Aq) (id:Int) (k:Sx) (b:Int):O0:=if b=0 then .tuple #[pw (P.gt id.toNat),pw (P.gs (Aa k)),.nilIface] else .tuple #[.pointer B0,.pointer B0,.iface 79 (.int .i64 b)]
def LkP (P:Aq) (own:Ah) (id:Int) (k:Sx) (w:D0) (r:Int×Hs) (e:WC) (w':D0):Prop:=e=.returned (lkV P id k r.1)/\BZ P own r.2 w w'
def Gu (P:Aq) (own:Ah) (i s:Nat) (w:D0) (r:Int×Hs) (e:WC) (w':D0):Prop:=e=.returned (if r.1=0 then .tuple #[pw (P.gt i),pw (P.gs s),.nilIface] else .tuple #[.pointer B0,.pointer B0,.iface 79 (.int .i64 r.1)])/\BZ P own r.2 w w'
def Gu.no {P:Aq} {own:Ah} {r:Int×Hs} {b:Int} {H2:Hs} (h:r=(b,H2)) (d:b≠0) (c:BZ P own H2 w w'):Gu P own i s w r (.returned (.tuple #[.pointer B0,.pointer B0,.iface 79 (.int .i64 b)])) w':=by
 subst h;exact⟨by rw[if_neg d],c⟩
def Gu.yes {P:Aq} {own:Ah} {r:Int×Hs} {H2:Hs} (h:r=(0,H2)) (b:BZ P own H2 w w'):Gu P own i s w r (.returned (.tuple #[.pointer (Bs ⟨P.gt i,0,B0⟩),.pointer (Bs ⟨P.gs s,0,B0⟩),.nilIface])) w':=by
 subst h;exact⟨by rw[if_pos rfl];rfl,b⟩
def Gu.cJ {P:Aq} {own:Ah} {r:Int×Hs} {e:WC} {k:Sx} (h:Gu P own i s w r e w') (b:Aa k=s):LkP P own i k w r e w':=by
 subst b;exact h
section
variable {w w':D0} {own own':Ah} {P:Aq} {H:Hs}
def Ib {Z:Tg->Prop} {b:Nat} {t:TypeId} (c:HZ Z w own w' own') (e:Ae w b t f) (d:own b=B0):Ae w' b t f/\own' b=B0:=
 ⟨c.fr.ak e (fun hs=>hs.owned d),(c.ext b e.lt).trans d⟩
def OV {b:Nat} {f:Int->Option Int} (h:Ab BC w b n (CT f)) (d:EW o):(Instr.lookup 61 (.map (Bs b)) (.int .i64 o) VJ).run Tryz.prog w=.ok (.tuple #[.int .i64 ((f o).getD 0),.bool (f o).isSome]) w:=by
 have c:(zeroValue 3).run Tryz.prog w=.ok (.int .i64 0) w:=by kernel_rfl
 have:=(h.look Tryz.underlying61 c (x:=o) d).1;rw[show BC.val o=Wp .i64 o from rfl] at this;rw[this];unfold CT;cases f o <;> rfl
def D3 (P:Aq) (own:Ah) (H:Hs) (l:List Int) (w:D0) (v:O0) (wr:D0):Prop:=∃ q:Nat,v=.int .i64 q/\q<=l.length/\BZ P own (woundd H (l.take q)) w wr
def qa1 {mode e:Int} {ok:Bool} {l:List Int} (h:Dm T ⟨tx,x,mode⟩ ok l e T') (g:Br mode) (f:x.length<=20) :
  (Ch (Ac T x).ws tx=VJ/\ok=Jx/\l=[]/\e=9)\/(Ch (Ac T x).ws tx=Jx/\Ai (Ac T x).h tx mode (Ac T x).ws=VJ/\ok=VJ/\l=[]/\e=0)\/
  (Ch (Ac T x).ws tx=Jx/\Ai (Ac T x).h tx mode (Ac T x).ws=Jx/\(Ac T x).ws.length=50/\ok=Jx/\l=[]/\e=4)\/
  (Ch (Ac T x).ws tx=Jx/\Ai (Ac T x).h tx mode (Ac T x).ws=Jx/\(Ac T x).ws.length≠50/\ok=Jx/\e=0/\Ht (Ac T x).h tx mode l):=by
 cases h with
 | arg h=>exact absurd g h
 | long _ h=>exact absurd f (by simpa using h)
 | twice _ _ b=>exact .inl ⟨b,rfl,rfl,rfl⟩
 | got _ _ b d=>exact .inr (.inl ⟨b,d,rfl,rfl,rfl⟩)
 | full _ _ b d c=>exact .inr (.inr (.inl ⟨b,d,c,rfl,rfl,rfl⟩))
 | waits _ _ b d c hl=>exact .inr (.inr (.inr ⟨b,d,c,rfl,rfl,hl⟩))
def q8w (h:Int->Option Int) (tx mode:Int):(D8 h tx mode).length<=61:=by
 unfold D8;exact VO (List.length_filter_le _ _) (by simp)
def ME:(Tryz.prog.info? 129).map (fun i=>(i.zero,i.size,i.bytes))=Bs (Bs (.agg #[.string ⟨#[]⟩,.int .i64 0]),2,24):=by kernel_rfl
def HI.c6 (h:HI w own P H) (g:Co w own i (P.gt i) v (H.tx i)) {k:Sx} {mode:Int} (l:Av w w' v.Vx.ownBlock V'.ownBlock)
  (q:w'.ownsRow 0 129 2 V' ((H.tx i).aj.length+1) ((H.tx i).aj.flatMap D7++D7 (k,mode))):∃ own',HI (w'.setCell ⟨P.gt i,8,B0⟩ V') own' P (H.aM i k mode)/\Ay w own (w'.setCell ⟨P.gt i,8,B0⟩ V') own'/\∃ v',Co (w'.setCell ⟨P.gt i,8,B0⟩ V') own' i (P.gt i) v' ((H.aM i k mode).tx i):=by
 have m:Fr (fun b=>v.Vx.ownBlock=Bs b\/w.heap.size<=b) w w':=l.1.mono (fun b _ e=>.inl e.symm);have o:Ext own (DK own w.heap.size (fun b=>V'.ownBlock=Bs b) (.tx i)) w.heap.size:=QS;have j:w'.ownsRow 0 129 2 V' ((H.tx i).aj++[(k,mode)]).length (((H.tx i).aj++[(k,mode)]).flatMap D7):=by
  rw[VS,WG];simpa using q
 have r:∀ b,V'.ownBlock=Bs b->DK own w.heap.size (fun b=>V'.ownBlock=Bs b) (.tx i) b=Bs (.tx i):=fun b d=>QQ (by
  rcases l.2 with e|⟨s,e,hl⟩
  ·exact .inl (g.xt b (by rw[<- e];exact d))
  ·rw[e] at d;injection d with d;exact .inr (by omega)) d
 have f:=g.bU o m j r;have c:Fr (OS own (fun t=>t=.tx i)) w (w'.setCell ⟨P.gt i,8,B0⟩ V'):=
  (l.1.mono (T:=OS own (fun t=>t=.tx i)) (fun b _ e=>⟨_,g.xt b e.symm,rfl⟩)).setCell (p:=⟨P.gt i,8,B0⟩) (.inl ⟨_,g.gt,rfl⟩) _
 have hI:=h.setTx' (t':={ H.tx i with aj:=(H.tx i).aj++[(k,mode)] }) c o (QP c.size (fun b d=>VL (q.lt b d).2 (Fr.a6 (P.gt i) w' 8 V').size)) ⟨{ v with Vx:=V' },f⟩;refine⟨_,hI,⟨o,GQ c (fun _=>Di),(by first|exact Pz (by simp)|exact fun _ _ h=>h)⟩,{ v with Vx:=V' },?_⟩;rw[show(H.aM i k mode).tx i = { H.tx i with aj:=(H.tx i).aj++[(k,mode)] } from SL _ _ _];exact f
def Jo (h:HI w own P H) (wf:Wf H) (ck:Ef own) (hc:H.c=3) (id:Int) (k:Sx) (hk:k∈names) (mode:Int) (hm:Br mode):VY Tryz.prog 35 #[pw P.g,.int .i64 id,.string ⟨k.toArray⟩,.int .i64 mode] w (LkP P own id k w (H.lock id k mode)):=by
 have b2:=Ea hk;have cH:(⟨k.toArray⟩:ByteArray).size=k.length:=by simp[ByteArray.size]
 have bD:VP w.heap.size w (w.alloc (.cells #[.string ⟨k.toArray⟩] 9)):=(VK w.heap.size w).alloc (K0 _) _;have bE:Ae (w.alloc (.cells #[.string ⟨k.toArray⟩] 9)) w.heap.size 9 #[.string ⟨k.toArray⟩]:=Ae.new w _ _;have aK:=LH (h.below bD);have bF:=LH (HZ.below (Z:=BM) own bD);have cv:=LH bE;have b0:=LH (show own w.heap.size=B0 from h.free (K0 _));have HF:=LH (q51 (h.below bD) (by have:=wf.bz;omega) id);have cq:=bE.cell 0;have cz:=bE.lt;simp only[Hi,Ft,N2] at cq;have aH:=LH wf;clear h bD bE wf;unfold pw at *;go_enter Tryz.func35,Tryz.ntmps35;go_upto_region 1 with (fail)
 generalize (w.alloc _)=w1 at *;generalize w.heap.size=kb at *;by_cases hb:id<1\/H.m<id
 ·have B:=LH (show LkP P own id k w (H.lock id k mode) (.returned (.tuple #[.pointer B0,.pointer B0,.iface 79 (.int .i64 7)])) w1 from by rw[Ty hb];exact⟨rfl,own,aK.o,bF.o⟩);rw[q7d hb] at HF;clear hb;go_wp2_with fail;refine HF.o.mono ?_;rintro e w2 ⟨rfl,rfl⟩;go_wp2_with fail;go_ret3;exact B.o
 ·obtain⟨i,rfl⟩:∃ i:Nat,id=i:=⟨id.toNat,by omega⟩
  have h1:1<=i:=by omega
  have hi:i<=H.m:=by omega
  rw[q5j h1 hi] at HF;unfold pw at HF;obtain⟨v,hv⟩:=aK.o.tx i h1 hi;have HV:=LH hv;obtain⟨_,k1,_,k3,_,_,k8,gl⟩:=hv.cells;clear hv hb;by_cases s1:(H.tx i).state=1
  ·rw[s1] at k1;have cb:=LH (fun h5=>q4i (mode:=mode) h1 hi s1 b2 h5);have bu:=LH (fun h5 h6=>q3s (mode:=mode) h1 hi s1 b2 h5 h6);have bJ:=LH (fun h5 h6 h7=>q3q (mode:=mode) h1 hi s1 b2 h5 h6 h7);have bI:=LH (fun h5 h6 h7=>q6k (mode:=mode) h1 hi s1 b2 h5 h6 h7);have ct:=LH (FB aK.o hc ⟨k.toArray⟩ (by omega));rw[Dh] at ct;have cj:=E4 k;have cu:=LH (q7c aK.o aH.o (s:=Aa k) (by omega));have bH:=LH (fun h=>q2q (H:=H.came i (Aa k)) (i:=i) (k:=k) (mode:=mode) h);have bK:=LH (fun h h2=>q36 (H:=H.came i (Aa k)) (i:=i) (k:=k) (mode:=mode) h h2);have bL:=LH (fun h h2 h3=>q37 (H:=H.came i (Aa k)) (i:=i) (k:=k) (mode:=mode) h h2 h3);have bG:=LH (fun h h2 h3=>q2c (H:=H.came i (Aa k)) (i:=i) (k:=k) (mode:=mode) h h2 h3);unfold pw at *;clear s1;generalize H.lock i k mode=cG at *;generalize cn:Aa k=s at *;have a1:=LH cn;clear cn;obtain⟨vh,bR⟩:=aK.o.hs;obtain⟨_,c3,_,_,gg⟩:=bR.cells;obtain⟨r3,q3,cs,cI,cp⟩:=bR.bZ (s:=s) (by omega);rw[cs,hc] at c3;unfold pw at cp;clear bR cs;go_wp2_with fail;refine HF.o.mono ?_;rintro e w2 ⟨rfl,rfl⟩;go_wp2_with fail;refine ct.o.mono ?_;rintro e w1 ⟨rfl,rfl⟩;go_wp2_with fail;refine cu.o.mono ?_;rintro e w2 ⟨rfl,bZ⟩;have bQ:Ay w1 own w2 own:=HZ.below own bZ;have an:=LH (aK.o.below bZ);have b3:=LH (bF.o.trans bQ);have co:=Ib bQ cv.o b0.o;have bM:=LH co.1;clear bZ bQ co c3 cp gg k1 k3 k8 gl cq cz aK bF cv cu HV;rcases bC:H.head s with _|j
   ·have cm:=cb.o bC;have B:=LH (Gu.no (i:=i) (s:=s) cm (by decide) ⟨own,an.o,b3.o⟩);clear bC cm;unfold C9;go_wp2_with fail;go_ret3;exact B.o.cJ a1.o
   ·have br:=LH (show H.head s≠B0 by rw[bC];simp);obtain⟨vt,bB⟩:=an.o.tx i h1 hi;have HV:=LH bB;obtain⟨_,k1,_,k3,_,_,k8,gl⟩:=bB.cells;obtain⟨vs,ch⟩:=an.o.sh s (by omega);obtain⟨_,_,m2,_,_,sl⟩:=ch.cells;have X:=OV bB.ae (o:=(s:Int)) (FH (by omega) (by omega));clear bC bB ch;unfold C9 pw;cases aq:(H.tx i).ae s with
    | none=>
     have bq:=LH (show ¬Ps H i s from fun⟨e,h,_⟩=>by rw[aq] at h;cases h);rw[aq] at X;clear aq;go_upto_region 16 with (fail)
     clear X k1 k8;have bt:=LH (HV.o.ae.fr ((Fr.refl (fun _=>False) w2).drew) (fun h=>h));have bP:w2.drew.cell? ⟨P.gt i,3,B0⟩=Bs (.map (Bs vt.bs)):=k3;have bO:w2.drew.cell? ⟨P.gs s,2,B0⟩=Bs (.int .i64 (H.sh s).aa):=m2;have c1:P.gt i<w2.drew.heap.size:=gl;have bN:P.gs s<w2.drew.heap.size:=sl;clear k3 m2 gl sl;refine XI 9 (by kernel_rfl) (by kernel_rfl) ?_;change wpStill _ _ (Yo _) _ _ _;simp only[WU,XM,Xb,Ys]
     repeat still_step
     refine wpStill_nil ?_;refine SR (C:=BC) rfl 61 3 Tryz.underlying61 (.tmp 80) (.tmp 81) (.tmp 85) rfl (by simp[Xh]) bt.o (by unfold Wo;omega) (s:Int) (.int .i64 (H.sh s).aa) (by simp[Xh];rfl) (by simp[Xh]) (FH (by omega) (by omega)) ?_;intro w3 aO bb;have ad:Fr (fun b=>b=vt.bs) w2 w3:=((Fr.refl _ w2).drew).trans bb;rw[qcq] at aO;have aD:Ab BC w3 vt.bs 100 (CT (AO (H.tx i).ae s (H.sh s).aa)):=by
      refine(aO.tight Dq (fun a _ ha=>?_)).mono (show Dq.length<=100 from by rw[Tu];decide);unfold CT at ha;cases e:AO (H.tx i).ae s (H.sh s).aa a with
      | none=>rw[e] at ha;exact absurd rfl ha
      | some q=>
       unfold AO at e;split at e
       ·exact Px (by omega) (by omega)
       ·have:=((aH.o.tx i h1 hi).sh a q e).1;exact Px (by omega) (by omega)
     have a2:=HV.o.cg ad aD;have au:Fr (OS own (fun t=>t=.tx i)) w2 w3:=ad.mono (fun b _ e=>⟨_,by rw[e];exact HV.o.st.resolve_right (ck _ _),rfl⟩);have aG:HI w3 own P (H.came i s):=an.o.setTx' au (Ext.refl own _) (fun b hb=>VL (an.o.lt b hb) au.size) ⟨_,a2⟩;have aN:Ay w2 own w3 own:=⟨Ext.refl own _,GQ au (fun _=>Di),fun _ _ h=>h⟩
     have aT:=aH.o.came h1 hi cj;have a0:=Ib aN bM.o b0.o;have ag:=a0.1.cell 0;have bc:=a0.1.lt;simp only[Hi,Ft] at ag;have az:EX { H.tx i with ae:=AO (H.tx i).ae s (H.sh s).aa }:=by
      have:=aT.tx i h1 hi;unfold Hs.came at this;rw[SL] at this;exact this
     have L:=qax a2 az k ag;obtain⟨_,n1,_,_,_,_,n8,nl⟩:=a2.cells;obtain⟨A8,c8,bg,_,_⟩:=AR a2.aj;rw[bg] at n8 L;have ax:=LH L;have b1:=LH aG;have aV:=LH (b3.o.trans aN);have bA:=LH a0.1;have ay:=LH aT;have c6:=LH a2;clear L aG aN a0 aT az a2 au aD aO ad bb bP bO c1 bN bt bg;go_wp2_with fail;refine ax.o.mono ?_;rintro e w4 ⟨rfl,R⟩;cases y:B6 (H.tx i).aj k with
     | true=>
      have B:=LH (Gu.no (i:=i) (s:=s) (bJ.o br.o bq.o y) (by decide) ⟨own,b1.o.below R,aV.o.trans (HZ.below own R)⟩);clear y R;go_wp2_with fail;go_ret3;exact B.o.cJ a1.o
     | false=>
      have bw:=LH (b1.o.below R);have bn:=LH (aV.o.trans (HZ.below own R));have Y:=Ib (HZ.below (Z:=BM) own R) bA.o b0.o;have bz:=LH Y.1;have X:=qa6 (bw.o.below (VK w4.heap.size w4).drew) (show s<(H.came i s).c from by show s<H.c;omega) i mode ⟨k.toArray⟩ (by have:=aH.o.bz;omega) (by rw[Dh];exact hk) hm (ay.o.tab s (by show s<H.c;omega));rw[Dh] at X;have aJ:=LH X;have al:=LH (bI.o br.o bq.o y);have c4:=LH y;have d:=Wm ((show Ae w4.drew _ _ _ from Y.1).cell 0) (show kb<w4.drew.heap.size from Y.1.lt);simp only[Hi,Ft] at d;clear X y Y R ag bc n8 bA b1 ax;go_upto_region 19 with (fail)
      clear n1 nl;refine nW ?_;refine CF (fun W=>W.cell? ⟨kb,0,B0⟩=Bs (.string ⟨k.toArray⟩)/\kb<W.heap.size) 14 (fun _ _ _ _ _ h=>h) (fun f=>?_);refine nD 0 [1,2,6,7,8,9,10,11,12,13] f d ?_;refine nD 1 [2,6,7,8,9,10,11,12,13] f d ?_;refine nD 2 [6,7,8,9,10,11,12,13] f d ?_;refine nD 3 [6,7,8,9,10,11,12,13] f d ?_;refine nA 4 [6,7,8,9,10,11,12,13] rfl rfl f d (fun w' a9=>by obtain⟨p0,pl⟩:=a9;go_simp;rfl) ?_;refine nD 5 [6,7,8,9,10,11,12,13] f d ?_;clear d;refine nG 6 (fun G x=>?_);go_simp;refine aJ.o.mono ?_;rintro e w5 ⟨ok,l,er,A,c,I,rfl,hP,bj,bf,aC,bl⟩;have aM:Ay w4 own w5 I:=(HZ.below own (VK w4.heap.size w4).drew).trans (bf.mono (fun _=>Fu));have K:=Ib aM bz.o b0.o;have d:=Wm (K.1.cell 0) K.1.lt;simp only[Hi,Ft] at d;have am:=LH K.1;have aZ:=LH K.2;have a7:=LH (show HI w5 I P ((H.came i s).aU i s k mode) from bj);have ai:=LH (bn.o.trans aM);have HP:=LH hP;have aY:=LH aC;have HA:=LH bl;clear aM K bj bf hP aC bl aJ bw bn bz;go_simp;refine x _ _ (fun _=>d) ?_;clear x G;refine nG 7 (fun G x=>?_);go_simp;refine x _ _ (fun _=>d) ?_;clear x G;refine nD 8 [11,12,13] f d ?_;refine nD 9 [12,13] f d ?_;refine nD 10 [13] f d ?_;refine nG 11 (fun G x=>?_);go_simp;refine x _ _ (fun _=>d) ?_;clear x G;refine nG 12 (fun G x=>?_);go_simp;refine x _ _ (fun _=>d) ?_;clear x G;refine nG 13 (fun G x=>?_);go_simp;refine x _ _ (fun _=>d) ?_;clear x G;refine nX ?_;clear f;rcases qa1 HP.o hm b2 with ⟨q1,rfl,rfl,rfl⟩|⟨q1,q2,rfl,rfl,rfl⟩|⟨q1,q2,q3,rfl,rfl,rfl⟩|⟨q1,q2,q3,rfl,rfl,b6⟩
      ·have B:=LH (Gu.no (i:=i) (s:=s) (al.o.trans (bH.o q1)) (by decide) ⟨I,a7.o,ai.o⟩);rw[show CD 9=.iface 79 (.int .i64 9) from rfl];clear q1 d;go_wp2_with fail;go_ret3;exact B.o.cJ a1.o
      ·have B:=LH (Gu.yes (i:=i) (s:=s) (al.o.trans (bK.o q1 q2)) ⟨I,a7.o,ai.o⟩);rw[show CD 0=.nilIface from rfl];clear q1 q2 d;go_wp2_with fail;go_ret3;exact B.o.cJ a1.o
      ·have B:=LH (Gu.no (i:=i) (s:=s) (al.o.trans (bL.o q1 q2 q3)) (by decide) ⟨I,a7.o,ai.o⟩);rw[show CD 4=.iface 79 (.int .i64 4) from rfl];clear q1 q2 q3 d;go_wp2_with fail;go_ret3;exact B.o.cJ a1.o
      ·have bv:=LH (al.o.trans (bG.o q1 q2 q3));have bV:=Fa (fun o m ho=>((ay.o.tab s (by show s<H.c;omega)).at_ k).hold o m ho) b6;subst bV;rw[show CD 0=.nilIface from rfl];clear q1 q2 q3 d b6;have aw:=ay.o.aU (mode:=mode) h1 (show i<=(H.came i s).m from hi) (show s<(H.came i s).c by show s<H.c;omega) hk;have aA:B6 (((H.came i s).aU i s k mode).tx i).aj k=Jx:=by
        show B6 ((H.came i s).tx i).aj k=Jx;unfold Hs.came;rw[SL];exact c4.o
       have bY:((H.came i s).aU i s k mode).c=3:=hc;have bU:((H.came i s).aU i s k mode).m=H.m:=rfl;have b8:=fun o (ho:o∈D8 (Ac ((H.came i s).sh s).tab k).h (i:Int) mode)=>q8v ho
       have cy:=q8w (Ac ((H.came i s).sh s).tab k).h (i:Int) mode;generalize D8 (Ac ((H.came i s).sh s).tab k).h (i:Int) mode=l at *;clear bH bK bL bG al HP cb bu bJ bI ay c6 b3 aV an bM;generalize (H.came i s).aU i s k mode=H5 at *;have cC:=LH aw;have bo:=LH (aw.aM (mode:=mode) h1 (show i<=H5.m by omega) hk aA);have cD:=LH b8;obtain⟨v5,aa⟩:=a7.o.tx i h1 (by omega);have aj:=LH aa;have cg:=(aw.tx i h1 (by omega)).bD;obtain⟨_,_,_,_,_,_,n8,nl⟩:=aa.cells;obtain⟨A9,c9,aU,_,_⟩:=AR aa.aj;have N:=aa.aj;rw[aU] at n8 N;have ak:=LH N;have aW:=LH aU;clear aa aU N aw aA b8;go_upto_region 23 with (fail)
       refine nW ?_;refine CF (fun W=>W.cell? ⟨P.gt i,8,B0⟩=Bs (.slice A9 (H5.tx i).aj.length c9)/\W.cell? ⟨kb,0,B0⟩=Bs (.string ⟨k.toArray⟩)) 10 (fun _ _ _ _ _ h=>h) (fun f=>?_);have d:w5.drew.cell? ⟨P.gt i,8,B0⟩=Bs (.slice A9 (H5.tx i).aj.length c9)/\w5.drew.cell? ⟨kb,0,B0⟩=Bs (.string ⟨k.toArray⟩):=⟨n8,(show Ae w5.drew _ _ _ from am.o).cell 0⟩
       refine nD 0 [10,11,12] f d ?_;refine nD 1 [2,3,4,9,10,11,12] f d ?_;refine nD 2 [3,4,9,10,11,12] f d ?_;refine nD 3 [4,9,10,11,12] f d ?_;refine nA 4 [9,10,11,12] rfl rfl f d (fun w' a9=>by obtain⟨p0,p1⟩:=a9;go_simp;rfl) ?_;refine nA 5 [7,8,9,10,11,12] rfl rfl f d (fun w' a9=>by obtain⟨p0,p1⟩:=a9;go_simp;rfl) ?_;refine nD 6 [7,8,9,10,11,12] f d ?_;refine nD 7 [8,9,10,11,12] f d ?_;have O:∀ o q p,q<w5.heap.size->(w5.alloc o).cell? ⟨q,p,B0⟩=w5.cell? ⟨q,p,B0⟩:=fun o q p hq=>WX w5 o ⟨q,p,B0⟩ hq
       refine nG 8 (fun G x=>?_);go_simp;refine x _ _ (fun _=>⟨(O _ _ _ nl).trans d.1,(O _ _ _ am.o.lt).trans d.2⟩) ?_;clear x G d O;refine nG 9 (fun G x=>?_);refine SQ w5.drew w5.heap.size rfl _ (.tmp 113) (.tmp 117) 76 rfl 0 129 _ 2 24 Tryz.underlying76 ME rfl (by decide) _ _ _ #[.string ⟨k.toArray⟩,.int .i64 mode] rfl ak.o 1 rfl _ rfl rfl (by simp[WB]) (by unfold Wo;omega) (by omega) (VN _) ?_;intro V2 w6 M z;have V:Av w5 w6 v5.Vx.ownBlock V2.ownBlock:=by rw[aW.o];exact⟨⟨z.1.os,z.1.tape,z.1.output,z.1.size,z.1.block⟩,z.2⟩
       obtain⟨D,bi,be,v7,bS⟩:=a7.o.c6 (i:=i) (k:=k) (mode:=mode) aj.o V M;have ba:¬Bs (P.gt i)=v5.Vx.ownBlock:=fun e=>aj.o.aW.2.1 e.symm
       have b5:¬Bs kb=v5.Vx.ownBlock:=fun e=>by have:=aj.o.xt kb e.symm;rw[aZ.o] at this;cases this
       have ac:=V.1.ak aj.o.ak ba;have b9:=V.1.ak am.o b5;have y1:=ac.frozen 8;have yl:=ac.lt;have y0:∃ u,w6.cell? ⟨P.gt i,8,B0⟩=Bs u:=by
        have:=ac.cell 8;unfold Om at this;simp only[Hi,Ft,N2] at this;exact⟨_,this⟩
       obtain⟨u0,y0⟩:=y0;have bk:w6.cell? ⟨P.gt i,8,B0⟩=Bs (.slice A9 (H5.tx i).aj.length c9)/\w6.cell? ⟨kb,0,B0⟩=Bs (.string ⟨k.toArray⟩):=⟨by
        have:=ac.cell 8;unfold Om at this;simp only[Hi,Ft,N2] at this;rw[this,aW.o],b9.cell 0⟩
       have bx:=LH bk;have cc:=LH bi;have a5:=LH be;obtain⟨A7,c7,c0,_,_⟩:=AR M;subst c0;clear z V ba b5 ac b9 bk bi be bS M v7;go_simp;refine x _ _ (fun _=>bx.o) ?_;clear x G;refine nG 10 (fun G x=>?_);go_simp;refine x _ _ nZ ?_;clear x G;refine nG 11 (fun G x=>?_);go_simp;refine x _ _ nZ ?_;clear x G;refine nG 12 (fun G x=>?_);go_simp;refine x _ _ nZ ?_;clear x G;refine nX ?_;clear f y0 y1 yl bx n8 nl;generalize (w6.setCell _ _)=w7 at *;have ab:=Ib a5.o am.o aZ.o;have cd:=LH ab.1;have ca:=LH ab.2;have aB:Rd w7 w5.heap.size 1 A l.length (l.map (Wp .i64)):=aY.o.fr a5.o.fr (K0 _) (fun g ao e h0 hs=>hs.owned (HA.o g ao e h0));have bp:=LH aB;have ce:=LH (fun b o (e:A=Bs ⟨b,o,B0⟩) (h0:0<l.length)=>((a5.o.ext b (by
        obtain⟨g,ao,u,e2,hg,_⟩:=aY.o.ck (k:=0) h0;rw[e] at e2;injection e2 with e2;injection e2 with e2;omega)).trans (HA.o b o e h0):D b=B0))
       have bm:=LH (ai.o.trans a5.o);have aS:(H5.aM i k mode).c=3:=bY;have z:(H5.aM i k mode).m=H.m:=bU;have aI:=LH (show w5.heap.size<=w7.heap.size from a5.o.fr.size);clear ab aB a5 ai a7 am aZ aY HA aj aW ak;generalize H5.aM i k mode=H6 at *;go_wp2_with fail;go_loopw [123] (D3 P D H6 l w7) (fun v _=>l.length-(intOf v).toNat)
       case atStart=>exact⟨0,rfl,VN _,D,cc.o,HZ.refl _ _ _⟩
       case round=>
        obtain⟨q,rfl,hq,U,T,S⟩:=hrel;by_cases cx:(q:Int)<l.length
        ·obtain⟨r,o,u,hA,hr,hu,bW⟩:=(bp.o.fr S.fr aI.o (fun g ao e h0 hs=>hs.owned (ce.o g ao e h0))).ck (k:=q) (by omega);have hx:l[q]? = Bs l[q]:=L1 (by omega);rw[V8,hx] at hu;simp only[WK,VR] at hu;subst hu hA;have cw:r<wr.heap.size:=VL hr (VO aI.o S.fr.size);have aX:=LH (q8x (H:=H6) hx);have a3:=q49 (l.take q) H6;have a4:=bo.o.aX (l.take q) aS;have bX:(woundd H6 (l.take q)).c=3:=a3.c.trans aS;have bT:(woundd H6 (l.take q)).m=H.m:=a3.m.trans z;clear a3 hx;generalize l[q]=oo at *;generalize woundd H6 (l.take q)=H8 at *;have a8:=LH (q51 T (by have:=a4.bz;omega) oo);have a6:=LH T;have ah:=LH S;have c5:=LH a4;clear T S a4;by_cases aR:oo<1\/(H8.m:Int)<oo
         ·rw[q7d aR] at a8;have J:H8.aF oo=H8:=by unfold Hs.aF;rw[if_neg (by rintro ⟨a,b,_⟩;omega)]
          have B:=LH (show D3 P D H6 l w7 (.int .i64 ((q+1:Nat):Int)) wr from⟨q+1,rfl,by omega,U,by rw[aX.o,J];exact a6.o,ah.o⟩);clear aR J;go_wp2_with fail;refine a8.o.mono ?_;rintro e w9 ⟨rfl,rfl⟩;go_wp2_with fail;go_roundw
          ·exact B.o
          ·simp[intOf];omega
         ·obtain⟨j,rfl⟩:∃ j:Nat,oo=j:=⟨oo.toNat,by omega⟩
          have aQ:1<=j:=by omega
          have aP:j<=H8.m:=by omega
          rw[q5j aQ aP] at a8;unfold pw at a8;obtain⟨vj,b7⟩:=a6.o.tx j aQ aP;obtain⟨_,j1,_,_,_,_,_,jl⟩:=b7.cells;clear aR b7;by_cases sj:(H8.tx j).state=1
          ·have J:H8.aF j=H8.abort j:=by unfold Hs.aF;rw[if_pos ⟨by omega,by omega,sj⟩];rfl
           have aL:=LH (q42 a6.o c5.o bX aQ aP);have c2:=LH J;rw[sj] at j1;unfold pw at aL;clear J sj;go_wp2_with fail;refine a8.o.mono ?_;rintro e w9 ⟨rfl,rfl⟩;go_wp2_with fail;refine aL.o.mono ?_;rintro e w9 ⟨rfl,b4,bh,bd⟩;have B:=LH (show D3 P D H6 l w7 (.int .i64 ((q+1:Nat):Int)) w9 from⟨q+1,rfl,by omega,b4,by rw[aX.o,c2.o];exact bh,ah.o.trans bd⟩);clear bh bd j1 jl bW;go_wp2_with fail;go_roundw
           ·exact B.o
           ·simp[intOf];omega
          ·have J:H8.aF j=H8:=by unfold Hs.aF;rw[if_neg (by rintro ⟨_,_,a⟩;exact sj a)]
           have B:=LH (show D3 P D H6 l w7 (.int .i64 ((q+1:Nat):Int)) wr from⟨q+1,rfl,by omega,U,by rw[aX.o,J];exact a6.o,ah.o⟩);have e1:((H8.tx j).state == 1)=Jx:=by simpa using sj
           clear J sj;go_wp2_with fail;refine a8.o.mono ?_;rintro e w9 ⟨rfl,rfl⟩;go_wp2_with fail;go_roundw
           ·exact B.o
           ·simp[intOf];omega
        ·obtain rfl:q=l.length:=by omega
         rw[Xe] at T;have a3:=q49 l H6;have a4:=bo.o.aX l aS;have bT:(woundd H6 l).m=H.m:=a3.m.trans z;obtain⟨v8,ap⟩:=T.tx i h1 (by omega);have aE:=Ib S cd.o ca.o;have af:=aE.1.cell 0;simp only[Hi,Ft] at af;have L:=qaw ap (a4.tx i h1 (by omega)) k af;obtain⟨_,_,_,_,_,_,n8,nl⟩:=ap.cells;obtain⟨cF,cA,aF,_,_⟩:=AR ap.aj;rw[aF] at n8 L;have ax:=LH L;have a6:=LH T;have ah:=LH (bm.o.trans S);clear L aE af ap aF a4 a3 T S;generalize woundd H6 l=H8 at *;go_wp2_with fail;refine ax.o.mono ?_;rintro e w9 ⟨rfl,av⟩;have ar:BZ P own H8 w w9:=⟨U,a6.o.below av,ah.o.trans (HZ.below U av)⟩
         have E:=bv.o;cases y:B6 (H8.tx i).aj k with
         | true=>
          rw[y,if_pos rfl] at E;have B:=LH (Gu.no (i:=i) (s:=s) E (by decide) ar);clear y av ar E n8;go_wp2_with fail;go_ret3;exact B.o.cJ a1.o
         | false=>
          rw[y,if_neg (by decide)] at E;have B:=LH (Gu.yes (i:=i) (s:=s) E ar);clear y av ar E n8;go_wp2_with fail;go_ret3;exact B.o.cJ a1.o
    | some ee=>
     by_cases he:ee=(H.sh s).aa
     ·have bq:=LH (show ¬Ps H i s from fun⟨e,h,h2⟩=>by rw[aq] at h;injection h with h;exact h2 (h▸he));rw[aq] at X;have d1:(ee != (H.sh s).aa)=Jx:=by simpa using he
      clear aq he;go_upto_region 16 with (fail)
      clear X k1 k8;have bt:=LH (HV.o.ae.fr ((Fr.refl (fun _=>False) w2).drew) (fun h=>h));have bP:w2.drew.cell? ⟨P.gt i,3,B0⟩=Bs (.map (Bs vt.bs)):=k3;have bO:w2.drew.cell? ⟨P.gs s,2,B0⟩=Bs (.int .i64 (H.sh s).aa):=m2;have c1:P.gt i<w2.drew.heap.size:=gl;have bN:P.gs s<w2.drew.heap.size:=sl;clear k3 m2 gl sl;refine XI 9 (by kernel_rfl) (by kernel_rfl) ?_;change wpStill _ _ (Yo _) _ _ _;simp only[WU,XM,Xb,Ys]
      repeat still_step
      refine wpStill_nil ?_;refine SR (C:=BC) rfl 61 3 Tryz.underlying61 (.tmp 80) (.tmp 81) (.tmp 85) rfl (by simp[Xh]) bt.o (by unfold Wo;omega) (s:Int) (.int .i64 (H.sh s).aa) (by simp[Xh];rfl) (by simp[Xh]) (FH (by omega) (by omega)) ?_;intro w3 aO bb;have ad:Fr (fun b=>b=vt.bs) w2 w3:=((Fr.refl _ w2).drew).trans bb;rw[qcq] at aO;have aD:Ab BC w3 vt.bs 100 (CT (AO (H.tx i).ae s (H.sh s).aa)):=by
       refine(aO.tight Dq (fun a _ ha=>?_)).mono (show Dq.length<=100 from by rw[Tu];decide);unfold CT at ha;cases e:AO (H.tx i).ae s (H.sh s).aa a with
       | none=>rw[e] at ha;exact absurd rfl ha
       | some q=>
        unfold AO at e;split at e
        ·exact Px (by omega) (by omega)
        ·have:=((aH.o.tx i h1 hi).sh a q e).1;exact Px (by omega) (by omega)
      have a2:=HV.o.cg ad aD;have au:Fr (OS own (fun t=>t=.tx i)) w2 w3:=ad.mono (fun b _ e=>⟨_,by rw[e];exact HV.o.st.resolve_right (ck _ _),rfl⟩);have aG:HI w3 own P (H.came i s):=an.o.setTx' au (Ext.refl own _) (fun b hb=>VL (an.o.lt b hb) au.size) ⟨_,a2⟩;have aN:Ay w2 own w3 own:=⟨Ext.refl own _,GQ au (fun _=>Di),fun _ _ h=>h⟩
      have aT:=aH.o.came h1 hi cj;have a0:=Ib aN bM.o b0.o;have ag:=a0.1.cell 0;have bc:=a0.1.lt;simp only[Hi,Ft] at ag;have az:EX { H.tx i with ae:=AO (H.tx i).ae s (H.sh s).aa }:=by
       have:=aT.tx i h1 hi;unfold Hs.came at this;rw[SL] at this;exact this
      have L:=qax a2 az k ag;obtain⟨_,n1,_,_,_,_,n8,nl⟩:=a2.cells;obtain⟨A8,c8,bg,_,_⟩:=AR a2.aj;rw[bg] at n8 L;have ax:=LH L;have b1:=LH aG;have aV:=LH (b3.o.trans aN);have bA:=LH a0.1;have ay:=LH aT;have c6:=LH a2;clear L aG aN a0 aT az a2 au aD aO ad bb bP bO c1 bN bt bg;go_wp2_with fail;refine ax.o.mono ?_;rintro e w4 ⟨rfl,R⟩;cases y:B6 (H.tx i).aj k with
      | true=>
       have B:=LH (Gu.no (i:=i) (s:=s) (bJ.o br.o bq.o y) (by decide) ⟨own,b1.o.below R,aV.o.trans (HZ.below own R)⟩);clear y R;go_wp2_with fail;go_ret3;exact B.o.cJ a1.o
      | false=>
       have bw:=LH (b1.o.below R);have bn:=LH (aV.o.trans (HZ.below own R));have Y:=Ib (HZ.below (Z:=BM) own R) bA.o b0.o;have bz:=LH Y.1;have X:=qa6 (bw.o.below (VK w4.heap.size w4).drew) (show s<(H.came i s).c from by show s<H.c;omega) i mode ⟨k.toArray⟩ (by have:=aH.o.bz;omega) (by rw[Dh];exact hk) hm (ay.o.tab s (by show s<H.c;omega));rw[Dh] at X;have aJ:=LH X;have al:=LH (bI.o br.o bq.o y);have c4:=LH y;have d:=Wm ((show Ae w4.drew _ _ _ from Y.1).cell 0) (show kb<w4.drew.heap.size from Y.1.lt);simp only[Hi,Ft] at d;clear X y Y R ag bc n8 bA b1 ax;go_upto_region 19 with (fail)
       clear n1 nl;refine nW ?_;refine CF (fun W=>W.cell? ⟨kb,0,B0⟩=Bs (.string ⟨k.toArray⟩)/\kb<W.heap.size) 14 (fun _ _ _ _ _ h=>h) (fun f=>?_);refine nD 0 [1,2,6,7,8,9,10,11,12,13] f d ?_;refine nD 1 [2,6,7,8,9,10,11,12,13] f d ?_;refine nD 2 [6,7,8,9,10,11,12,13] f d ?_;refine nD 3 [6,7,8,9,10,11,12,13] f d ?_;refine nA 4 [6,7,8,9,10,11,12,13] rfl rfl f d (fun w' a9=>by obtain⟨p0,pl⟩:=a9;go_simp;rfl) ?_;refine nD 5 [6,7,8,9,10,11,12,13] f d ?_;clear d;refine nG 6 (fun G x=>?_);go_simp;refine aJ.o.mono ?_;rintro e w5 ⟨ok,l,er,A,c,I,rfl,hP,bj,bf,aC,bl⟩;have aM:Ay w4 own w5 I:=(HZ.below own (VK w4.heap.size w4).drew).trans (bf.mono (fun _=>Fu));have K:=Ib aM bz.o b0.o;have d:=Wm (K.1.cell 0) K.1.lt;simp only[Hi,Ft] at d;have am:=LH K.1;have aZ:=LH K.2;have a7:=LH (show HI w5 I P ((H.came i s).aU i s k mode) from bj);have ai:=LH (bn.o.trans aM);have HP:=LH hP;have aY:=LH aC;have HA:=LH bl;clear aM K bj bf hP aC bl aJ bw bn bz;go_simp;refine x _ _ (fun _=>d) ?_;clear x G;refine nG 7 (fun G x=>?_);go_simp;refine x _ _ (fun _=>d) ?_;clear x G;refine nD 8 [11,12,13] f d ?_;refine nD 9 [12,13] f d ?_;refine nD 10 [13] f d ?_;refine nG 11 (fun G x=>?_);go_simp;refine x _ _ (fun _=>d) ?_;clear x G;refine nG 12 (fun G x=>?_);go_simp;refine x _ _ (fun _=>d) ?_;clear x G;refine nG 13 (fun G x=>?_);go_simp;refine x _ _ (fun _=>d) ?_;clear x G;refine nX ?_;clear f;rcases qa1 HP.o hm b2 with ⟨q1,rfl,rfl,rfl⟩|⟨q1,q2,rfl,rfl,rfl⟩|⟨q1,q2,q3,rfl,rfl,rfl⟩|⟨q1,q2,q3,rfl,rfl,b6⟩
       ·have B:=LH (Gu.no (i:=i) (s:=s) (al.o.trans (bH.o q1)) (by decide) ⟨I,a7.o,ai.o⟩);rw[show CD 9=.iface 79 (.int .i64 9) from rfl];clear q1 d;go_wp2_with fail;go_ret3;exact B.o.cJ a1.o
       ·have B:=LH (Gu.yes (i:=i) (s:=s) (al.o.trans (bK.o q1 q2)) ⟨I,a7.o,ai.o⟩);rw[show CD 0=.nilIface from rfl];clear q1 q2 d;go_wp2_with fail;go_ret3;exact B.o.cJ a1.o
       ·have B:=LH (Gu.no (i:=i) (s:=s) (al.o.trans (bL.o q1 q2 q3)) (by decide) ⟨I,a7.o,ai.o⟩);rw[show CD 4=.iface 79 (.int .i64 4) from rfl];clear q1 q2 q3 d;go_wp2_with fail;go_ret3;exact B.o.cJ a1.o
       ·have bv:=LH (al.o.trans (bG.o q1 q2 q3));have bV:=Fa (fun o m ho=>((ay.o.tab s (by show s<H.c;omega)).at_ k).hold o m ho) b6;subst bV;rw[show CD 0=.nilIface from rfl];clear q1 q2 q3 d b6;have aw:=ay.o.aU (mode:=mode) h1 (show i<=(H.came i s).m from hi) (show s<(H.came i s).c by show s<H.c;omega) hk;have aA:B6 (((H.came i s).aU i s k mode).tx i).aj k=Jx:=by
         show B6 ((H.came i s).tx i).aj k=Jx;unfold Hs.came;rw[SL];exact c4.o
        have bY:((H.came i s).aU i s k mode).c=3:=hc;have bU:((H.came i s).aU i s k mode).m=H.m:=rfl;have b8:=fun o (ho:o∈D8 (Ac ((H.came i s).sh s).tab k).h (i:Int) mode)=>q8v ho
        have cy:=q8w (Ac ((H.came i s).sh s).tab k).h (i:Int) mode;generalize D8 (Ac ((H.came i s).sh s).tab k).h (i:Int) mode=l at *;clear bH bK bL bG al HP cb bu bJ bI ay c6 b3 aV an bM;generalize (H.came i s).aU i s k mode=H5 at *;have cC:=LH aw;have bo:=LH (aw.aM (mode:=mode) h1 (show i<=H5.m by omega) hk aA);have cD:=LH b8;obtain⟨v5,aa⟩:=a7.o.tx i h1 (by omega);have aj:=LH aa;have cg:=(aw.tx i h1 (by omega)).bD;obtain⟨_,_,_,_,_,_,n8,nl⟩:=aa.cells;obtain⟨A9,c9,aU,_,_⟩:=AR aa.aj;have N:=aa.aj;rw[aU] at n8 N;have ak:=LH N;have aW:=LH aU;clear aa aU N aw aA b8;go_upto_region 23 with (fail)
        refine nW ?_;refine CF (fun W=>W.cell? ⟨P.gt i,8,B0⟩=Bs (.slice A9 (H5.tx i).aj.length c9)/\W.cell? ⟨kb,0,B0⟩=Bs (.string ⟨k.toArray⟩)) 10 (fun _ _ _ _ _ h=>h) (fun f=>?_);have d:w5.drew.cell? ⟨P.gt i,8,B0⟩=Bs (.slice A9 (H5.tx i).aj.length c9)/\w5.drew.cell? ⟨kb,0,B0⟩=Bs (.string ⟨k.toArray⟩):=⟨n8,(show Ae w5.drew _ _ _ from am.o).cell 0⟩
        refine nD 0 [10,11,12] f d ?_;refine nD 1 [2,3,4,9,10,11,12] f d ?_;refine nD 2 [3,4,9,10,11,12] f d ?_;refine nD 3 [4,9,10,11,12] f d ?_;refine nA 4 [9,10,11,12] rfl rfl f d (fun w' a9=>by obtain⟨p0,p1⟩:=a9;go_simp;rfl) ?_;refine nA 5 [7,8,9,10,11,12] rfl rfl f d (fun w' a9=>by obtain⟨p0,p1⟩:=a9;go_simp;rfl) ?_;refine nD 6 [7,8,9,10,11,12] f d ?_;refine nD 7 [8,9,10,11,12] f d ?_;have O:∀ o q p,q<w5.heap.size->(w5.alloc o).cell? ⟨q,p,B0⟩=w5.cell? ⟨q,p,B0⟩:=fun o q p hq=>WX w5 o ⟨q,p,B0⟩ hq
        refine nG 8 (fun G x=>?_);go_simp;refine x _ _ (fun _=>⟨(O _ _ _ nl).trans d.1,(O _ _ _ am.o.lt).trans d.2⟩) ?_;clear x G d O;refine nG 9 (fun G x=>?_);refine SQ w5.drew w5.heap.size rfl _ (.tmp 113) (.tmp 117) 76 rfl 0 129 _ 2 24 Tryz.underlying76 ME rfl (by decide) _ _ _ #[.string ⟨k.toArray⟩,.int .i64 mode] rfl ak.o 1 rfl _ rfl rfl (by simp[WB]) (by unfold Wo;omega) (by omega) (VN _) ?_;intro V2 w6 M z;have V:Av w5 w6 v5.Vx.ownBlock V2.ownBlock:=by rw[aW.o];exact⟨⟨z.1.os,z.1.tape,z.1.output,z.1.size,z.1.block⟩,z.2⟩
        obtain⟨D,bi,be,v7,bS⟩:=a7.o.c6 (i:=i) (k:=k) (mode:=mode) aj.o V M;have ba:¬Bs (P.gt i)=v5.Vx.ownBlock:=fun e=>aj.o.aW.2.1 e.symm
        have b5:¬Bs kb=v5.Vx.ownBlock:=fun e=>by have:=aj.o.xt kb e.symm;rw[aZ.o] at this;cases this
        have ac:=V.1.ak aj.o.ak ba;have b9:=V.1.ak am.o b5;have y1:=ac.frozen 8;have yl:=ac.lt;have y0:∃ u,w6.cell? ⟨P.gt i,8,B0⟩=Bs u:=by
         have:=ac.cell 8;unfold Om at this;simp only[Hi,Ft,N2] at this;exact⟨_,this⟩
        obtain⟨u0,y0⟩:=y0;have bk:w6.cell? ⟨P.gt i,8,B0⟩=Bs (.slice A9 (H5.tx i).aj.length c9)/\w6.cell? ⟨kb,0,B0⟩=Bs (.string ⟨k.toArray⟩):=⟨by
         have:=ac.cell 8;unfold Om at this;simp only[Hi,Ft,N2] at this;rw[this,aW.o],b9.cell 0⟩
        have bx:=LH bk;have cc:=LH bi;have a5:=LH be;obtain⟨A7,c7,c0,_,_⟩:=AR M;subst c0;clear z V ba b5 ac b9 bk bi be bS M v7;go_simp;refine x _ _ (fun _=>bx.o) ?_;clear x G;refine nG 10 (fun G x=>?_);go_simp;refine x _ _ nZ ?_;clear x G;refine nG 11 (fun G x=>?_);go_simp;refine x _ _ nZ ?_;clear x G;refine nG 12 (fun G x=>?_);go_simp;refine x _ _ nZ ?_;clear x G;refine nX ?_;clear f y0 y1 yl bx n8 nl;generalize (w6.setCell _ _)=w7 at *;have ab:=Ib a5.o am.o aZ.o;have cd:=LH ab.1;have ca:=LH ab.2;have aB:Rd w7 w5.heap.size 1 A l.length (l.map (Wp .i64)):=aY.o.fr a5.o.fr (K0 _) (fun g ao e h0 hs=>hs.owned (HA.o g ao e h0));have bp:=LH aB;have ce:=LH (fun b o (e:A=Bs ⟨b,o,B0⟩) (h0:0<l.length)=>((a5.o.ext b (by
         obtain⟨g,ao,u,e2,hg,_⟩:=aY.o.ck (k:=0) h0;rw[e] at e2;injection e2 with e2;injection e2 with e2;omega)).trans (HA.o b o e h0):D b=B0))
        have bm:=LH (ai.o.trans a5.o);have aS:(H5.aM i k mode).c=3:=bY;have z:(H5.aM i k mode).m=H.m:=bU;have aI:=LH (show w5.heap.size<=w7.heap.size from a5.o.fr.size);clear ab aB a5 ai a7 am aZ aY HA aj aW ak;generalize H5.aM i k mode=H6 at *;go_wp2_with fail;go_loopw [123] (D3 P D H6 l w7) (fun v _=>l.length-(intOf v).toNat)
        case atStart=>exact⟨0,rfl,VN _,D,cc.o,HZ.refl _ _ _⟩
        case round=>
         obtain⟨q,rfl,hq,U,T,S⟩:=hrel;by_cases cx:(q:Int)<l.length
         ·obtain⟨r,o,u,hA,hr,hu,bW⟩:=(bp.o.fr S.fr aI.o (fun g ao e h0 hs=>hs.owned (ce.o g ao e h0))).ck (k:=q) (by omega);have hx:l[q]? = Bs l[q]:=L1 (by omega);rw[V8,hx] at hu;simp only[WK,VR] at hu;subst hu hA;have cw:r<wr.heap.size:=VL hr (VO aI.o S.fr.size);have aX:=LH (q8x (H:=H6) hx);have a3:=q49 (l.take q) H6;have a4:=bo.o.aX (l.take q) aS;have bX:(woundd H6 (l.take q)).c=3:=a3.c.trans aS;have bT:(woundd H6 (l.take q)).m=H.m:=a3.m.trans z;clear a3 hx;generalize l[q]=oo at *;generalize woundd H6 (l.take q)=H8 at *;have a8:=LH (q51 T (by have:=a4.bz;omega) oo);have a6:=LH T;have ah:=LH S;have c5:=LH a4;clear T S a4;by_cases aR:oo<1\/(H8.m:Int)<oo
          ·rw[q7d aR] at a8;have J:H8.aF oo=H8:=by unfold Hs.aF;rw[if_neg (by rintro ⟨a,b,_⟩;omega)]
           have B:=LH (show D3 P D H6 l w7 (.int .i64 ((q+1:Nat):Int)) wr from⟨q+1,rfl,by omega,U,by rw[aX.o,J];exact a6.o,ah.o⟩);clear aR J;go_wp2_with fail;refine a8.o.mono ?_;rintro e w9 ⟨rfl,rfl⟩;go_wp2_with fail;go_roundw
           ·exact B.o
           ·simp[intOf];omega
          ·obtain⟨j,rfl⟩:∃ j:Nat,oo=j:=⟨oo.toNat,by omega⟩
           have aQ:1<=j:=by omega
           have aP:j<=H8.m:=by omega
           rw[q5j aQ aP] at a8;unfold pw at a8;obtain⟨vj,b7⟩:=a6.o.tx j aQ aP;obtain⟨_,j1,_,_,_,_,_,jl⟩:=b7.cells;clear aR b7;by_cases sj:(H8.tx j).state=1
           ·have J:H8.aF j=H8.abort j:=by unfold Hs.aF;rw[if_pos ⟨by omega,by omega,sj⟩];rfl
            have aL:=LH (q42 a6.o c5.o bX aQ aP);have c2:=LH J;rw[sj] at j1;unfold pw at aL;clear J sj;go_wp2_with fail;refine a8.o.mono ?_;rintro e w9 ⟨rfl,rfl⟩;go_wp2_with fail;refine aL.o.mono ?_;rintro e w9 ⟨rfl,b4,bh,bd⟩;have B:=LH (show D3 P D H6 l w7 (.int .i64 ((q+1:Nat):Int)) w9 from⟨q+1,rfl,by omega,b4,by rw[aX.o,c2.o];exact bh,ah.o.trans bd⟩);clear bh bd j1 jl bW;go_wp2_with fail;go_roundw
            ·exact B.o
            ·simp[intOf];omega
           ·have J:H8.aF j=H8:=by unfold Hs.aF;rw[if_neg (by rintro ⟨_,_,a⟩;exact sj a)]
            have B:=LH (show D3 P D H6 l w7 (.int .i64 ((q+1:Nat):Int)) wr from⟨q+1,rfl,by omega,U,by rw[aX.o,J];exact a6.o,ah.o⟩);have e1:((H8.tx j).state == 1)=Jx:=by simpa using sj
            clear J sj;go_wp2_with fail;refine a8.o.mono ?_;rintro e w9 ⟨rfl,rfl⟩;go_wp2_with fail;go_roundw
            ·exact B.o
            ·simp[intOf];omega
         ·obtain rfl:q=l.length:=by omega
          rw[Xe] at T;have a3:=q49 l H6;have a4:=bo.o.aX l aS;have bT:(woundd H6 l).m=H.m:=a3.m.trans z;obtain⟨v8,ap⟩:=T.tx i h1 (by omega);have aE:=Ib S cd.o ca.o;have af:=aE.1.cell 0;simp only[Hi,Ft] at af;have L:=qaw ap (a4.tx i h1 (by omega)) k af;obtain⟨_,_,_,_,_,_,n8,nl⟩:=ap.cells;obtain⟨cF,cA,aF,_,_⟩:=AR ap.aj;rw[aF] at n8 L;have ax:=LH L;have a6:=LH T;have ah:=LH (bm.o.trans S);clear L aE af ap aF a4 a3 T S;generalize woundd H6 l=H8 at *;go_wp2_with fail;refine ax.o.mono ?_;rintro e w9 ⟨rfl,av⟩;have ar:BZ P own H8 w w9:=⟨U,a6.o.below av,ah.o.trans (HZ.below U av)⟩
          have E:=bv.o;cases y:B6 (H8.tx i).aj k with
          | true=>
           rw[y,if_pos rfl] at E;have B:=LH (Gu.no (i:=i) (s:=s) E (by decide) ar);clear y av ar E n8;go_wp2_with fail;go_ret3;exact B.o.cJ a1.o
          | false=>
           rw[y,if_neg (by decide)] at E;have B:=LH (Gu.yes (i:=i) (s:=s) E ar);clear y av ar E n8;go_wp2_with fail;go_ret3;exact B.o.cJ a1.o
     ·have ci:Ps H i s:=⟨ee,aq,he⟩
      have cl:=bu.o br.o ci;have aL:=LH (q42 an.o aH.o hc h1 hi);rw[aq] at X;have d1:(ee != (H.sh s).aa)=VJ:=by simpa using he
      unfold pw at aL;have bu:=LH cl;clear aq he ci cl;go_wp2_with fail;refine aL.o.mono ?_;rintro e w3 ⟨rfl,cf,aG,cr⟩;have B:=LH (Gu.no (i:=i) (s:=s) bu.o (by decide) ⟨cf,aG,b3.o.trans cr⟩);clear aG cr k1 k3 k8 gl m2 sl X;go_wp2_with fail;go_ret3;exact B.o.cJ a1.o
  ·have B:=LH (show LkP P own i k w (H.lock i k mode) (.returned (.tuple #[.pointer B0,.pointer B0,.iface 79 (.int .i64 6)])) w1 from by rw[q3r h1 hi s1];exact⟨rfl,own,aK.o,bF.o⟩);have e1:((H.tx i).state != 1)=VJ:=by simpa using s1
   clear s1;go_wp2_with fail;refine HF.o.mono ?_;rintro e w2 ⟨rfl,rfl⟩;go_wp2_with fail;go_ret3;exact B.o
end
def Gk (t:Tg):Prop:=t=.txr\/t=.hs
def Wf.begin {H:Hs} (h:Wf H) (m:H.m<60):Wf H.begin:=by
 have e:∀ i,i<=H.m->H.begin.tx i=H.tx i:=fun i c=>As (by omega) _
 have j:H.begin.tx (H.m+1)=DJ:=An _ _ _;refine⟨h.n4,h.c3,m,h.nd,h.tab,h.sto,h.ao,h.net,h.down,fun i g c=>?_,?_,fun i g c=>?_⟩
 ·rcases W7 H.m i with b|b
  ·rw[show i=H.m+1 by have:i<=H.m+1:=c;omega,j];exact⟨VN _,fun p l=>(nomatch l),fun k e f=>(nomatch f),fun k e f=>(nomatch f),fun a d=>(nomatch d),List.nodup_nil⟩
  ·rw[e i b];exact h.tx i g b
 ·show H.ag=D6 H.begin;rw[h.tm];unfold D6;show _=(((Wh 1 (H.m+1)).filter fun i=>decide ((H.begin.tx i).ag≠0)).length:Int);rw[YZ,List.filter_append];have o:List.filter (fun i=>decide ((H.begin.tx i).ag≠0)) [1+1*H.m]=[]:=by
   rw[List.filter_eq_nil_iff];intro a d;rw[VW] at d;rw[d,show 1+1*H.m=H.m+1 by omega,j];simp[DJ]
  rw[o,List.append_nil];congr 2;apply List.filter_congr;intro i c;rw[Xz] at c;rw[e i (by omega)]
 ·rcases W7 H.m i with b|b
  ·rw[show i=H.m+1 by have:i<=H.m+1:=c;omega,j];have:=h.bk;exact⟨WD _,this.1⟩
  ·rw[e i b];exact h.cR i g b
section
variable {w w' w4 w5:D0} {own own' own4:Ah} {P:Aq} {H:Hs}
def HI.grown (h:HI w own P H) (g:VP w.heap.size w w') (d:Ext own own' w.heap.size) (e:∀ b,own' b≠B0->b<w'.heap.size):HI w' own' P H:=
 have c:=q68 own g
 ⟨e,h.hs.aP c d (fun _ _ h=>h),fun s hs=>(h.sh s hs).aP c d (fun _ _ h=>h),fun s j hs f=>(h.nd s j hs f).aP c d (fun h=>h),fun i m l=>(h.tx i m l).aP c d (fun h=>h) (fun h=>h)⟩
def HI.cE (h:HI w4 own4 P H) {b:Nat} {E:Ko} (x:Co w4 own4 (H.m+1) b E DJ) {v:Kr} (f:Eh w4 own4 P H.c H.m H.net H.ag v) (z:Av w4 w5 v.Vt.ownBlock V'.ownBlock)
  (G:w5.ownsRow 0 74 1 V' (H.m+1) (((Wh 1 H.m).map fun i=>pw (P.gt i))++[pw b])) :
  ∃ own',HI (w5.setCell ⟨P.g,4,B0⟩ V') own' { P with gt:=Af P.gt (H.m+1) b } H.begin/\HZ Gk w4 own4 (w5.setCell ⟨P.g,4,B0⟩ V') own':=by
 have m:Ext own4 (DK own4 w4.heap.size (fun q=>V'.ownBlock=Bs q) .txr) w4.heap.size:=QS;have C:Fr (OS own4 Gk) w4 w5:=z.1.mono (fun q _ e=>⟨_,f.bu q e.symm,.inl rfl⟩);have o:=Fr.a6 P.g w5 4 V';have l:Fr (OS own4 Gk) w4 (w5.setCell ⟨P.g,4,B0⟩ V'):=C.setCell (p:=⟨P.g,4,B0⟩) (.inl ⟨_,f.gt,.inr rfl⟩) _;have B:¬Bs P.g=v.Vt.ownBlock:=fun e=>by have:=f.bu P.g e.symm;rw[f.gt] at this;cases this
 have r:Ae w5 P.g 92 (Oi v H.ag):=z.1.ak f.nt.ak B;have y:∀ q,E7 v q->¬OS own4 Gk q:=fun q d hs=>by rcases hs.tag (f.bc q d) with e|e <;> cases e
 have L:AJ (w5.setCell ⟨P.g,4,B0⟩ V') 0 P.g 0 92 (Oi { v with Vt:=V' } H.ag) v.Vn v.D 100 v.L H.net.ao v.lost:=
  f.nt.bW l y (r.aH 4 V') rfl rfl rfl
 have g:(w5.setCell ⟨P.g,4,B0⟩ V').ownsRow 0 74 1 V' (H.m+1) ((Wh 1 (H.m+1)).map fun i=>pw (Af P.gt (H.m+1) b i)):=by
  have D:((Wh 1 (H.m+1)).map fun i=>pw (Af P.gt (H.m+1) b i))=(((Wh 1 H.m).map fun i=>pw (P.gt i))++[pw b]):=by
   rw[YZ,Xd];congr 1
   ·apply List.map_congr_left;intro i A;rw[Xz] at A;rw[As (by omega)]
   ·rw[show 1+1*H.m=H.m+1 by omega,WH,XN,An]
  rw[D];exact o.own G (fun q d e=>Bh G r (by decide) (by rw[d,e]))
 have u:∀ q,V'.ownBlock=Bs q->DK own4 w4.heap.size (fun q=>V'.ownBlock=Bs q) .txr q=Bs .txr:=fun q d=>QQ (by
  rcases z.2 with e|⟨M,e,hl⟩
  ·exact .inl (f.bu q (by rw[<- e];exact d))
  ·rw[e] at d;injection d with d;exact .inr (by omega)) d
 refine⟨_,⟨QP l.size (fun q d=>(g.lt q d).2),⟨{ v with Vt:=V' },L,f.msgs,fun q d=>(m q (f.nt.aw d)).trans (f.bc q d),f.br,l.own f.shr (fun q d hs=>by rcases hs.tag (f.bx q d) with e|e <;> cases e),fun q d=>(m q (f.shr.lt q d).2).trans (f.bx q d),g,u,(m _ f.nt.ak.lt).trans f.gt⟩,fun s hs=>?_,fun s j hs K=>?_,fun i D A=>?_⟩,⟨m,l,(by first|exact Pz (by simp)|exact fun _ _ h=>h)⟩⟩
 ·exact(h.sh s hs).aP l m (fun t J c=>by rcases J with h|h|h|h|h <;> subst h <;> rcases c with h|h <;> cases h)
 ·exact(h.nd s j hs K).aP l m (fun c=>by rcases c with h|h <;> cases h)
 ·rcases W7 H.m i with I|I
  ·obtain rfl:i=H.m+1:=by have:i<=H.m+1:=A;omega
   show SU _ _ (H.m+1) (Af P.gt (H.m+1) b (H.m+1)) (Af H.tx (H.m+1) DJ (H.m+1));rw[An,An];exact⟨E,x.aP l m (fun c=>by rcases c with h|h <;> cases h) (fun c=>by rcases c with h|h <;> cases h)⟩
  ·show SU _ _ i (Af P.gt (H.m+1) b i) (Af H.tx (H.m+1) DJ i);rw[As (by omega),As (by omega)];exact(h.tx i D I).aP l m (fun c=>by rcases c with h|h <;> cases h) (fun c=>by rcases c with h|h <;> cases h)
end
def Q0:(Tryz.prog.info? 74).map (fun i=>(i.zero,i.size,i.bytes))=Bs (Bs (.pointer B0),1,8):=by kernel_rfl
def SF (P:Aq) (own:Ah) (H:Hs) (w:D0) (e:WC) (w':D0):Prop:=e=.returned (.tuple #[.int .i64 ((H.m+1:Nat):Int),.nilIface])/\∃ b own',HI w' own' { P with gt:=Af P.gt (H.m+1) b } H.begin/\HZ Gk w own w' own'
section
variable {w w':D0} {own own':Ah} {P:Aq} {H:Hs}
def PH (w:D0) (m:Nat):D0:=(((w.alloc (.map #[] 0)).alloc (.map #[] 0)).alloc (.map #[] 0)).alloc (.cells #[.int .i64 ((m:Int)+1),.int .i64 1,.slice B0 0 0,.map (Bs w.heap.size),.map (Bs (w.heap.size+1)),.int .i64 0,.int .i64 (-1),.map (Bs (w.heap.size+2)),.slice B0 0 0] 78)
def bgV (w:D0):Ko:=⟨.slice B0 0 0,w.heap.size,w.heap.size+1,.map (Bs (w.heap.size+2)),.int .i64 (-1),.slice B0 0 0⟩
def bg_tx (w:D0) (own:Ah) (m:Nat) (h:m<60):Co (PH w m) (C4 own w.heap.size (w.heap.size+4) (.tx (m+1))) (m+1) (w.heap.size+3) (bgV w) DJ/\VP w.heap.size w (PH w m)/\(PH w m).heap.size=w.heap.size+4:=by
 have e:(PH w m).heap.size=w.heap.size+4:=by unfold PH;simp
 have c:VP w.heap.size w (PH w m):=((((VK _ _).alloc (K0 _) _).alloc (by simp) _).alloc (by simp;omega) _).alloc (by simp;omega) _;have d:∀ b,w.heap.size<=b->b<w.heap.size+4->C4 own w.heap.size (w.heap.size+4) (.tx (m+1)) b=Bs (.tx (m+1)):=fun b g f=>Ow g f
 refine⟨⟨?_,VZ _ _ _ _,?_,?_,VZ _ _ _ _,by show w.heap.size≠w.heap.size+1;omega,d _ (by omega) (by omega),fun b c=>(nomatch c),.inl (d w.heap.size (K0 _) (by omega)),d (w.heap.size+1) (by omega) (by omega),fun b c=>(nomatch c)⟩,c,e⟩
 ·have:=Ae.new (((w.alloc (.map #[] 0)).alloc (.map #[] 0)).alloc (.map #[] 0)) 78 #[.int .i64 ((m:Int)+1),.int .i64 1,.slice B0 0 0,.map (Bs w.heap.size),.map (Bs (w.heap.size+1)),.int .i64 0,.int .i64 (-1),.map (Bs (w.heap.size+2)),.slice B0 0 0];rw[show(((w.alloc (.map #[] 0)).alloc (.map #[] 0)).alloc (.map #[] 0)).heap.size=w.heap.size+3 by simp] at this;exact this
 ·exact((((Ab.made BC w).alloc (.map #[] 0)).alloc (.map #[] 0)).alloc _).mono (VN 100)
 ·have:=((Ab.made BC (w.alloc (.map #[] 0))).alloc (.map #[] 0)).alloc (.cells #[.int .i64 ((m:Int)+1),.int .i64 1,.slice B0 0 0,.map (Bs w.heap.size),.map (Bs (w.heap.size+1)),.int .i64 0,.int .i64 (-1),.map (Bs (w.heap.size+2)),.slice B0 0 0] 78);rw[show(w.alloc (.map #[] 0)).heap.size=w.heap.size+1 by simp] at this;exact this.mono (VN 100)
def qak (h:HI w own P H) (hm:H.m<60):VY Tryz.prog 17 #[pw P.g] w (SF P own H w):=by
 have U:=@run_makeMap Tryz.prog;obtain⟨z,o,B⟩:=bg_tx w own H.m hm;have q:=h.grown o (FP own w.heap.size (w.heap.size+4) (.tx (H.m+1))) (fun b hb=>by rw[B];exact Q6 (by omega) hb);have a0:=LH q;have j:=LH z;have Z:=LH (show HZ Gk w own (PH w H.m) (C4 own w.heap.size (w.heap.size+4) (.tx (H.m+1))) from⟨FP _ _ _ _,(q68 own o).mono (fun _ _ ⟨t,a,b⟩=>⟨t,a,b.elim⟩),fun b i e=>by unfold C4 at e;split at e;exact e;split at e <;> simp at e⟩);obtain⟨v0,r⟩:=h.hs;obtain⟨_,_,Y,_,gl⟩:=r.cells;obtain⟨A0,q0,G,_,_⟩:=AR r.txr;rw[G] at Y;have T:((H.m:Int) == 60)=Jx:=by simpa using (by omega:¬(H.m:Int)=60)
 have a1:P.g<(PH w H.m).heap.size:=by omega
 have W:(PH w H.m).cell? ⟨P.g,4,B0⟩=Bs (.slice A0 H.m q0):=(o.cell (p:=⟨P.g,4,B0⟩) gl).trans Y;have S:=j.o.cells.1;have R:=j.o.cells.2.2.2.2.2.2.2;have a2:(PH w H.m).frozen? ⟨P.g,4,B0⟩=Jx:=by
  obtain⟨l,c⟩:=q.hs;exact c.nt.ak.frozen 4
 have M:=LH (show ∃ l,Eh (PH w H.m) (C4 own w.heap.size (w.heap.size+4) (.tx (H.m+1))) P H.c H.m H.net H.ag l/\l.Vt=.slice A0 H.m q0 from by
  obtain⟨l,c⟩:=q.hs;refine⟨l,c,?_⟩;have e:=c.cells.2.2.1;rw[W] at e;injection e with e;exact e.symm)
 unfold PH at *;clear h r G z q o;unfold pw at *;go_enter Tryz.func17,Tryz.ntmps17;go_upto_region 4 with (fail)
 clear Y U T B S R;generalize World.alloc (World.alloc (World.alloc (World.alloc w _) _) _) _=W4 at *;obtain⟨l,c,u⟩:=M.o;have L:=LH c;have f:=c.txr;rw[u] at f;have v:=LH f;have K:=LH u;have V:¬Bs P.g=l.Vt.ownBlock:=fun e=>by have:=c.bu P.g e.symm;rw[c.gt] at this;cases this
 have D:¬Bs (w.heap.size+3)=l.Vt.ownBlock:=fun e=>by have:=c.bu _ e.symm;rw[j.o.gt] at this;cases this
 clear c u f M;go_wp2_with (at_builtin;refine stop ?_)
 refine Df ?_;refine PD W4 _ rfl (.tmp 27) (.tmp 29) 90 rfl 0 74 (.pointer B0) 1 8 Tryz.underlying90 Q0 rfl (by decide) _ _ _ #[.pointer (Bs ⟨w.heap.size+3,0,B0⟩)] rfl v.o 1 rfl _ rfl rfl (by simp[WB]) (by unfold Wo;omega) (by omega) (VN _) ?_;intro J x d C;have g:Av W4 x l.Vt.ownBlock J.ownBlock:=by rw[K.o];exact C
 obtain⟨y,I,E⟩:=a0.o.cE j.o L.o g d;have m:=g.1.ak L.o.nt.ak V;have y1:=m.frozen 4;have O:=m.cell 4;unfold Oi at O;simp only[Hi,Ft,N2] at O;rw[K.o] at O;have yl:=m.lt;have A:=(g.1.ak j.o.ak D)
 have s:=(Fr.a6 P.g x 4 J).ak A (by omega);have N:=s.cell 0;have tl:=s.lt;unfold Om at N;simp only[Hi,Ft] at N;have T0:=LH (show(x.setCell ⟨P.g,4,B0⟩ J).cell? ⟨w.heap.size+1+1+1,0,B0⟩=Bs (.int .i64 ((H.m:Int)+1)) from N);have TL:=LH (show w.heap.size+1+1+1<(x.setCell ⟨P.g,4,B0⟩ J).heap.size from tl);clear N tl s;have HF:=LH (show SF P own H w (.returned (.tuple #[.int .i64 ((H.m:Int)+1),.nilIface])) (x.setCell ⟨P.g,4,B0⟩ J) from⟨rfl,w.heap.size+3,y,I,Z.o.trans E⟩);obtain⟨A7,c7,X,_,_⟩:=AR d;subst X;clear C g m A I E d;go_upto_region 5 with (fail)
 generalize (x.setCell _ _)=w7 at *;generalize w.heap.size+1+1+1=tb at *;have t1:=T0.o;have t2:=TL.o;go_wp2_with fail;go_ret2;exact HF.o
end
def Ov:(Tryz.prog.info? 66).map (fun i=>(i.zero,i.size,i.bytes))=Bs (Bs (.slice B0 0 0),1,24):=by kernel_rfl
structure D4 (w:D0) (x:O0×List By) (l:List Cm):Prop where
 row:w.ownsRow 0 69 4 x.1 x.2.length (x.2.flatMap DM)
 log:AM x.2=l
 own:∀ y∈x.2,EF w 0 y
 br:x.2.length<=500
def LgSo (H:Hs) (s:Nat) (l:List Nat) (w wr:D0) (V:O0) (b:List (O0×List By)):Prop:=
 wr.ownsRow w.heap.size 66 1 V b.length (b.map (·.1))/\(∀ (i:Nat) (x:O0×List By),b[i]? = Bs x->∃ j:Nat,l[i]? = Bs j/\D4 wr x ((H.sh s).nd j).log)/\VP w.heap.size w wr
def NB (H:Hs) (s:Nat) (l:List Nat) (w:D0) (e:WC) (w':D0):Prop:=
 ∃ V b,e=.returned (.tuple #[V,.nilIface])/\b.length=l.length/\LgSo H s l w w' V b
def So (H:Hs) (s:Nat) (w:D0) (e:WC) (w':D0):Prop:=NB H s ((H.sh s).ah H.n) w e w'
def LgRel (H:Hs) (s:Nat) (l:List Nat) (w:D0) (c b:O0) (wr:D0):Prop:=
 ∃ (q:Nat) (Ls:List (O0×List By)),b=.int .i64 q/\q<=l.length/\Ls.length=q/\LgSo H s l w wr c Ls
section
variable {w w':D0} {own own':Ah} {P:Aq} {H:Hs}
def D4.below {B:Nat} {x:O0×List By} (h:D4 w x l) {xs:List O0} (g:w.ownsRow B 66 1 V n xs) (f:Fr (fun b=>Bs b=V.ownBlock) w w'):D4 w' x l:=
 ⟨f.own h.row (fun b d e=>ES h.row g (by decide) d e.symm),h.log,fun y c=>⟨f.own (h.own y c).1 (fun b d e=>ES (h.own y c).1 g (by decide) d e.symm),(h.own y c).2⟩,h.br⟩
def D4.aC {x:O0×List By} (h:D4 w x l) (c:VP w.heap.size w w'):D4 w' x l:=by
 have e:=DG c;exact⟨e.own h.row (fun b c hs=>by have:=(h.row.lt b c).2;omega),h.log,fun y d=>⟨e.own (h.own y d).1 (fun b c hs=>by have:=((h.own y d).1.lt b c).2;omega),(h.own y d).2⟩,h.br⟩
def Rp (h:HI w own P H) (wf:Wf H) (hc:H.c=3) (ad:s<3):VY Tryz.prog 22 #[pw P.g,.int .i64 s] w (So H s w):=by
 have HH:=LH h;have ai:=LH wf;have af:=wf.n4;obtain⟨vh,M⟩:=h.hs;obtain⟨_,c3,_,_,gl⟩:=M.cells;obtain⟨r3,k3,Z,a6,a9⟩:=M.bZ (s:=s) (by omega);rw[Z,hc] at c3;have ac:(s:Int)<3:=by omega
 have HL:=LH (q5h h wf (s:=s) (by omega));have ah:=U3 (H.sh s) H.n;have HM:=LH (fun j (hj:j∈(H.sh s).ah H.n)=>UX hj);unfold DD at HL;rw[show So H s w=NB H s ((H.sh s).ah H.n) w from rfl];clear h wf M Z;generalize (H.sh s).ah H.n=l at *;unfold pw at *;go_enter Tryz.func22,Tryz.ntmps22;go_wp2_with fail;refine HL.o.mono ?_;rintro e T ⟨V,rfl,t,O⟩;obtain⟨A,c,rfl,_,_⟩:=AR t;have a0:=LH t;have S:=LH O;have ab:=LH (HH.o.below O);clear t O HL HH c3 a9 gl a6;go_wp2_with fail;go_loopw [6,30] (LgRel H s l T) (fun _ v _=>l.length-(intOf v).toNat)
 case atStart=>exact⟨0,[],rfl,VN _,rfl,VZ _ _ _ _,fun i x U=>by simp at U,VK _ _⟩
 case round=>
  obtain⟨q,Ls,rfl,hq,D,z,E,g⟩:=hrel;by_cases ag:(q:Int)<l.length
  ·have N:q<l.length:=by omega
   have ae:q<=4:=by omega
   obtain⟨r,o,u,hA,hr,hu,a8⟩:=((Rd.ay a0.o).below g).ck (k:=q) N;have U:l[q]? = Bs l[q]:=L1 N;rw[V8,U] at hu;simp only[WK,VR] at hu;subst hu hA;have a5:r<wr.heap.size:=VL hr g.size;have a7:=HM.o l[q] (Wv N);have HX:=LH U;clear U;generalize l[q]=j at *;obtain⟨C,V,L,hN,_⟩:=(ab.o.below g).nd s j (by omega) a7;have a3:=LH (qa0 hN);have HN:=LH hN;obtain⟨A6,c6,rfl,_,_⟩:=AR z;have a1:=LH z;have aa:=LH E;have R:=LH g;clear hN z E g;go_wp2_with fail;refine a3.o.mono ?_;rintro e w5 ⟨A5,k5,rfl,p,B,W⟩;have J:=(DG B).own a1.o (fun b Y hs=>by have:=(a1.o.lt b Y).2;omega);have K:D4 w5 (.slice A5 L.length k5,L) ((H.sh s).nd j).log:=⟨p,HN.o.log,fun y hy=>⟨(DG B).own (HN.o.own y hy).1 (fun b Y hs=>by have:=((HN.o.own y hy).1.lt b Y).2;omega),(HN.o.own y hy).2⟩,HN.o.len⟩
   have I:T.heap.size<=w5.heap.size:=VO R.o.size B.size;have d:=LH J;have a2:=LH K;have a4:=LH B;clear J K p B W a3 a8 a5;rw[D] at d;go_wp2_with (at_builtin;refine stop ?_)
   refine Df ?_;refine PD w5 _ rfl (.tmp 34) (.tmp 37) 62 rfl T.heap.size 66 (.slice B0 0 0) 1 24 Tryz.underlying62 Ov rfl (by decide) _ _ _ #[.slice A5 L.length k5] rfl d.o 1 rfl _ rfl rfl (by simp[WB]) (by unfold Wo;omega) (by omega) I ?_;intro V2 w8 m G;have X:VP T.heap.size w5 w8:=G.below (fun b Y=>(d.o.lt b Y).1) I;have hR:LgRel H s l T V2 (.int .i64 ((q+1:Nat):Int)) w8:=by
    refine⟨q+1,Ls++[(.slice A5 L.length k5,L)],rfl,by omega,by simp[D],?_,fun i x f=>?_,R.o.trans ((a4.o.mono R.o.size).trans X)⟩
    ·rw[VS,Xd,D];exact m
    ·rcases W7 i q with h1|h1
     ·rw[Wg (by omega)] at f;obtain⟨j',e1,e2⟩:=aa.o i x f;exact⟨j',e1,(e2.aC a4.o).below d.o G.1⟩
     ·rw[Wk (by omega)] at f;obtain rfl:i=q:=by
       have:=(List.getElem?_eq_some_iff.1 f).1;simp at this;omega
      rw[D,Nat.sub_self] at f;simp only[Ft,VR] at f;subst f;exact⟨j,HX.o,a2.o.below d.o G.1⟩
   have HR:=LH hR;clear hR X G m;go_wp2_with fail;go_roundw
   ·exact HR.o
   ·simp[intOf];omega
  ·obtain rfl:q=l.length:=by omega
   have HF:=LH (show NB H s l w (.returned (.tuple #[u6,.nilIface])) wr from⟨u6,Ls,rfl,D,K8 z S.o.size,E,S.o.trans (g.mono S.o.size)⟩);clear z E g;go_wp2_with fail;go_ret2;exact HF.o
end
def DU (w:D0) (g o:Nat) (x:Pr):D0:=((w.setCell ⟨g,o,B0⟩ (.string x.key)).setCell ⟨g,o+1,B0⟩ (.string x.val)).setCell ⟨g,o+2,B0⟩ (.bool x.gone)
def QD (w:D0) (g o:Nat) (x:Pr):Fr (fun i=>i=g) w (DU w g o x):=
 (((Fr.refl (fun i=>i=g) w).setCell (p:=⟨g,o,B0⟩) (.inl rfl) _).setCell (p:=⟨g,o+1,B0⟩) (.inl rfl) _).setCell (p:=⟨g,o+2,B0⟩) (.inl rfl) _
def rset:∀ (M:List Pr) (i:Nat) (x:Pr),i<M.length->((((M.flatMap CR).set (i*3) (.string x.key)).set (i*3+1) (.string x.val)).set (i*3+2) (.bool x.gone))=(M.set i x).flatMap CR
 | [],i,x,h=>by simp at h
 | y::M,0,x,_=>by simp[CR]
 | y::M,i+1,x,h=>by
  have b:=rset M i x (by simpa using h);have c:(i+1)*3=i*3+3:=by omega
  rw[c,List.set_cons_succ,VM,VM,<- b];simp[CR,Nat.add_right_comm]
def Oc {base cap:Nat} (h:w.ownsRow base 45 3 (.slice (Bs ⟨g,0,B0⟩) n cap) n (L.flatMap CR)) (x:Pr) (b:i<L.length) :
  (DU w g (i*3) x).ownsRow base 45 3 (.slice (Bs ⟨g,0,B0⟩) n cap) n ((L.set i x).flatMap CR):=by
 rw[<- rset L i x b];exact(((h.stored _ _).1.stored _ _).1.stored _ _).1
def Wf.ad {H:Hs} (h:Wf H) (e:1<=i) (d:i<=H.m) {l:List Pr} (hl:l.length<=20) (c:∀ p∈l,Sc p):Wf (H.au i { H.tx i with ad:=l }):=by
 have b:=h.tx i e d;exact h.au ⟨hl,c,b.sh,b.pl,b.wn,b.wnd⟩ rfl
section
variable {w w':D0} {own own':Ah} {P:Aq} {H:Hs}
def HI.df (h:HI w own P H) (K:1<=i) (J:i<=H.m) (c:Co w own i (P.gt i) v (H.tx i)) {cap q:Nat} (p:v.Vw=.slice (Bs ⟨g,0,B0⟩) n cap) (A:q<(H.tx i).ad.length) (x:Pr) :
  HI (DU w g (q*3) x) own P (H.au i { H.tx i with ad:=(H.tx i).ad.set q x })/\Ay w own (DU w g (q*3) x) own:=by
 have C:own g=Bs (.tx i):=c.wt g (by rw[p];rfl);have l:=QD w g (q*3) x;have o:Fr (OS own (fun t=>t=.tx i)) w (DU w g (q*3) x):=l.mono (fun b _ e=>⟨_,by rw[e];exact C,rfl⟩);obtain⟨z,n2,I,G,y,u,E,D⟩:=c.aW;have j:v.Vw.ownBlock=Bs g:=by rw[p];rfl
 have f:=c.ad;rw[p] at f;have B:n=(H.tx i).ad.length:=by
  rcases f.2 with ⟨e,_⟩|⟨_,_,_,e,_⟩
  ·cases e
  ·injection e
 subst B;have d:=Oc f x A;rw[show(H.tx i).ad.length=((H.tx i).ad.set q x).length by rw[XS]] at d;have m:((H.tx i).ad.set q x).length=(H.tx i).ad.length:=by rw[XS]
 have r:Co (DU w g (q*3) x) own i (P.gt i) v { H.tx i with ad:=(H.tx i).ad.set q x }:=
  ⟨l.ak c.ak (fun e=>z (by rw[j,e])),by rw[p];rw[m] at d ⊢;exact d,c.ae.fr l (fun e=>y (by rw[j,e])),c.places.fr l (fun e=>u (by rw[j,e])),l.own c.aj (fun b s e=>ES c.aj c.ad (by decide) s (by rw[j,e])),c.ne,c.gt,c.wt,c.st,c.pt,c.xt⟩
 exact⟨h.setTx' o (Ext.refl own _) (fun b s=>VL (h.lt b s) l.size) ⟨v,r⟩,⟨Ext.refl own _,GQ o (fun _=>Di),fun _ _ h=>h⟩⟩
def HI.cT (h:HI w own P H) (f:Co w own i (P.gt i) v (H.tx i)) {x:Pr} (l:Av w w' v.Vw.ownBlock V'.ownBlock)
  (q:w'.ownsRow 0 45 3 V' ((H.tx i).ad.length+1) ((H.tx i).ad.flatMap CR++CR x)):∃ own',HI (w'.setCell ⟨P.gt i,2,B0⟩ V') own' P (H.au i { H.tx i with ad:=(H.tx i).ad++[x] })/\Ay w own (w'.setCell ⟨P.gt i,2,B0⟩ V') own':=by
 have m:Fr (fun b=>v.Vw.ownBlock=Bs b\/w.heap.size<=b) w w':=l.1.mono (fun b _ e=>.inl e.symm);have o:Ext own (DK own w.heap.size (fun b=>V'.ownBlock=Bs b) (.tx i)) w.heap.size:=QS;have j:w'.ownsRow 0 45 3 V' ((H.tx i).ad++[x]).length (((H.tx i).ad++[x]).flatMap CR):=by
  rw[VS,WG];simpa using q
 have r:∀ b,V'.ownBlock=Bs b->DK own w.heap.size (fun b=>V'.ownBlock=Bs b) (.tx i) b=Bs (.tx i):=fun b d=>QQ (by
  rcases l.2 with e|⟨s,e,hl⟩
  ·exact .inl (f.wt b (by rw[<- e];exact d))
  ·rw[e] at d;injection d with d;exact .inr (by omega)) d
 have g:=f.cS o m j r;have c:Fr (OS own (fun t=>t=.tx i)) w (w'.setCell ⟨P.gt i,2,B0⟩ V'):=
  (l.1.mono (T:=OS own (fun t=>t=.tx i)) (fun b _ e=>⟨_,f.wt b e.symm,rfl⟩)).setCell (p:=⟨P.gt i,2,B0⟩) (.inl ⟨_,f.gt,rfl⟩) _
 exact⟨_,h.setTx' (t':={ H.tx i with ad:=(H.tx i).ad++[x] }) c o (QP c.size (fun b d=>VL (q.lt b d).2 (Fr.a6 (P.gt i) w' 2 V').size)) ⟨{ v with Vw:=V' },g⟩,⟨o,GQ c (fun _=>Di),(by first|exact Pz (by simp)|exact fun _ _ h=>h)⟩⟩
end
section
variable {H H':Hs} {i:Nat}
def Bp.wf (s:Bp H H') (e:Wf H) (p:H.c=3):Wf H':=by
 cases s with
 | abort d c hs=>exact e.abort p d c
 | tell d c f hs=>exact e.ax d c (by omega) _
 | prep b d c f g l hs r o t=>exact e.add (by have:=BR f;omega) (UT g) (e.bX d c _) b
 | place a d c f y hs=>exact e.a8 d c (BR f) a
 | timed d c hs l=>exact e.timed d c
 | decide b d c g l hs r=>exact e.add (by omega) (UT g) (e.dv d c) b
 | commit d c hs l=>exact e.az d c 3
 | came d c f hs g o=>exact e.came d c f
 | @got i x mode d c hs h u g o q v=>exact e.aU d c (by have:=E4 x;omega) h
 | @wait i x mode d c hs h u g o j q v=>exact(e.aU d c (s:=Aa x) (by have:=E4 x;omega) h).aM d c h j
 | tick hs hl=>exact e.aG p hs hl.1
 | @arrive k m f=>exact(e.aE k).arrive p (e.net m (S2 f))
structure BV (H H':Hs):Prop where
 lv:∀ k j,Lv H' k j↔Lv H k j
 lg:∀ k j,lg H k j <+: lg H' k j
 ep:∀ k,(H'.sh k).aa=(H.sh k).aa
 ao:∀ k,(H'.sh k).ao=(H.sh k).ao
def BV.refl (H:Hs):BV H H:=⟨fun _ _=>Yl,fun _ _=>VQ _,fun _=>rfl,fun _=>rfl⟩
def BV.trans {A B C:Hs} (h:BV A B) (k:BV B C):BV A C:=⟨fun a b=>(k.lv a b).trans (h.lv a b),fun a b=>(h.lg a b).trans (k.lg a b),fun a=>(k.ep a).trans (h.ep a),fun a=>(k.ao a).trans (h.ao a)⟩
def AK.up (h:AK H H'):BV H H':=⟨fun _ _=>h.lv,fun k j=>by rw[h.lg];exact VQ _,h.aa,h.ao⟩
def qcc {d:Nd} (b:d.id=((H.sh s).nd j).id) (hl:lg H s j <+: d.log):BV H (H.aq s j d):=
 ⟨fun k a=>q62 b,fun k a=>by
  rw[q4z];split
  ·rename_i e;obtain⟨rfl,rfl⟩:=e;exact hl
  ·exact VQ _,
  fun k=>by
  by_cases e:k=s
  ·subst e;rw[D9]
  ·rw[Ic H j d e],
  fun k=>by
  by_cases e:k=s
  ·subst e;rw[D9]
  ·rw[Ic H j d e]⟩
def GO (ms:List Ms):BV H (H.send ms):=⟨fun _ _=>Yl,fun _ _=>VQ _,fun _=>rfl,fun _=>rfl⟩
def TO (d:Nd) (c:Cm) (b:Bool):d.log <+: (d.add c b).1.1.log:=by
 by_cases e:(d.add c b).2.2=0
 ·rw[(Oj e).1,U1];exact Xq _ _
 ·rw[qd3 e];exact VQ _
def Ex (H:Hs) (s j:Nat) (c:Cm) (b:Bool):BV H (H.add s j c b).2:=by
 unfold Hs.add;split
 ·exact BV.refl H
 ·exact((qcc (q4h _ c b).2 (TO _ c b)).trans (GO _)).trans (AK.take _ _).up
def IL (H:Hs) (i:Nat) (kind:Int) (k:Nat):BV H (H.ax i kind k):=by
 cases b:H.head k with
 | none=>rw[I1 b];exact BV.refl H
 | some j=>
  rw[Ie b];split
  ·exact Ex _ _ _ _ _
  ·exact BV.refl H
def q8h (i:Nat) (kind:Int):∀ (ks:List Nat) (H:Hs),BV H (telld H i kind ks)
 | [],H=>BV.refl H
 | k::ks,H=>(IL H i kind k).trans (q8h i kind ks _)
def qd4 (H:Hs) (i:Nat):BV H (H.abort i):=by
 rw[Ia];exact((AK.au H i _).trans (Kn i _ _)).up.trans (q8h i 4 _ _)
def q4x (d:Nd) (m:Ms):d.log <+: (d.step m).1.log/\(d.step m).1.id=d.id:=by
 have b:d.log <+: (d.grow m.cmd).1.log/\(d.grow m.cmd).1.id=d.id:=by
  refine⟨by rw[U1];exact Xq _ _,?_⟩;unfold Nd.grow;split
  ·exact(Ej _).1
  ·rfl
 unfold Nd.step;split
 ·exact⟨VQ _,rfl⟩
 ·simp only;split
  ·exact⟨VQ _,rfl⟩
  ·split
   ·exact⟨VQ _,rfl⟩
   ·split
    ·exact b
    ·split <;> exact⟨VQ _,rfl⟩
def Bp.up (s:Bp H H'):BV H H':=by
 cases s with
 | abort=>exact qd4 _ _
 | tell=>exact IL _ _ _ _
 | prep=>exact Ex _ _ _ _ _
 | place=>exact(AK.au _ _ _).up
 | @timed i h g hs d=>
  have e:=E3 H i;exact(AK.up ⟨e.1,e.2.1,e.2.2.2.2,fun s=>by rw[e.2.2.2.1],fun s=>by rw[e.2.2.2.1],fun s=>by rw[e.2.2.2.1]⟩)
 | decide=>exact Ex _ _ _ _ _
 | commit=>exact(AK.au _ _ _).up
 | came=>exact(AK.au _ _ _).up
 | @got i x mode=>exact(AK.ar (H:=H) (x:={ H.sh (Aa x) with tab:=Am (H.sh (Aa x)).tab i x mode }) rfl rfl rfl).up
 | @wait i x mode=>exact((AK.ar (x:={ H.sh (Aa x) with tab:=Am (H.sh (Aa x)).tab i x mode }) rfl rfl rfl).trans (AK.au _ i _)).up
 | @tick s j hs hl=>exact(qcc (Ej _).1 (by rw[(Ej _).2.1];exact VQ _)).trans (GO _)
 | @arrive k m f=>
  have c:BV H { H with net:=takeS H.net k }:=⟨fun _ _=>Yl,fun _ _=>VQ _,fun _=>rfl,fun _=>rfl⟩
  cases b:Hs.node { H with net:=takeS H.net k } m.a4 with
  | none=>rw[Ig b];exact c
  | some q=>
   obtain⟨s,j⟩:=q;rw[Ih b];exact(c.trans ((qcc (q4x _ m).2 (q4x _ m).1).trans (GO _))).trans (AK.take _ _).up
def BN.aN (i:Nat) (kind:Int):∀ (ks:List Nat) {H:Hs},BN H->(∀ k∈ks,k<H.c)->BN (Go.Proofs.YtccahlhdifadfaaGreatDoor.telld H i kind ks)
 | [],_,h,_=>h
 | k::ks,H,h,hk=>by
  have e:=DF H i kind k;have d:BN (H.ax i kind k):=by
   cases b:H.head k with
   | none=>rw[I1 b];exact h
   | some j=>
    rw[Ie b];split
    ·exact h.add (hk k VH) b _ _
    ·exact h
  exact BN.aN i kind ks d (fun x c=>by rw[e.2.1];exact hk x (VI _ c))
def BN.abort (h:BN H) (d:H.c=3) (i:Nat):BN (H.abort i):=by
 rw[Ia];have c:=FI i (H.tx i).af (H.al i);exact BN.aN i 4 _ (h.same ((AK.au H i _).trans (Kn i _ _))) (fun k b=>by rw[c.1];have:=BR b;show k<H.c;omega)
def Bp.chi (s:Bp H H') (h:BN H) (l:H.c=3):BN H':=by
 cases s with
 | abort=>exact h.abort l _
 | @tell i k kind g d c hs=>exact BN.aN i kind [k] h (fun x m=>by rw[VW] at m;omega)
 | prep b g d c f j hs o q p=>exact h.add (by have:=BR c;omega) f _ _
 | place=>exact h.same (AK.au _ _ _)
 | @timed i g d hs j=>
  have e:=E3 H i;exact h.same ⟨e.1,e.2.1,e.2.2.2.2,fun s=>by rw[e.2.2.2.1],fun s=>by rw[e.2.2.2.1],fun s=>by rw[e.2.2.2.1]⟩
 | decide b g d f j hs o=>exact h.add (by omega) f _ _
 | commit=>exact h.same (AK.au _ _ _)
 | came=>exact h.same (AK.au _ _ _)
 | got=>exact h.same (AK.ar rfl rfl rfl)
 | @wait i x mode=>exact h.same ((AK.ar (x:={ H.sh (Aa x) with tab:=Am (H.sh (Aa x)).tab i x mode }) rfl rfl rfl).trans (AK.au _ i _))
 | tick hs hl=>exact h.aG (by omega) hl
 | arrive c=>exact h.arrive l c
def Kt (D:Nat->Prop) (H:Hs):Prop:=∀ i,1<=i->i<=H.m->(H.tx i).state=3->D i\/∃ j,Lv H 2 j/\Aj (lg H 2 j) 3 i
def Kt.mono {D:Nat->Prop} (h:Kt D H) (u:BV H H') (n:AP H H'):Kt D H':=fun i f l e=>by
 obtain⟨a,b⟩:=n i f l e;exact(h i f a b).imp id (fun⟨j,g,d⟩=>⟨j,(u.lv 2 j).2 g,d.mono (fun c d=>(u.lg 2 j).subset d)⟩)
def Bp.nocm (s:Bp H H'):AP H H'\/∃ i,1<=i/\i<=H.m/\AH H 2 3 i/\H'=H.az i 3:=by
 have d:∀ s j c b,AP H (H.add s j c b).2:=fun s j c b=>AP.of (C0 H s j c b).2.2.1 (fun i=>((C0 H s j c b).2.2.2.2 i).1)
 cases s with
 | @abort i g f hs=>
  obtain⟨t,_,q⟩:=If H i;refine .inl (fun a y o e=>⟨by rw[t.m] at o;exact o,?_⟩);rw[(q a).1] at e;split at e
  ·cases e
  ·exact e
 | @tell i k kind g f l hs=>exact .inl (AP.of (DF H i kind k).2.2.1 (fun a=>((DF H i kind k).2.2.2.2 a).1))
 | prep=>exact .inl (d _ _ _ _)
 | @place i k a=>exact .inl (AP.of rfl (q24 H i k a))
 | @timed i=>exact .inl (AP.of (q6c (H:=H) (i:=i)).2 (fun a=>((q6c (H:=H) (i:=i)).1 a).1))
 | decide=>exact .inl (d _ _ _ _)
 | commit g f hs p=>exact .inr ⟨_,g,f,p,rfl⟩
 | @came i k g f l hs u v=>
  exact .inl (AP.of rfl (fun x=>by
   show(Af H.tx i _ x).state=_;by_cases e:x=i
   ·subst e;rw[An]
   ·rw[As e]))
 | got=>exact .inl (AP.of rfl (fun _=>rfl))
 | @wait i x mode=>
  exact .inl (AP.of rfl (fun a=>by
   show(Af H.tx i _ a).state=_;by_cases e:a=i
   ·subst e;rw[An];rfl
   ·rw[As e]))
 | tick=>exact .inl (AP.of rfl (fun _=>rfl))
 | @arrive k m l=>
  refine .inl ?_;cases h:Hs.node { H with net:=takeS H.net k } m.a4 with
  | none=>rw[Ig h];exact AP.of rfl (fun _=>rfl)
  | some r=>
   obtain⟨s,j⟩:=r;rw[Ih h];have e:=Bz.take ((({ H with net:=takeS H.net k } : Hs).aq s j (((H.sh s).nd j).step m).1).send (((H.sh s).nd j).step m).2) s;exact AP.of e.m (fun a=>(e.tx a).1)
def Kt.step {D:Nat->Prop} (h:Kt D H) (s:Bp H H'):Kt D H':=by
 rcases s.nocm with n|⟨i,q,o,⟨j,p,c,q1,g,f,d,_⟩,rfl⟩
 ·exact h.mono s.up n
 ·intro a m l e;by_cases b:a=i
  ·subst b;exact .inr ⟨j,(Cu q1).1,c,S2 g,f,d⟩
  ·have e:(Af H.tx i _ a).state=3:=e;rw[As b] at e;exact h a m l e
structure Ad (H:Hs) (B:Int):Prop where
 wf:Wf H
 c:H.c=3
 ch:BN H
 bj:CQ H
 ep:∀ s,s<3->0<=(H.sh s).aa/\(H.sh s).aa<=B
def Ad.step {B:Int} (h:Ad H B) (s:Bp H H'):Ad H' B/\BF H H':=
 ⟨⟨s.wf h.wf h.c,s.sm.c.trans h.c,s.chi h.ch h.c,(h.bj.step s h.ch h.wf h.c).1,fun k b=>by rw[s.up.ep];exact h.ep k b⟩,(h.bj.step s h.ch h.wf h.c).2⟩
def Ad.star (s:Ag H H'):Ad H B->Ad H' B/\BF H H'/\BV H H':=by
 induction s with
 | refl=>exact fun h=>⟨h,BF.refl _,BV.refl _⟩
 | step s _ b=>
  intro h;obtain⟨g,f⟩:=h.step s;obtain⟨e,d,c⟩:=b g;exact⟨e,f.trans d,s.up.trans c⟩
def Kt.star (s:Ag H H'):Kt D H->Kt D H':=by
 induction s with
 | refl=>exact id
 | step s _ b=>exact fun h=>b (h.step s)
inductive EP:Hs->Hs->Prop where
 | star {H H':Hs} (h:Ag H H'):EP H H'
 | begin {H:Hs} (h:H.m<60):EP H H.begin
 | write {H H1:Hs} {i:Nat} {l:List Pr} (s:Ag H H1) (h1:1<=i) (hi:i<=H1.m) (hl:l.length<=20) (hp:∀ p∈l,Sc p):EP H (H1.au i { H1.tx i with ad:=l })
 | ends {H H':Hs} {i:Nat} (h1:1<=i) (hi:i<=H.m) (hs:(H.tx i).state=1) (hw:(H.tx i).aj=[]) (s:Ag (H.ending i) H'):EP H H'
 | net {H:Hs} {l:List Ms} (hl:∀ m∈l,m∈H.net.l):EP H { H with net:=⟨l,H.net.ao⟩ }
 | fail {H:Hs} (id:Int):EP H (H.fail id)
 | fix {H H':Hs} (s:E8 H H'):EP H H'
def Ad.fix {B:Int} (h:Ad H B) (g:B<=1000000) {s:Nat} (hs:s<3):Ad (H.fix s) (B+1)/\BF H (H.fix s)/\AP H (H.fix s)/\FixF H (H.fix s) s:=by
 have b:=SW.fix (h.ch.toF (s:=s) (by rw[h.c];exact hs) (by have:=h.ep s hs;omega));have t:BF H (H.fix s):=BF.of b.m (fun i=>⟨(b.tx i).1,(b.tx i).2.2.2.2⟩);have n:AP H (H.fix s):=AP.of b.m (fun i=>(b.tx i).1);refine⟨⟨h.wf.fix (by rw[h.c];exact hs),b.c.trans h.c,b.chi,h.bj.sub t n (fun k j c f=>⟨j,(b.lv k j (by rw[h.c];exact c)).1 f,by rw[b.lg];exact VQ _⟩),fun k c=>?_⟩,t,n,b⟩;have d:=h.ep k c;by_cases e:k=s
 ·subst e;rcases b.aa with ⟨e,_⟩|e <;> rw[e] <;> omega
 ·rw[b.sh k e];omega
def Ad.mono {B':Int} (h:Ad H B) (b:B<=B'):Ad H B':=⟨h.wf,h.c,h.ch,h.bj,fun s hs=>by have:=h.ep s hs;omega⟩
structure UD (H H':Hs):Prop where
 lv:∀ k j,k<3->(Lv H' k j↔Lv H k j)
 lg:∀ k j,lg H' k j=lg H k j
 tm:BF H H'
 nc:AP H H'
 tx:∀ i,(H'.tx i).state=(H.tx i).state/\(H'.tx i).ad=(H.tx i).ad/\(H'.tx i).ae=(H.tx i).ae/\(H'.tx i).places=(H.tx i).places/\(H'.tx i).ag=(H.tx i).ag
 m:H'.m=H.m
def UD.refl (H:Hs):UD H H:=⟨fun _ _ _=>Yl,fun _ _=>rfl,BF.refl H,AP.of rfl (fun _=>rfl),fun _=>⟨rfl,rfl,rfl,rfl,rfl⟩,rfl⟩
def AP.trans {A B C:Hs} (h:AP A B) (k:AP B C):AP A C:=fun i c d e=>by
 obtain⟨a,b⟩:=k i c d e;exact h i c a b
def UD.trans {A B C:Hs} (h:UD A B) (k:UD B C):UD A C:=
 ⟨fun a b c=>(k.lv a b c).trans (h.lv a b c),fun a b=>(k.lg a b).trans (h.lg a b),h.tm.trans k.tm,h.nc.trans k.nc,
  fun i=>⟨(k.tx i).1.trans (h.tx i).1,(k.tx i).2.1.trans (h.tx i).2.1,(k.tx i).2.2.1.trans (h.tx i).2.2.1,(k.tx i).2.2.2.1.trans (h.tx i).2.2.2.1,(k.tx i).2.2.2.2.trans (h.tx i).2.2.2.2⟩,k.m.trans h.m⟩
def Ad.a9 {B:Int} (h:Ad H B) (d:B<=1000000) {s:Nat} (hs:s<3):Ad (H.a9 s) (B+1)/\UD H (H.a9 s):=by
 unfold Hs.a9;split
 ·exact⟨h.mono (by omega),UD.refl H⟩
 ·obtain⟨g,f,e,b⟩:=h.fix d hs;exact⟨g,fun k j c=>b.lv k j (by rw[h.c];exact c),b.lg,f,e,b.tx,b.m⟩
def q9b (c:1<=i) (b:i<=H.m):Ag H (H.a7 i):=by
 unfold Hs.a7;split
 ·rename_i h;exact Ag.one (Bp.abort c b (.inl h.1))
 ·exact Ag.refl H
def q4r:∀ (l:List Nat) {H:Hs},(∀ i∈l,1<=i/\i<=H.m)->Ag H (l.foldl Hs.a7 H)
 | [],H,_=>Ag.refl H
 | i::l,H,hl=>by
  have b:=q9b (H:=H) (hl i VH).1 (hl i VH).2;exact b.trans (q4r l (fun a c=>by rw[b.sm.m];exact hl a (VI _ c)))
def Ad.b4 (h:Ad H B) (e:B<=999000):Ad ([0,1,2].foldl Hs.a9 H) (B+3)/\UD H ([0,1,2].foldl Hs.a9 H):=by
 obtain⟨d,u1⟩:=h.a9 (by omega) (s:=0) (by omega);obtain⟨c,u2⟩:=d.a9 (by omega) (s:=1) (by omega);obtain⟨b,u3⟩:=c.a9 (by omega) (s:=2) (by omega);exact⟨b.mono (by omega),(u1.trans u2).trans u3⟩
def qab (h:E8 H H') (e:Ad H B) (d:B<=999000):Ag ([0,1,2].foldl Hs.a9 H) H':=by
 obtain⟨f,u1⟩:=e.b4 d;have hs:Ag ([0,1,2].foldl Hs.a9 H) ([0,1,2].foldl Hs.a9 H).aY:=q4r _ (fun i c=>by
  rw[Xz] at c;omega)
 have b:=(Ad.star hs f).1;exact hs.trans (q2m h b.wf b.c)
def Ad.act (h:Ad H B) (J:B<=999000) (a:EP H H') (C:∀ i,1<=i->i<=H.m->(H.tx i).state=3->D i):Ad H' (B+3)/\BF H H'/\Kt D H':=by
 have x:Kt D H:=fun i p f e=>.inl (C i p f e)
 cases a with
 | star s=>exact⟨(Ad.star s h).1.mono (by omega),(Ad.star s h).2.1,Kt.star s x⟩
 | begin T=>
  have t:BF H H.begin:=by
   refine⟨by show H.m<=H.m+1;omega,fun a _ I e=>?_,fun a _ I e=>?_,fun a _ I _=>?_⟩
   ·show(Af H.tx (H.m+1) _ a).state=_;rw[As (by omega)];exact e
   ·show(Af H.tx (H.m+1) _ a).state=_;rw[As (by omega)];exact e
   ·show(Af H.tx (H.m+1) _ a).ag=_;rw[As (by omega)]
  have n:AP H H.begin:=fun a g o e=>by
   have e:(Af H.tx (H.m+1) DJ a).state=3:=e;have o:a<=H.m+1:=o;by_cases d:a=H.m+1
   ·rw[d,An] at e;cases e
   ·rw[As d] at e;exact⟨by omega,e⟩
  have u:AK H H.begin:=⟨rfl,rfl,rfl,fun _=>rfl,fun _=>rfl,fun _=>rfl⟩
  exact⟨⟨h.wf.begin T,h.c,h.ch.same u,h.bj.sub t n (BJ.same u),fun s hs=>by have:=h.ep s hs;show 0<=(H.sh s).aa/\(H.sh s).aa<=B+3;omega⟩,t,x.mono u.up n⟩
 | @write c i l s p f hl O=>
  obtain⟨g,o,K⟩:=Ad.star s h;have r:∀ a,((c.au i { c.tx i with ad:=l }).tx a).state=(c.tx a).state/\((c.au i { c.tx i with ad:=l }).tx a).ag=(c.tx a).ag:=fun a=>by
   show(Af c.tx i _ a).state=_/\(Af c.tx i _ a).ag=_;by_cases e:a=i
   ·subst e;rw[An];exact⟨rfl,rfl⟩
   ·rw[As e];exact⟨rfl,rfl⟩
  have t:BF c (c.au i { c.tx i with ad:=l }):=BF.of rfl r;have n:AP c (c.au i { c.tx i with ad:=l }):=AP.of rfl (fun a=>(r a).1);have u:=AK.au c i { c.tx i with ad:=l };exact⟨⟨g.wf.ad p f hl O,g.c,g.ch.same u,g.bj.sub t n (BJ.same u),fun s hs=>by have:=g.ep s hs;show 0<=(c.sh s).aa/\(c.sh s).aa<=B+3;omega⟩,o.trans t,(Kt.star s x).mono u.up n⟩
 | @ends _ i p f hs U s=>
  have r:∀ a,a≠i->(H.ending i).tx a=H.tx a:=fun a e=>As e _
  have v:((H.ending i).tx i).state=2/\((H.ending i).tx i).ag=(H.tx i).ag:=by
   show(Af H.tx i _ i).state=_/\(Af H.tx i _ i).ag=_;rw[An];exact⟨rfl,rfl⟩
  have t:BF H (H.ending i):=by
   refine⟨K0 _,fun a _ _ e=>?_,fun a _ _ e=>?_,fun a _ _ _=>?_⟩
   ·by_cases d:a=i
    ·subst d;rw[e] at hs;cases hs
    ·rw[r a d];exact e
   ·by_cases d:a=i
    ·subst d;rw[e] at hs;cases hs
    ·rw[r a d];exact e
   ·by_cases d:a=i
    ·subst d;exact v.2
    ·rw[r a d]
  have n:AP H (H.ending i):=fun a g o e=>by
   refine⟨o,?_⟩;by_cases d:a=i
   ·subst d;rw[v.1] at e;cases e
   ·rw[r a d] at e;exact e
  have u:=AK.au H i { H.tx i with state:=2,places:=fun k=>if ((H.tx i).ae k).isSome then Bs (-1) else(H.tx i).places k };have S:Ad (H.ending i) B:=⟨h.wf.ending p f,h.c,h.ch.same u,h.bj.sub t n (BJ.same u),h.ep⟩
  obtain⟨g,o,K⟩:=Ad.star s S;exact⟨g.mono (by omega),t.trans o,Kt.star s (x.mono u.up n)⟩
 | @net l hl=>
  have u:BV H { H with net:=⟨l,H.net.ao⟩ }:=⟨fun _ _=>Yl,fun _ _=>VQ _,fun _=>rfl,fun _=>rfl⟩
  have t:BF H { H with net:=⟨l,H.net.ao⟩ }:=BF.of rfl (fun _=>⟨rfl,rfl⟩);have n:AP H { H with net:=⟨l,H.net.ao⟩ }:=AP.of rfl (fun _=>rfl);refine⟨⟨?_,h.c,h.ch.dh hl,h.bj.sub t n (fun k j _ z=>⟨j,z,VQ _⟩),fun s hs=>by have:=h.ep s hs;show 0<=(H.sh s).aa/\(H.sh s).aa<=B+3;omega⟩,t,x.mono u n⟩;exact⟨h.wf.n4,h.wf.c3,h.wf.bz,h.wf.nd,h.wf.tab,h.wf.sto,h.wf.ao,fun m R=>h.wf.net m (hl m R),h.wf.down,h.wf.tx,h.wf.tm,h.wf.cR⟩
 | fail id=>
  have hs:(H.fail id).m=H.m/\(H.fail id).tx=H.tx/\(∀ s,((H.fail id).sh s).aa=(H.sh s).aa)/\(H.fail id).c=H.c/\∀ s j,lg (H.fail id) s j=lg H s j/\(Lv (H.fail id) s j->Lv H s j):=by
   cases G:H.node id with
   | none=>rw[q4l G];exact⟨rfl,rfl,fun _=>rfl,rfl,fun _ _=>⟨rfl,fun h=>h⟩⟩
   | some q=>
    obtain⟨s,j⟩:=q;rw[q4k G];have e:∀ k,(((H.aK s id).bC id).sh k).aa=(H.sh k).aa/\(((H.aK s id).bC id).sh k).nd=(H.sh k).nd/\∀ i,(((H.aK s id).bC id).sh k).ao i=Jx->(H.sh k).ao i=Jx:=fun k=>by
     show((H.aK s id).sh k).aa=_/\((H.aK s id).sh k).nd=_/\∀ i,((H.aK s id).sh k).ao i=Jx->_;by_cases L:k=s
     ·subst L;have:(H.aK k id).sh k = { H.sh k with ao:=fun i=>decide (i=id) || (H.sh k).ao i }:=An _ _ _;rw[this];exact⟨rfl,rfl,fun i f=>(Bool.or_eq_false_iff.1 f).2⟩
     ·have:(H.aK s id).sh k=H.sh k:=As L _;rw[this];exact⟨rfl,rfl,fun i f=>f⟩
    refine⟨rfl,rfl,fun k=>(e k).1,rfl,fun k a=>⟨by unfold lg;rw[(e k).2.1],fun hl=>?_⟩⟩;obtain⟨N,E⟩:=hl;rw[(e k).2.1] at E;exact⟨N,(e k).2.2 _ E⟩
  have t:BF H (H.fail id):=BF.of hs.1 (fun i=>by rw[hs.2.1];exact⟨rfl,rfl⟩);have n:AP H (H.fail id):=AP.of hs.1 (fun i=>by rw[hs.2.1]);exact⟨⟨h.wf.fail h.c id,hs.2.2.2.1.trans h.c,h.ch.fail h.c id,h.bj.sub t n (fun k j _ z=>⟨j,(hs.2.2.2.2 k j).2 z,by rw[(hs.2.2.2.2 k j).1];exact VQ _⟩),fun s y=>by rw[hs.2.2.1];have:=h.ep s y;omega⟩,t,
   fun i p f e=>.inl (C i p (by rw[<- hs.1];exact f) (by rw[hs.2.1] at e;exact e))⟩
 | fix s=>
  obtain⟨p,u1⟩:=h.b4 J;have s2:=qab s h J;obtain⟨g,o,K⟩:=Ad.star s2 p;have A:Kt D ([0,1,2].foldl Hs.a9 H):=fun i q1 M e=>by
   obtain⟨a,b⟩:=u1.nc i q1 M e;exact .inl (C i q1 a b)
  exact⟨g,u1.tm.trans o,Kt.star s2 A⟩
end
noncomputable def AG (n:Nat):Nat->Hs
 | 0=>hsE n
 | q+1=>(AG n q).more
def Et (n:Nat):BD n=AG n 3:=rfl
def Hs.cc (H:Hs):Hs:={ H with c:=H.c+1 }
def q9x (H:Hs):H.more=H.cc.fix H.c:=rfl
structure Gt (n q:Nat) (H:Hs):Prop where
 wf:Wf H
 c:H.c=q
 n:H.n=n
 m:H.m=0
 new:∀ s,q<=s->H.sh s=Dx s
 ch:BN H
 lg:∀ s j,lg H s j=[]
 ep:∀ s,s<q->0<=(H.sh s).aa/\(H.sh s).aa<=1
def Wf.cc {H:Hs} (h:Wf H) (l:H.c<3) (d:H.sh H.c=Dx H.c):Wf H.cc:=by
 have b:∀ s,s<H.c+1->s≠H.c->s<H.c:=fun s o m=>by omega
 refine⟨h.n4,by show H.c+1<=3;omega,h.bz,fun s j hs g=>?_,fun s hs=>?_,fun s hs=>?_,fun s hs i c=>?_,h.net,h.down,h.tx,h.tm,h.cR⟩
 ·have hs:s<H.c+1:=hs;by_cases e:s=H.c
  ·subst e;show Cb H.c j ((H.sh H.c).nd j);rw[d];exact⟨rfl,fun x f=>(by cases f),fun x f=>(by cases f)⟩
  ·exact h.nd s j (b s hs e) g
 ·have hs:s<H.c+1:=hs;by_cases e:s=H.c
  ·subst e;show Da (H.sh H.c).tab;rw[d];exact Da.none_
  ·exact h.tab s (b s hs e)
 ·have hs:s<H.c+1:=hs;by_cases e:s=H.c
  ·subst e;show Db (H.sh H.c).sto;rw[d];exact Db.none_
  ·exact h.sto s (b s hs e)
 ·have hs:s<H.c+1:=hs;have c:(H.sh s).ao i=VJ:=c;by_cases e:s=H.c
  ·subst e;rw[d] at c;cases c
  ·exact h.ao s (b s hs e) i c
def BN.cc {H:Hs} (h:BN H) (o:H.sh H.c=Dx H.c) (y:∀ s j,H.c<=s->j<H.n->H.net.ao (BL s j)=Jx):SW H.cc H.c:=by
 have b:∀ s,s<H.c+1->s≠H.c->s<H.c:=fun s u t=>by omega
 have d:∀ j,(H.sh H.c).nd j=nd0 (10*H.c+j):=fun j=>by rw[o];rfl
 have f:∀ j,lg H H.c j=[]:=fun j=>by unfold lg;rw[d];rfl
 refine⟨YK _,h.n4,fun s j hs c=>?_,fun a r l=>?_,fun s hs i j p q c=>?_,fun s hs i j q c=>?_,fun s j hs c=>?_,fun m v=>?_,fun j c=>.inr ⟨f j,by show((H.sh H.c).nd j).an=0;rw[d];rfl⟩,by show 0<=(H.sh H.c).aa/\(H.sh H.c).aa<=1000000;rw[o];exact⟨WD _,by show(0:Int)<=1000000;omega⟩⟩
 ·have hs:s<H.c+1:=hs;by_cases e:s=H.c
  ·subst e;show((H.sh H.c).nd j).id=_;rw[d];rfl
  ·exact h.ids s j (b s hs e) c
 ·have r:a<H.c+1:=r;obtain⟨L,g⟩:=h.cfg a (b a r l);exact⟨L,g.sorted,g.lt,g.mem,g.nd⟩
 ·have hs:s<H.c+1:=hs;by_cases e:s=H.c
  ·subst e;show lg H H.c j <+: lg H H.c i;rw[f,f];exact VQ _
  ·exact h.pre s (b s hs e) i j p q c
 ·have hs:s<H.c+1:=hs;by_cases e:s=H.c
  ·subst e;show((H.sh H.c).nd i).an<=_;rw[d];show(0:Int)<=_;omega
  ·exact h.st s (b s hs e) i j q c
 ·have hs:s<H.c+1:=hs;by_cases e:s=H.c
  ·subst e;show H.net.ao _=(H.sh H.c).ao _;rw[o,y H.c j (K0 _) c];rfl
  ·exact h.dn s j (b s hs e) c
 ·obtain⟨u,t,s,j,hs,c,x,hI⟩:=h.ms m v;exact⟨u,t,s,j,Nat.lt_succ_of_lt hs,c,x,hI.ep,hI.fwd,hI.st⟩
def RN (H:Hs) (s:Nat):(H.fix s).net.ao=H.net.ao:=by
 unfold Hs.fix;split
 ·rfl
 ·have c:∀ (ids:List Int) (l:List Nat) (H:Hs),(l.foldl (Hs.a5 s ids) H).net.ao=H.net.ao:=by
   intro ids l;induction l with
   | nil=>intro H;rfl
   | cons j l b=>intro H;exact(b _).trans (q31 _ _)
  unfold Hs.bh;simp only;rw[(Bz.take _ s).net];exact c _ _ _
def Gt.more {n q:Nat} {H:Hs} (h:Gt n q H) (f:q<3) (g:∀ i,H.net.ao i=Jx):Gt n (q+1) H.more:=by
 have c:=h.new q (K0 _);have l:=h.c;subst l;have b:=(h.ch.cc c (fun s j _ _=>g _)).fix;have d:=(h.wf.cc f c).fix (s:=H.c) (YK _);refine⟨d,b.c,b.n.trans h.n,b.m.trans h.m,fun s hs=>?_,b.chi,fun s j=>?_,fun s hs=>?_⟩
 ·rw[q9x,b.sh s (by omega)];exact h.new s (by omega)
 ·rw[q9x,b.lg s j];exact h.lg s j
 ·by_cases e:s=H.c
  ·subst e;rw[q9x];have m:(H.cc.sh H.c).aa=0:=by show(H.sh H.c).aa=0;rw[c];rfl
   rcases b.aa with ⟨e,_⟩|e <;> rw[e,m] <;> omega
  ·rw[q9x,b.sh s e];exact h.ep s (by omega)
def Lt (d:n<=4):Gt n 0 (hsE n):=by
 refine⟨⟨d,VN _,VN _,fun s j hs=>absurd hs (by show ¬s<0;omega),fun s hs=>absurd hs (by show ¬s<0;omega),fun s hs=>absurd hs (by show ¬s<0;omega),fun s hs=>absurd hs (by show ¬s<0;omega),fun m c=>(by cases c),fun i b=>(by cases b),fun i e b=>absurd b (by show ¬i<=0;omega),rfl,fun i e b=>absurd b (by show ¬i<=0;omega)⟩,
  rfl,rfl,rfl,fun _ _=>rfl,⟨d,fun s j hs=>absurd hs (by show ¬s<0;omega),fun s hs=>absurd hs (by show ¬s<0;omega),fun s hs=>absurd hs (by show ¬s<0;omega),fun s hs=>absurd hs (by show ¬s<0;omega),fun s j hs=>absurd hs (by show ¬s<0;omega),fun m c=>(by cases c)⟩,fun _ _=>rfl,fun s hs=>absurd hs (by omega)⟩
def UZ {n:Nat} (b:n<=4):∀ q,q<=3->Gt n q (AG n q)/\∀ i,(AG n q).net.ao i=Jx
 | 0,_=>⟨Lt b,fun _=>rfl⟩
 | q+1,e=>by
  obtain⟨d,c⟩:=UZ b q (by omega);refine⟨d.more (by omega) c,fun i=>?_⟩;show((AG n q).cc.fix _).net.ao i=Jx;rw[RN];exact c i
def q86 (d:n<=4):Ad (BD n) 1/\(BD n).m=0/\(BD n).n=n:=by
 obtain⟨h,_⟩:=UZ d 3 (K0 _);rw[Et];refine⟨⟨h.wf,h.c,h.ch,⟨fun k _ j _=>?_,fun j _=>?_,fun i g f=>?_⟩,h.ep⟩,h.m,h.n⟩
 ·rw[h.lg];intro p c b;simp at b
 ·rw[h.lg];intro c e;cases e
 ·have:=h.m;omega
def kA:Sx:=[97]
def prA:Pr:=⟨⟨#[97]⟩,⟨#[120]⟩,Jx⟩
noncomputable def tabA:Tb:=Ao (fun _=>B0) kA (Bs ⟨Au (fun _=>B0) 1 2,[]⟩)
structure Cs where
 a0:Nd
 b0:Nd
 a1:Nd
 b1:Nd
 a2:Nd
 b2:Nd
 net:List Ms
 state:Int
 ag:Int
 pl:Option Int
 lk:Bool
 st:Bool
 d0:Nat
 d1:Nat
 d2:Nat
def prepC:Cm:=⟨2,1,0,[prA]⟩
def ids2 (s:Nat):List Int:=[10*(s:Int)+((0:Nat):Int),10*(s:Int)+((1:Nat):Int)]
def n0 (s j:Nat):Nd×List Ms:=((nd0 (10*s+j)).join 1 (ids2 s)).tick
def x0:Cs:=⟨(n0 0 0).1,(n0 0 1).1,(n0 1 0).1,(n0 1 1).1,(n0 2 0).1,(n0 2 1).1,
 (Em ⟨[],fun _=>Jx⟩ ((n0 0 0).2++(n0 0 1).2++(n0 1 0).2++(n0 1 1).2++(n0 2 0).2++(n0 2 1).2)).l,2,0,Bs (-1),VJ,Jx,0,0,0⟩
def t1:Bl:={ DJ with ae:=AO (fun _=>B0) 1 1 }
noncomputable def hP:Hs:={ (BD 2).begin with sh:=Af (BD 2).sh 1 { (BD 2).sh 1 with tab:=tabA },tx:=Af (BD 2).begin.tx 1 ⟨1,[prA],AO (fun _=>B0) 1 1,fun _=>B0,0,[]⟩ }
def prV (x:Pr):O0:=.agg #[.string x.key,.string x.val,.bool x.gone]
def UM:∀ (l:List (Pr)) (j:Nat) (x:Pr),l[j]? = Bs x->∀ i,i<3->(l.flatMap CR)[j*3+i]? = (CR x)[i]?
 | [],j,p,h,i,b=>by simp at h
 | q::l,0,p,h,i,b=>by
  simp at h;subst h;rw[VM,Wg (by show _<3;omega)];simp
 | q::l,j+1,p,h,i,b=>by
  have d:l[j]? = Bs p:=by simpa using h
  have e:(j+1)*3+i=(j*3+i)+3:=by omega
  have c:(CR q).length=3:=rfl;rw[e,VM,Wk (by rw[c];omega),c,Nat.add_sub_cancel];exact UM l j p d i b
def QG (w:D0) (g o:Nat) (x:Pr):Prop:=w.cell? ⟨g,o,B0⟩=Bs (.string x.key)/\w.cell? ⟨g,o+1,B0⟩=Bs (.string x.val)/\w.cell? ⟨g,o+2,B0⟩=Bs (.bool x.gone)
def rat {B:Nat} {A:Option Addr} {l:List (Pr)} (h:Rd w B 3 A n (l.flatMap CR)) (hl:l.length=n) (o:j<n):∃ g b x,A=Bs ⟨g,b,B0⟩/\g<B/\l[j]? = Bs x/\QG w g (b+j*3) x:=by
 obtain⟨g,b,e,m,d⟩:=h.2 (by omega);have f:l[j]? = Bs l[j]:=L1 (by omega);have c:=UM l j _ f;exact⟨g,b,l[j],e,m,f,d (j*3) _ (c 0 (by omega)),d (j*3+1) _ (c 1 (by omega)),d (j*3+2) _ (c 2 (by omega))⟩
def UO (F:Nat) (lb:Array O0) (p:Pr->Bool) (g:Option Nat) (w:D0):Prop:=
 ∀ (W:D0) (x:Pr),Fr (fun k=>g=Bs k) w W->VY Tryz.prog F (#[prV x]++lb) W fun e w'=>e=.returned (.bool (p x))/\VP W.heap.size W w'
def Dn (p:Pr->Bool) (L:List (Pr)):Int:=match L.findIdx? p with|some i=>(i:Int)|none=>-1
def Tp (p:Pr->Bool) (L:List (Pr)):-1<=Dn p L/\Dn p L<=L.length:=by
 unfold Dn;rcases h:L.findIdx? p with _|i
 ·simp only;omega
 ·rw[VU] at h;obtain⟨hl,b,_⟩:=h;simp only;omega
def rIRel (p:Pr->Bool) (L:List (Pr)) (n:Nat) (w:D0) (v:O0) (wr:D0):Prop:=∃ j:Nat,v=.int .i64 j/\j<=n/\(∀ x∈L.take j,p x=Jx)/\VP w.heap.size w wr
def rbfr {g:Option Nat} {W:D0} (b:VP w.heap.size w W):Fr (fun k=>g=Bs k) w W:=⟨b.os,b.tape,b.output,b.size,fun k c _=>b.block k c⟩
def KV (F:Nat) (lb:Array O0) (p:Pr->Bool) (J:Option Nat) (A:Option Addr) (n k:Nat) (L:List (Pr)) (w:D0) (Z:∀ args w,(callFunc F args).run Tryz.prog w=.ok (.enter F args) w)
  (d:UO F lb p J w) (D:Rd w w.heap.size 3 A n (L.flatMap CR)) (hl:L.length=n) (T:n<=100000) :
  VY Tryz.prog 36 #[.slice A n k,.func (.func F) #[] lb] w fun e w'=>e=.returned (.int .i64 (Dn p L))/\VP w.heap.size w w':=by
 have M:=LH D;clear D;have N:=LH d;clear d;go_enter Tryz.func36,Tryz.ntmps36;go_wp2_with fail;go_loopw [8] (rIRel p L n w) (fun v _=>n-(intOf v).toNat)
 case atStart=>exact⟨0,rfl,VN _,(fun x o=>by simp at o),VK _ _⟩
 case round=>
  obtain⟨j,rfl,U,f,c⟩:=hrel;by_cases G:(j:Int)<n
  ·obtain⟨K,S,x,rfl,C,o,Y,X,W⟩:=rat (M.o.below c) hl (j:=j) (by omega);have I:K<wr.heap.size:=VL C c.size;have b:=N.o wr x (rbfr c);have u:j<L.length:=by omega
   have m:p x=VJ->Dn p L=j:=fun d=>by
    have:L.findIdx? p=Bs j:=by
     rw[VU];refine⟨u,?_,fun i V=>?_⟩
     ·rw[<- Option.some.inj ((L1 u).symm.trans o)] at d;exact d
     ·simp only[Bool.not_eq_true];exact f _ (by rw[List.mem_take_iff_getElem];exact⟨i,by omega,rfl⟩)
    unfold Dn;rw[this]
   have g:p x=Jx->∀ y∈L.take (j+1),p y=Jx:=fun d y q=>by
    rw[VX,o] at q;rcases List.mem_append.1 q with q|q
    ·exact f y q
    ·simp at q;rw[q];exact d
   have z:=LH m;clear m;have r:=LH g;clear g;have O:=LH f;clear f;have HX:=LH o;clear o;unfold prV at b;rcases d:p x with _|_
   ·rw[d] at b;have s:=LH d;clear d;have B:=LH b;clear b;go_wp2_with fail;refine B.o.mono ?_;rintro e E ⟨rfl,l⟩;clear B;have t:=LH (c.trans (l.mono c.size));clear l;go_wp2_with fail;go_roundw
    case rel=>exact⟨j+1,rfl,by omega,r.o s.o,t.o⟩
    case measure=>simp[intOf];omega
   ·rw[d] at b;have s:=LH d;clear d;have B:=LH b;clear b;go_wp2_with fail;refine B.o.mono ?_;rintro e E ⟨rfl,l⟩;clear B;have t:=LH (c.trans (l.mono c.size));clear l;go_wp2_with fail;go_ret;exact⟨by rw[z.o s.o];rfl,t.o⟩
  ·obtain rfl:j=n:=by omega
   have h:Dn p L = -1:=by
    have:L.findIdx? p=B0:=by
     rw[Wn];intro x o;exact f x (by rw[V0 (by omega)];exact o)
    unfold Dn;rw[this]
   have R:=LH h;clear h f;go_wp2_with fail;go_ret;rw[R.o];exact⟨rfl,c⟩
section
variable {H:Hs} {id:Int} {i:Nat} {k:Sx} {mode:Int}
def G9 (h:Wf H) (p:H.c=3) (j:1<=i) (g:i<=H.m) (f:k∈names) (o:B6 (H.tx i).aj k=Jx):Wf (H.aV i k mode).2/\Sz H (H.aV i k mode).2:=by
 have hs:Aa k<H.c:=by have:=E4 k;omega
 have c:Wf (H.aU i (Aa k) k mode):=h.aU j g hs f;have s1:Sz H (H.aU i (Aa k) k mode):=⟨rfl,rfl,rfl⟩
 cases d:Ch (Ac (H.sh (Aa k)).tab k).ws i with
 | true=>rw[q2q d];exact⟨c,s1⟩
 | false=>
  cases e:Ai (Ac (H.sh (Aa k)).tab k).h i mode (Ac (H.sh (Aa k)).tab k).ws with
  | true=>rw[q36 d e];exact⟨c,s1⟩
  | false=>
   by_cases l:(Ac (H.sh (Aa k)).tab k).ws.length=50
   ·rw[q37 d e l];exact⟨c,s1⟩
   ·rw[q2c d e l];have m:Wf ((H.aU i (Aa k) k mode).aM i k mode):=c.aM j g f o;exact⟨m.aX _ p,Sz.trans (b:=(H.aU i (Aa k) k mode).aM i k mode) ⟨rfl,rfl,rfl⟩ (q49 _ _)⟩
def q63 (h:Wf H) (o:H.c=3) (m:k∈names):Wf (H.lock id k mode).2/\Sz H (H.lock id k mode).2:=by
 by_cases p:id<1\/H.m<id
 ·rw[Ty p];exact⟨h,Sz.refl _⟩
 ·obtain⟨i,rfl⟩:∃ i:Nat,id=i:=⟨id.toNat,by omega⟩
  have e:1<=i:=by omega
  have d:i<=H.m:=by omega
  have c:=Ea m;by_cases s1:(H.tx i).state=1
  ·by_cases f:H.head (Aa k)=B0
   ·rw[q4i e d s1 c f];exact⟨h,Sz.refl _⟩
   ·by_cases j:Ps H i (Aa k)
    ·rw[q3s e d s1 c f j];exact⟨h.abort o e d,(If H i).1.sz⟩
    ·have l:Wf (H.came i (Aa k)):=h.came e d (E4 k);have s2:Sz H (H.came i (Aa k)):=⟨rfl,rfl,rfl⟩
     cases g:B6 (H.tx i).aj k with
     | true=>rw[q3q e d s1 c f j g];exact⟨l,s2⟩
     | false=>
      rw[q6k e d s1 c f j g];obtain⟨a,b⟩:=G9 (mode:=mode) l o e (show i<=(H.came i (Aa k)).m from d) m (by unfold Hs.came;rw[SL];exact g);exact⟨a,s2.trans b⟩
  ·rw[q3r e d s1];exact⟨h,Sz.refl _⟩
def FX (h:(H.lock id k mode).1=0):1<=id/\id<=H.m:=by
 by_cases b:id<1\/H.m<id
 ·rw[Ty b] at h;cases h
 ·omega
def Es (k:ByteArray) (p:Pr):Bool:=p.key == k
def QY (l:List Pr) (p:Pr):Ci l p=if Dn (Es p.key) l<0 then(if l.length=20 then B0 else Bs (l++[p])) else Bs (l.set (Dn (Es p.key) l).toNat p):=by
 unfold Ci Dn Es;cases l.findIdx? fun o=>o.key == p.key with
 | none=>rfl
 | some q=>simp only;rw[if_neg (by omega)];rfl
end
def Mf (a b:ByteArray):(a == b)=VJ↔a=b:=by
 cases a with
 | mk x=>
  cases b with
  | mk y=>
   show(x == y)=VJ↔_;rw[beq_iff_eq];exact⟨fun h=>by rw[h],fun h=>by injection h⟩
def qaz (a b:ByteArray):(a.toList == b.toList)=(a == b):=by
 rw[XU,beq_iff_eq,Mf,q59,q59];exact⟨fun h=>by rw[<- Jl a,<- Jl b,h],fun h=>by rw[h]⟩
def QZ (c:Nat) (k:ByteArray) (w:D0) (h:w.cell? ⟨c,0,B0⟩=Bs (.string k)) :
  UO 37 #[.pointer (Bs ⟨c,0,B0⟩)] (Es k) B0 w:=by
 intro W x g;have b:=Wa w _ h;have m:=(g.cell (p:=⟨c,0,B0⟩) b (fun e=>nomatch e)).trans h;have l:c<W.heap.size:=VL b g.size;have f:=LH (fun o=>(VK W.heap.size W).alloc (K0 _) o);clear h b g;unfold prV;show VY _ _ #[_,_] _ fun e w'=>e=.returned (.bool (Es k x))/\VP W.heap.size W w'
 cases d:(x.key == k) with
 | true=>
  rw[show Es k x=VJ from d];have j:(x.key.toList == k.toList)=VJ:=(qaz _ _).trans d;go_enter Tryz.func37,Tryz.ntmps37;go_wp2_with fail;go_ret;exact⟨rfl,f.o _⟩
 | false=>
  rw[show Es k x=Jx from d];have j:(x.key.toList == k.toList)=Jx:=(qaz _ _).trans d;go_enter Tryz.func37,Tryz.ntmps37;go_wp2_with fail;go_ret;exact⟨rfl,f.o _⟩
def Sh (P:Aq) (own b:Ah) (H:Hs) (e:Nat) (k:Sx) (d:ByteArray) (gone:Bool) (w:D0) (c:D0):Prop:=
 HI c b P H/\Ay w own c b/\Ae c e 45 #[.string ⟨k.toArray⟩,.string (if gone then⟨#[]⟩ else d),.bool gone]
def put_no {H H2:Hs} {id:Int} {b:Int} (d:p.val.size<=40) (h:H.lock id (sx p.key) 2=(b,H2)) (c:b≠0):H.put id p=(b,H2):=by
 unfold Hs.put;rw[if_neg (by omega)];simp only[h];rw[if_pos c]
def Tz {H H2:Hs} {id:Int} (b:p.val.size<=40) (h:H.lock id (sx p.key) 2=(0,H2)):H.put id p=match Ci (H2.tx id.toNat).ad ⟨p.key,if p.gone then⟨#[]⟩ else p.val,p.gone⟩ with
   | some l=>(0,H2.au id.toNat { H2.tx id.toNat with ad:=l })
   | none=>(4,H2):=by
 unfold Hs.put;rw[if_neg (by omega)];simp only[h];rw[if_neg (by simp)];rfl
def To (p:Pr->Bool) (L:List Pr):Dn p L<0\/Dn p L<L.length:=by
 unfold Dn;rcases b:L.findIdx? p with _|i
 ·exact .inl (by simp)
 ·rw[VU] at b;obtain⟨hl,_⟩:=b;exact .inr (by simp only;omega)
section
variable {w w':D0} {own own':Ah} {P:Aq} {H:Hs}
def HI.fr0 {S:Nat->Prop} (h:HI w own P H) (d:Fr S w w') (m:∀ b,own b≠B0->¬S b):HI w' own P H:=by
 have hs:∀ b t,own b=Bs t->¬S b:=fun b t e=>m b (by rw[e];simp)
 refine⟨fun b c=>VL (h.lt b c) d.size,?_,fun s f=>?_,fun s j f o=>?_,fun i g p=>?_⟩
 ·obtain⟨v,h⟩:=h.hs;exact⟨v,h.nt.frF d (hs _ _ h.gt) (fun b c=>hs b _ (h.bc b c)),h.msgs,h.bc,h.br,d.own h.shr (fun b c=>hs b _ (h.bx b c)),h.bx,d.own h.txr (fun b c=>hs b _ (h.bu b c)),h.bu,h.gt⟩
 ·obtain⟨v,h⟩:=h.sh s f;exact⟨v,d.own h.row (fun b c=>hs b _ (h.b6 b c)),h.b6,h.dd.fr d (hs _ _ h.cI),h.cI,h.tab.fr d (hs _ _ h.gt) (fun b c=>hs b _ (h.b5 b c)),h.b5,h.sto.fr d (fun b c=>c.elim (fun e=>e▸hs _ _ h.gt) (fun c=>hs b _ (h.bF b c))),h.bF,h.gt⟩
 ·obtain⟨C,V,L,g,l⟩:=h.nd s j f o;exact⟨C,V,L,g.fr d (fun b c=>hs b _ (l b c)),l⟩
 ·obtain⟨v,h⟩:=h.tx i g p;exact⟨v,d.ak h.ak (hs _ _ h.gt),d.own h.ad (fun b c=>hs b _ (h.wt b c)),h.ae.fr d (h.st.elim (hs _ _) (hs _ _)),h.places.fr d (hs _ _ h.pt),d.own h.aj (fun b c=>hs b _ (h.xt b c)),h.ne,h.gt,h.wt,h.st,h.pt,h.xt⟩
def qcs (h:HI w own P H) (wf:Wf H) (aR:Ef own) (hc:H.c=3) (id:Int) (k:Sx) (hk:k∈names) (g:ByteArray) (hv:g.size<=40) (gone:Bool):VY Tryz.prog 12 #[pw P.g,.int .i64 id,.agg #[.string ⟨k.toArray⟩,.string g,.bool gone]] w (E9 P own w (H.put id ⟨⟨k.toArray⟩,g,gone⟩)):=by
 have ag:VP w.heap.size w (w.alloc (.cells #[.string ⟨k.toArray⟩,.string g,.bool gone] 45)):=(VK w.heap.size w).alloc (K0 _) _;have J:Ae (w.alloc (.cells #[.string ⟨k.toArray⟩,.string g,.bool gone] 45)) w.heap.size 45 #[.string ⟨k.toArray⟩,.string g,.bool gone]:=Ae.new w _ _;have aD:=LH (HZ.below (Z:=BM) own ag);have aO:=LH J;have aW:=LH (show own w.heap.size=B0 from h.free (K0 _));have aJ:=LH (Jo (h.below ag) wf aR hc id k hk 2 (.inr rfl));have aF:=LH (fun er H2 (e:H.lock id k 2=(er,H2)) he=>put_no (H:=H) (H2:=H2) (id:=id) (p:=⟨⟨k.toArray⟩,g,gone⟩) hv (by rw[Dh];exact e) he);have a2:=LH (fun H2 (e:H.lock id k 2=(0,H2))=>Tz (H:=H) (H2:=H2) (id:=id) (p:=⟨⟨k.toArray⟩,g,gone⟩) hv (by rw[Dh];exact e));have aI:=LH (q63 (id:=id) (mode:=2) wf hc hk);have aH:=LH (fun e=>FX (H:=H) (id:=id) (k:=k) (mode:=2) e);have q0:=J.cell 0;have q1:=J.cell 1;have q2:=J.cell 2;have ql:=J.lt;simp only[Hi,Ft,N2] at q0 q1 q2;have b9:¬(40:Int)<(g.size:Int):=by omega
 have b8:(g.size:Int)<=40:=by omega
 clear h ag J wf;unfold pw at *;go_enter Tryz.func12,Tryz.ntmps12;go_upto_region 1 with (fail)
 generalize (w.alloc _)=w1 at *;generalize aq:w.heap.size=r at *;have aY:=LH aq;clear aq;go_wp2_with fail;refine aJ.o.mono ?_;rintro e w2 ⟨rfl,t,a1,ah⟩;have af:=Ib ah aO.o aW.o;have C:=LH af.1;have aG:=LH af.2;have N:=LH (aD.o.trans ah);have V:=aI.o;have a6:=aH.o;rcases hr:H.lock id k 2 with ⟨er,H2⟩
 rw[hr] at a1 V a6;have ae:=aF.o er H2 hr;clear af ah q0 q1 q2 ql aD aO aJ aI aH aF;by_cases he:er=0
 ·subst he;obtain⟨av,au⟩:=a6 rfl;have O:=a2.o H2 hr;obtain⟨i,rfl⟩:∃ i:Nat,id=i:=⟨id.toNat,by omega⟩
  have h1:1<=i:=by omega
  have hi:i<=H2.m:=by have:=V.2.m;show i<=H2.m;have e:H2.m=H.m:=this;omega
  rw[show lkV P i k 0=.tuple #[pw (P.gt i),pw (P.gs (Aa k)),.nilIface] from rfl];rw[show((i:Int)).toNat=i from rfl] at O;have aE:=LH O;have an:=LH a1;have aV:=LH V.1;generalize H.put _ _=ad at *;unfold pw;clear hr V a6 av au O a1 ae a2;have b0:=C.o.cell 0;have b1:=C.o.cell 1;have b2:=C.o.cell 2;have bl:=C.o.lt;have bf:=C.o.frozen 1;simp only[Hi,Ft,N2] at b0 b1 b2;go_upto_if 29 with (fail)
  go_cut [] (fun wx=>Sh P own t H2 r k g gone w wx)
  case first=>
   cases gone with
   | true=>
    have T:=Fr.a6 r w2 1 (.string ⟨#[]⟩);have HP:=LH (show Sh P own t H2 r k g VJ w (w2.setCell ⟨r,1,B0⟩ (.string ⟨#[]⟩)) from⟨an.o.fr0 T (fun b hb e=>hb (by rw[e];exact aG.o)),⟨N.o.ext,N.o.fr.trans' T (fun b hb (e:b=r)=>by have:=aY.o;omega),N.o.sm⟩,C.o.aH 1 _⟩);clear T;go_wp2_with fail;go_meet;exact HP.o
   | false=>
    have HP:=LH (show Sh P own t H2 r k g Jx w w2 from⟨an.o,N.o,C.o⟩);go_wp2_with fail;go_meet;exact HP.o
  case rest=>
   obtain⟨aj,aA,L⟩:=hcut;clear b0 b1 b2 bl bf;have b0:=L.cell 0;have b1:=L.cell 1;have b2:=L.cell 2;have bl:=L.lt;simp only[Hi,Ft,N2] at b0 b1 b2;obtain⟨vt,R⟩:=aj.tx i h1 hi;obtain⟨_,_,m2,_,_,_,_,ml⟩:=R.cells;obtain⟨A5,c5,ai,_,_⟩:=AR R.ad;have U:=R.ad;rw[ai] at m2 U;have b5:=(aV.o.tx i h1 hi).br;have ar:=KV 37 #[.pointer (Bs ⟨r,0,B0⟩)] (Es ⟨k.toArray⟩) B0 A5 _ c5 (H2.tx i).ad wc (Pw Tryz.func37 (by kernel_rfl) rfl) (QZ r _ wc b0) (Rd.ay U) rfl (by omega);have l:=aE.o;rw[QY] at l;have bd:=Tp (Es ⟨k.toArray⟩) (H2.tx i).ad;have aX:=LH (To (Es ⟨k.toArray⟩) (H2.tx i).ad);have aZ:=LH ar;have b3:=LH aj;have aU:=LH aA;have ab:=LH L;have bh:=LH R;have bg:=LH ai;clear ar aj aA L R ai U aE an N C;have al:=LH l;clear l b1 b2;go_wp2_with fail;refine aZ.o.mono ?_;rintro e w4 ⟨rfl,K⟩;have aa:=LH (b3.o.below K);have ak:=LH (aU.o.trans (HZ.below t K));have m4:=(K.cell (p:=⟨P.gt i,2,B0⟩) ml).trans m2;have aP:=VL ml K.size;have aN:=LH K;clear m2 ml b0 bl K;generalize Dn (Es ⟨k.toArray⟩) (H2.tx i).ad=z at *;by_cases hz:z<0
   ·by_cases a9:(H2.tx i).ad.length=20
    ·have l:=al.o;rw[if_pos hz,if_pos a9] at l;have HR:=LH (show E9 P own w ad (.returned (.iface 79 (.int .i64 4))) w4 from by rw[l];exact⟨rfl,t,aa.o,ak.o⟩);rw[a9] at m4;clear l a9;go_wp2_with fail;go_ret;exact HR.o
    ·have ba:(((H2.tx i).ad.length:Int) == 20)=Jx:=by simpa using (by omega:¬((H2.tx i).ad.length:Int)=20)
     have l:=al.o;rw[if_pos hz,if_neg a9] at l;have am:=LH l;generalize S:(if gone=VJ then(⟨#[]⟩:ByteArray) else g)=j at *;clear S l;have B:=(DG aN.o).ak ab.o (fun hs=>by have:=ab.o.lt;omega);have c:=LH B;clear B;go_upto_region 14 with (fail)
     refine nW ?_;refine CF (fun W=>W.cell? ⟨P.gt i,2,B0⟩=Bs (.slice A5 (H2.tx i).ad.length c5)/\W.cell? ⟨r,0,B0⟩=Bs (.string ⟨k.toArray⟩)/\W.cell? ⟨r,1,B0⟩=Bs (.string j)/\W.cell? ⟨r,2,B0⟩=Bs (.bool gone)/\r<W.heap.size) 8 (fun _ _ _ _ _ h=>h) (fun m=>?_);have d:w4.drew.cell? ⟨P.gt i,2,B0⟩=Bs (.slice A5 (H2.tx i).ad.length c5)/\w4.drew.cell? ⟨r,0,B0⟩=Bs (.string ⟨k.toArray⟩)/\w4.drew.cell? ⟨r,1,B0⟩=Bs (.string j)/\w4.drew.cell? ⟨r,2,B0⟩=Bs (.bool gone)/\r<w4.drew.heap.size:=
      ⟨m4,(show Ae w4.drew _ _ _ from c.o).cell 0,(show Ae w4.drew _ _ _ from c.o).cell 1,(show Ae w4.drew _ _ _ from c.o).cell 2,c.o.lt⟩
     refine nD 0 [8,9,10] m d ?_;refine nD 1 [2,3,4,7,8,9,10] m d ?_;refine nD 2 [3,4,7,8,9,10] m d ?_;refine nD 3 [4,7,8,9,10] m d ?_;refine nA 4 [7,8,9,10] rfl rfl m d (fun w' D=>by obtain⟨p0,p1,p2,p3,pl⟩:=D;go_simp;rfl) ?_;refine nA 5 [6,7,8,9,10] rfl rfl m d (fun w' D=>by obtain⟨p0,p1,p2,p3,pl⟩:=D;go_simp;rfl) ?_;have v:∀ o q p,q<w4.heap.size->(w4.alloc o).cell? ⟨q,p,B0⟩=w4.cell? ⟨q,p,B0⟩:=fun o q p hq=>WX w4 o ⟨q,p,B0⟩ hq
     refine nG 6 (fun M y=>?_);go_simp;refine y _ _ (fun _=>⟨(v _ _ _ aP).trans d.1,(v _ _ _ c.o.lt).trans d.2.1,(v _ _ _ c.o.lt).trans d.2.2.1,(v _ _ _ c.o.lt).trans d.2.2.2.1,by have:=c.o.lt;simp;omega⟩) ?_;clear y M d v;refine nG 7 (fun M y=>?_);obtain⟨v4,u⟩:=aa.o.tx i h1 hi;have s:=u.cells.2.2.1;rw[m4] at s;injection s with s;have f:=u.ad;rw[<- s] at f;refine SQ w4.drew w4.heap.size rfl _ (.tmp 57) (.tmp 59) 67 rfl 0 45 _ 3 40 Tryz.underlying67 I5 rfl (by decide) _ _ _ #[.string ⟨k.toArray⟩,.string j,.bool gone] rfl f 1 rfl _ rfl rfl (by simp[WB]) (by unfold Wo;omega) (by omega) (VN _) ?_;intro V2 w6 E G;have I:Av w4 w6 v4.Vw.ownBlock V2.ownBlock:=by rw[<- s];exact⟨⟨G.1.os,G.1.tape,G.1.output,G.1.size,G.1.block⟩,G.2⟩
     obtain⟨ao,a0,Y⟩:=aa.o.cT (i:=i) (x:=⟨⟨k.toArray⟩,j,gone⟩) u I E;have aw:¬Bs (P.gt i)=v4.Vw.ownBlock:=fun e=>u.aW.1 e.symm
     have ap:¬Bs r=v4.Vw.ownBlock:=fun e=>by have:=u.wt r e.symm;rw[aG.o] at this;cases this
     have a7:=I.1.ak u.ak aw;have X:=I.1.ak c.o ap;have y1:=a7.frozen 2;have yl:=a7.lt;have y0:=a7.cell 2;unfold Om at y0;simp only[Hi,Ft,N2] at y0;rw[<- s] at y0;have aL:=LH (show w6.cell? ⟨P.gt i,2,B0⟩=Bs (.slice A5 (H2.tx i).ad.length c5)/\w6.cell? ⟨r,0,B0⟩=Bs (.string ⟨k.toArray⟩)/\w6.cell? ⟨r,1,B0⟩=Bs (.string j)/\w6.cell? ⟨r,2,B0⟩=Bs (.bool gone)/\r<w6.heap.size from⟨y0,X.cell 0,X.cell 1,X.cell 2,X.lt⟩);have HR:=LH (show E9 P own w ad (.returned .nilIface) (w6.setCell ⟨P.gt i,2,B0⟩ V2) from by rw[am.o];exact⟨rfl,ao,a0,ak.o.trans Y⟩);obtain⟨A7,c7,aT,_,_⟩:=AR E;subst aT;clear G I aw ap a7 X a0 Y E f u s;go_simp;refine y _ _ (fun _=>aL.o) ?_;clear y M;refine nG 8 (fun M y=>?_);go_simp;refine y _ _ nZ ?_;clear y M;refine nG 9 (fun M y=>?_);go_simp;refine y _ _ nZ ?_;clear y M;refine nG 10 (fun M y=>?_);go_simp;refine y _ _ nZ ?_;clear y M;refine nX ?_;clear m y0 y1 yl aL;go_wp2_with fail;go_ret;exact HR.o
   ·have l:=al.o;rw[if_neg hz] at l;obtain⟨q,rfl⟩:∃ q:Nat,z=q:=⟨z.toNat,by omega⟩
    have ac:q<(H2.tx i).ad.length:=by have:=aX.o;omega
    have am:=LH l;generalize S:(if gone=VJ then(⟨#[]⟩:ByteArray) else g)=j at *;clear S l;have B:=(DG aN.o).ak ab.o (fun hs=>by have:=ab.o.lt;omega);have c:=LH B;clear B;go_upto_region 10 with (fail)
    refine nW ?_;refine CF (fun W=>W.cell? ⟨P.gt i,2,B0⟩=Bs (.slice A5 (H2.tx i).ad.length c5)/\W.cell? ⟨r,0,B0⟩=Bs (.string ⟨k.toArray⟩)/\W.cell? ⟨r,1,B0⟩=Bs (.string j)/\W.cell? ⟨r,2,B0⟩=Bs (.bool gone)/\r<W.heap.size) 6 (fun _ _ _ _ _ h=>h) (fun m=>?_);have d:w4.drew.cell? ⟨P.gt i,2,B0⟩=Bs (.slice A5 (H2.tx i).ad.length c5)/\w4.drew.cell? ⟨r,0,B0⟩=Bs (.string ⟨k.toArray⟩)/\w4.drew.cell? ⟨r,1,B0⟩=Bs (.string j)/\w4.drew.cell? ⟨r,2,B0⟩=Bs (.bool gone)/\r<w4.drew.heap.size:=
     ⟨m4,(show Ae w4.drew _ _ _ from c.o).cell 0,(show Ae w4.drew _ _ _ from c.o).cell 1,(show Ae w4.drew _ _ _ from c.o).cell 2,c.o.lt⟩
    refine nD 0 [1,2,3,6,7] m d ?_;refine nD 1 [2,3,6,7] m d ?_;refine nD 2 [3,6,7] m d ?_;refine nA 3 [6,7] rfl rfl m d (fun w' D=>by obtain⟨p0,p1,p2,p3,pl⟩:=D;go_simp;rfl) ?_;refine nD 4 [6,7] m d ?_;refine nA 5 [6,7] rfl rfl m d (fun w' D=>by obtain⟨p0,p1,p2,p3,pl⟩:=D;go_simp;rfl) ?_;have aM:=LH (show VP w4.heap.size w4 w4.drew from⟨rfl,rfl,rfl,K0 _,fun _ _=>rfl⟩);have aK:=LH (aa.o.below aM.o);obtain⟨v4,u⟩:=aK.o.tx i h1 hi;have s:=u.cells.2.2.1;rw[show w4.drew.cell? ⟨P.gt i,2,B0⟩=_ from m4] at s;injection s with s;have f:=u.ad;rw[<- s] at f;obtain⟨g5,b4,x5,aB,be,b7,a5,a4,a3⟩:=rat (Rd.ay f) rfl ac;rcases f.2 with ⟨bc,bb⟩|⟨g6,b6,aC,aQ,_,aS,_⟩
    ·omega
    have A:=aQ;rw[aB] at A;injection A with A _ hs8;injection A with A;injection A with A hs9 _;subst A hs9 hs8 aB;have a8:∀ o,w4.frozen? ⟨g5,o,B0⟩=Jx:=fun o=>Ae.frozen (show Ae w4 g5 _ aC from aS) o
    have az:=a8 (q*3);have ay:=a8 (q*3+1);have ax:=a8 (q*3+2);rw[Nat.zero_add] at a5 a4 a3;replace a5:w4.cell? ⟨g5,q*3,B0⟩=Bs (.string x5.key):=a5;replace a4:w4.cell? ⟨g5,q*3+1,B0⟩=Bs (.string x5.val):=a4;replace a3:w4.cell? ⟨g5,q*3+2,B0⟩=Bs (.bool x5.gone):=a3;obtain⟨a0,Y⟩:=aK.o.df h1 hi u s.symm ac ⟨⟨k.toArray⟩,j,gone⟩;have HR:=LH (show E9 P own w ad (.returned .nilIface) (DU w4.drew g5 (q*3) ⟨⟨k.toArray⟩,j,gone⟩) from by rw[am.o];exact⟨rfl,t,a0,(ak.o.trans (HZ.below t aM.o)).trans Y⟩);clear a0 Y f u s a8;unfold DU at HR;refine nG 6 (fun M y=>?_);go_simp;refine y _ _ (fun _=>d) ?_;clear y M;refine nG 7 (fun M y=>?_);go_simp;refine y _ _ nZ ?_;clear y M;refine nX ?_;clear m a5 a4 a3 az ay ax d;go_wp2_with fail;go_ret;exact HR.o
 ·have HR:=LH (show E9 P own w (H.put id ⟨⟨k.toArray⟩,g,gone⟩) (.returned (.iface 79 (.int .i64 er))) w2 from by rw[ae he];exact⟨by unfold CD;rw[if_neg he],t,a1,N.o⟩);rw[show lkV P id k er=.tuple #[.pointer B0,.pointer B0,.iface 79 (.int .i64 er)] from by unfold lkV;rw[if_neg he]];clear hr V a6 ae a1 he a2;go_wp2_with fail;go_ret;exact HR.o
end
section
open Go.RowKit Go.Shelf
attribute [local go_sem] Oper.semAt_some
def pr0:Pr:=⟨⟨#[]⟩,⟨#[]⟩,Jx⟩
def PG (L:List Pr) (j:Nat):Int×Pr:=((L.length:Int)-1-j,L[L.length-1-j]?.getD pr0)
def PF (L:List Pr) (k:Nat):List (Int×Pr):=(List.range k).map (PG L)
def J3 (L:List Pr) (k:Nat):PF L (k+1)=PF L k++[PG L k]:=by simp[PF,List.range_succ]
def Uq (L:List Pr) (k:Nat):(PF L k).length=k:=by simp[PF]
def bwE (x:Int×Pr):Array O0:=#[.int .i64 x.1,.agg #[.string x.2.key,.string x.2.val,.bool x.2.gone]]
def EE (L:List Pr) (W:D0) (b c:Nat):Prop:=∀ j x,L[j]? = Bs x->QG W b (c+j*3) x
def bw1_in (F:Fence) (n:Nat) (Z:F.fn 71) (z:F.round=B0) (hn:1<=n) (l u s b d cap:Nat) (L:List Pr) (hL:L.length<=1000) (B:b<s) (J R:List (Int×Pr)->D0->Prop)
  (Y:∀ c x W,J c W->c.length<L.length->YieldAt F (n-1) Tryz.prog l (bwE x) W fun e g=>
   (e=.returned (.bool VJ)/\J (c++[x]) g/\VP s W g)\/(e=.returned (.bool Jx)/\R (c++[x]) g))
  (W:D0) (E:u<s) (D:W.cell? ⟨u,0,B0⟩=Bs (.slice (Bs ⟨b,d,B0⟩) L.length cap)) (X:EE L W b d) (h0:J [] W) :
  CallsIn F n Tryz.prog 71 #[.func (.yield l) #[] #[],.pointer (Bs ⟨u,0,B0⟩)] W fun e g=>(∃ v,e=.returned v)/\
   ((∃ G,G=PF L L.length/\J G g)\/(∃ c,(∃ k,k<L.length/\c=PF L (k+1))/\R c g)):=by
 refine callsIn_of_wp Tryz.func71 rfl Z ?_ z;simp only[Tryz.ntmps71,Xo,Wl,XT,Nat.reduceAdd,Nat.reduceSub,YJ,YI,Y8,YT,Xt,XY];have U:IntKind.i64.wrap ((L.length:Int)-1)=(L.length:Int)-1:=V4 _ ⟨by omega,by omega⟩;gi_wp2
 gi_loopw [3] (fun i wr=>∃ k:Nat,k<=L.length/\i=.int .i64 ((L.length:Int)-1-k)/\J (PF L k) wr/\VP s W wr)
  (fun i _=>(intOf i+1).toNat)
 case atStart=>exact⟨0,VN _,by simp,h0,VK _ _⟩
 case round=>
  obtain⟨k,hk,rfl,o,f⟩:=hrel;have a0:=(f.cell (p:=⟨u,0,B0⟩) E).trans D;by_cases j:k<L.length
  ·obtain⟨q,t⟩:∃ q:Nat,(L.length:Int)-1-k=q:=⟨L.length-1-k,by omega⟩
   have h:q=L.length-1-k:=by omega
   have V:q<L.length:=by omega
   have I:L[q]? = Bs (L[L.length-1-k]?.getD pr0):=by rw[h,L1 (by omega)];rfl
   have r:PG L k=(((q:Nat):Int),L[L.length-1-k]?.getD pr0):=by unfold PG;rw[t]
   obtain⟨fn,tmps,assign,body,y,K⟩:=Y _ (PG L k) wr o (by rw[Uq];exact j);rw[<- J3] at K;rw[r] at y;unfold bwE at y
   dsimp only at y
   generalize L[L.length-1-k]?.getD pr0=x at *;obtain⟨O,N,M⟩:=X q x I;have c0:=(f.cell (p:=⟨b,d+q*3,B0⟩) B).trans O;have c1:=(f.cell (p:=⟨b,d+q*3+1,B0⟩) B).trans N;have c2:=(f.cell (p:=⟨b,d+q*3+2,B0⟩) B).trans M;have T:IntKind.i64.wrap ((q:Int)-1)=(q:Int)-1:=V4 _ ⟨by omega,by omega⟩;rw[t];have S:=LH t;clear O N M I h t r;gi_wp2;refine K.mono ?_;rintro e W3 (⟨rfl,C,A⟩|⟨rfl,m⟩)
   ·gi_wp2;go_roundw
    case rel=>exact⟨k+1,by omega,by have:=S.o;congr 1;omega,C,f.trans A⟩
    case measure=>have:=S.o;simp only[intOf];omega
   ·gi_wp2;refine bodyPost_ret (results_none rfl _ _ _) rfl ?_;exact⟨⟨_,rfl⟩,.inr ⟨_,⟨k,j,rfl⟩,m⟩⟩
  ·obtain rfl:k=L.length:=by omega
   gi_wp2
   go_end0
   exact⟨⟨_,rfl⟩,.inl ⟨_,rfl,o⟩⟩
def Ur (F:Fence) (n:Nat) (f:F.fn 71) (b:F.round=B0) (l d:Nat) (J:List (Int×Pr)->D0->Prop) (W:D0) (g:W.cell? ⟨d,0,B0⟩=Bs (.slice B0 0 0)) (h:J [] W) :
  CallsIn F n Tryz.prog 71 #[.func (.yield l) #[] #[],.pointer (Bs ⟨d,0,B0⟩)] W fun e j=>(∃ v,e=.returned v)/\J [] j:=by
 refine callsIn_of_wp Tryz.func71 rfl f ?_ b;simp only[Tryz.ntmps71,Xo,Wl,XT,Nat.reduceAdd,Nat.reduceSub,YJ,YI,Y8,YT,Xt,XY];gi_wp2
 gi_loopw [3] (fun i wr=>i=.int .i64 (-1)/\J [] wr) (fun _ _=>0)
 case atStart=>exact⟨by first|rfl|simp,h⟩
 case round=>
  obtain⟨rfl,c⟩:=hrel;gi_wp2
  go_end0
  exact⟨⟨_,rfl⟩,c⟩
def Us (F:Fence) (n:Nat) (d:F.fn 41) (c:F.round=B0) (a:Option Addr) (b cap:Nat) (w:D0) :
  CallsIn F n Tryz.prog 41 #[.slice a b cap] w fun e w'=>e=.returned (.func (.func 71) #[] #[.pointer (Bs ⟨w.heap.size,0,B0⟩)])/\w'=w.alloc (.cells #[.slice a b cap] 67):=by
 refine callsIn_of_wp Tryz.func41 rfl d ?_ c;simp only[Tryz.ntmps41,Xo,Wl,XT,Nat.reduceAdd,Nat.reduceSub,YJ,YI,Y8,YT,Xt,XY];gi_wp2;go_ret;exact⟨rfl,rfl⟩
def RowB (d:Nat) (W:D0) (A:Option Addr) (L:List Pr) (cap:Nat):Prop:=(A=B0/\L=[]/\cap=0)\/∃ b c,A=Bs ⟨b,c,B0⟩/\b<d/\EE L W b c
def EE.below {e:Nat} {A B:D0} (h:VP e A B) {b c:Nat} (d:b<e) (g:EE L A b c):EE L B b c:=fun j x f=>by
 obtain⟨o,m,l⟩:=g j x f;exact⟨(h.cell (p:=⟨b,c+j*3,B0⟩) d).trans o,(h.cell (p:=⟨b,c+j*3+1,B0⟩) d).trans m,(h.cell (p:=⟨b,c+j*3+2,B0⟩) d).trans l⟩
def R4 (F:Fence) (n:Nat) (t:F.fn 71) (f:F.round=B0) (x:1<=n) (c d cap:Nat) (A:Option Addr) (L:List Pr) (E:L.length<=1000) (w:D0) (q:c<d) (m:d<=w.heap.size)
  (B:w.cell? ⟨c,0,B0⟩=Bs (.slice A L.length cap)) (D:RowB d w A L cap) :
  SeqStopsK F n Tryz.prog 71 #[.pointer (Bs ⟨c,0,B0⟩)] bwE (VP d) (fun v=>v=PF L L.length) (fun h=>∃ k,k<L.length/\h=PF L (k+1)) L.length w:=fun l J G W s _ _ C u=>by
 have g:=(s.cell (p:=⟨c,0,B0⟩) (by show c<w.heap.size;omega)).trans B;rcases D with ⟨rfl,rfl,rfl⟩|⟨b,j,rfl,r,o⟩
 ·exact(Ur F n t f l c J W g u).mono fun e I ⟨z,y⟩=>⟨z,.inl ⟨_,rfl,y⟩⟩
 ·exact bw1_in F n t f x l c d b j cap L E r J G C W q g (o.below (s.mono m) r) u
def Up {p:Pr->Bool} (h:∀ x∈PF L L.length,p x.2=Jx):L.reverse.find? p=B0:=by
 rw[List.find?_eq_none];intro x b;rw[List.mem_reverse] at b;obtain⟨j,c,rfl⟩:=List.mem_iff_getElem.1 b;have:=h (PG L (L.length-1-j)) (List.mem_map.2 ⟨L.length-1-j,List.mem_range.2 (by omega),rfl⟩);unfold PG at this;rw[show L.length-1-(L.length-1-j)=j by omega,L1 c] at this;simp at this;simp[this]
def Uo {p:Pr->Bool} {k:Nat} (b:k<L.length) (h:∀ x∈PF L k,p x.2=Jx) (e:p (PG L k).2=VJ):L.reverse.find? p=Bs (PG L k).2:=by
 rw[List.find?_eq_some_iff_getElem];have d:∀ j,j<L.length->(PG L j).2=L.reverse[j]?.getD pr0:=fun j c=>by
  unfold PG;rw[List.getElem?_reverse c]
 refine⟨e,k,by simpa using b,?_,fun j c=>?_⟩
 ·rw[d k b,L1 (by simpa using b)];rfl
 ·have:=h (PG L j) (List.mem_map.2 ⟨j,List.mem_range.2 c,rfl⟩);rw[d j (by omega),L1 (by simp;omega)] at this;simpa using this
end
section
variable {F:Fence} {n:Nat} {P:Program} {md:Region.Mode} {ops:Array Oper} {Q:Exit->Act->D0->Prop} {fuel:Nat} {listed:Array Bool} {a:Act} {w:D0}
def nU (i:Nat) {o:Oper} (h:∀ b:Act->D0->Prop,(∀ a w,wpAnyIn F n P md ops Q fuel (listed.setIfInBounds i VJ) a w->b a w)->if Ww o (yielded ops a.tmps)=VJ then Oper.wpIn F n P o a w b Q else(∀ f,o.about P w a.eval=Bs f->F.fn f)/\b (a.put o.dst Yq) w)
  (d:ops[i]? = Bs o:=by rfl) (c:Wu md ops listed=[i]:=by kernel_rfl):wpAnyIn F n P md ops Q (fuel+1) listed a w:=wpAnyIn_ready c (by simp) (AllReadyIn.cons d h AllReadyIn.nil)
def nV (i j:Nat) {o p:Oper} (h:∀ b:Act->D0->Prop,(∀ a w,wpAnyIn F n P md ops Q fuel (listed.setIfInBounds i VJ) a w->b a w)->if Ww o (yielded ops a.tmps)=VJ then Oper.wpIn F n P o a w b Q else(∀ f,o.about P w a.eval=Bs f->F.fn f)/\b (a.put o.dst Yq) w)
  (g:∀ b:Act->D0->Prop,(∀ a w,wpAnyIn F n P md ops Q fuel (listed.setIfInBounds j VJ) a w->b a w)->if Ww p (yielded ops a.tmps)=VJ then Oper.wpIn F n P p a w b Q else(∀ f,p.about P w a.eval=Bs f->F.fn f)/\b (a.put p.dst Yq) w)
  (e:ops[i]? = Bs o:=by rfl) (d:ops[j]? = Bs p:=by rfl) (c:Wu md ops listed=[i,j]:=by kernel_rfl):wpAnyIn F n P md ops Q (fuel+1) listed a w:=wpAnyIn_ready c (by simp) (AllReadyIn.cons e h (AllReadyIn.cons d g AllReadyIn.nil))
end
section
open Go.RowKit Go.Shelf
attribute [local go_sem] Oper.semAt_some
def He {tmps:Array O0} {a b c:Nat} {e d:O0} (j:tmps.getD 6 Yq=.pointer (Bs ⟨a,0,B0⟩)) (g:tmps.getD 7 Yq=.pointer (Bs ⟨b,0,B0⟩)) (f:tmps.getD 8 Yq=.pointer (Bs ⟨c,0,B0⟩))
  (o:w.cell? ⟨a,0,B0⟩=Bs v1) (m:w.cell? ⟨b,0,B0⟩=Bs e) (l:w.cell? ⟨c,0,B0⟩=Bs d):(results Tryz.f18 tmps).run Tryz.prog w=.ok (.tuple #[v1,e,d]) w:=by
 have h:(Tryz.f18).results=#[.cell 6 9,.cell 7 4,.cell 8 41]:=by kernel_rfl
 simp only[Array.getD_eq_getD_getElem?] at j g f;simp only[results,h];simp[j,g,f,loadVar,isAgg,underlying,Tryz.underlying9,Tryz.underlying4,Tryz.underlying41,o,m,l,Result.andThen,asAddr,go_sem]
def TJ (Q:Exit->Act->D0->Prop) (e:Exit) (a:Act) (w:D0):Prop:=Q e a w/\∀ c,e≠.panic c
def Ku {P:Program} {c:Code} {Q:Exit->Act->D0->Prop} {a:Act} (h:c.wp P (TJ Q) a w):c.wp P Q a w:=Code.wp_mono (fun _ _ _ h=>h.1) h
def GIx (k:Sx) (d:Nat) (f:D0) (e:List (Int×Pr)) (W:D0):Prop:=
 ∃ c x,e=c++[x]/\(∀ y∈c,(y.2.key.toList == k)=Jx)/\(x.2.key.toList == k)=VJ/\Fr (fun b=>(d<b/\b<d+4)\/f.heap.size<=b) f W/\
  Ae W (d+1) 9 #[.string x.2.val]/\Ae W (d+2) 4 #[.bool (!x.2.gone)]/\Ae W (d+3) 41 #[.nilIface]
def Pn (P:Aq) (own:Ah) (w:D0) (r:(Int×Sx×Bool)×Hs) (e:WC) (w':D0):Prop:=e=.returned (.tuple #[.string ⟨r.1.2.1.toArray⟩,.bool r.1.2.2,CD r.1.1])/\BZ P own r.2 w w'
def get_no {H H2:Hs} {id:Int} {b:Int} (h:H.lock id x 1=(b,H2)) (c:b≠0):H.get id x=((b,[],Jx),H2):=by
 unfold Hs.get;simp only[h];rw[if_pos c]
def T9 {H H2:Hs} {id:Int} (h:H.lock id x 1=(0,H2)) (b:(H2.tx id.toNat).ad.reverse.find? (fun p=>sx p.key == x)=Bs p):H.get id x=((0,sx p.val,!p.gone),H2):=by
 unfold Hs.get;simp only[h];rw[if_neg (by simp),b]
def T8 {H H2:Hs} {id:Int} (h:H.lock id x 1=(0,H2)) (b:(H2.tx id.toNat).ad.reverse.find? (fun p=>sx p.key == x)=B0):H.get id x=((0,BP (Cf ((H2.sh (Aa x)).sto x) 1099511627776)),H2):=by
 unfold Hs.get;simp only[h];rw[if_neg (by simp),b]
section
variable {w w':D0} {own own':Ah} {P:Aq} {H:Hs}
def RE (h:HI w own P H) (hs:s<H.c) (k:Sx) (c:k.length<=20) :
  VY Tryz.prog 42 #[.pointer (Bs ⟨P.gs s,5,B0⟩),.string ⟨k.toArray⟩,.int .i64 1099511627776] w (qam (BP (Cf ((H.sh s).sto k) 1099511627776)) w):=by
 obtain⟨v,b⟩:=h.sh s hs;have:=Ub 0 100 (P.gs s) 5 _ _ v.ms v.dq (H.sh s).sto 0 ⟨k.toArray⟩ 1099511627776 w b.sto (by omega) (by omega) (by show k.toArray.size<=Wo;simp;unfold Wo;omega) (by omega);rw[show sx ⟨k.toArray⟩=k from Dh k] at this;exact this
def BZ.boxes {d W:D0} {c:Ah} {H2:Hs} (hI:HI d c P H2) (f:Ay w own d c) (m:∀ j,j<4->c (g+j)=B0) (q:w.heap.size<=g) (l:Fr (fun x=>(g<x/\x<g+4)\/d.heap.size<=x) d W):BZ P own H2 w W:=
 ⟨c,hI.fr0 l (fun b h e=>by
  rcases e with ⟨p,o⟩|e
  ·exact h (by have:=m (b-g) (by omega);rwa [show g+(b-g)=b by omega] at this)
  ·have:=hI.lt b h;omega),f.ext,f.fr.trans' l (fun b h e=>by have:=f.fr.size;rcases e with ⟨p,o⟩|e <;> omega),f.sm⟩
def JH (h:HI w own P H) (wf:Wf H) (aY:Ef own) (hc:H.c=3) (id:Int) (k:Sx) (hk:k∈names):VY Tryz.prog 18 #[pw P.g,.int .i64 id,.string ⟨k.toArray⟩] w (Pn P own w (H.get id k)):=by
 have ay:VP w.heap.size w ((((w.alloc (.cells #[.string ⟨k.toArray⟩] 9)).alloc (.cells #[.string ⟨#[]⟩] 9)).alloc (.cells #[.bool Jx] 4)).alloc (.cells #[.nilIface] 41)):=((((VK w.heap.size w).alloc (K0 _) _).alloc (by simp) _).alloc (by simp;omega) _).alloc (by simp;omega) _;have C:Ae ((((w.alloc (.cells #[.string ⟨k.toArray⟩] 9)).alloc (.cells #[.string ⟨#[]⟩] 9)).alloc (.cells #[.bool Jx] 4)).alloc (.cells #[.nilIface] 41)) w.heap.size 9 #[.string ⟨k.toArray⟩]/\
   Ae ((((w.alloc (.cells #[.string ⟨k.toArray⟩] 9)).alloc (.cells #[.string ⟨#[]⟩] 9)).alloc (.cells #[.bool Jx] 4)).alloc (.cells #[.nilIface] 41)) (w.heap.size+1) 9 #[.string ⟨#[]⟩]/\
   Ae ((((w.alloc (.cells #[.string ⟨k.toArray⟩] 9)).alloc (.cells #[.string ⟨#[]⟩] 9)).alloc (.cells #[.bool Jx] 4)).alloc (.cells #[.nilIface] 41)) (w.heap.size+2) 4 #[.bool Jx]/\
   Ae ((((w.alloc (.cells #[.string ⟨k.toArray⟩] 9)).alloc (.cells #[.string ⟨#[]⟩] 9)).alloc (.cells #[.bool Jx] 4)).alloc (.cells #[.nilIface] 41)) (w.heap.size+3) 41 #[.nilIface]:=by
  have n0:=Ae.new w 9 #[.string ⟨k.toArray⟩];have n1:=Ae.new (w.alloc (.cells #[.string ⟨k.toArray⟩] 9)) 9 #[.string ⟨#[]⟩];have n2:=Ae.new ((w.alloc (.cells #[.string ⟨k.toArray⟩] 9)).alloc (.cells #[.string ⟨#[]⟩] 9)) 4 #[.bool Jx];have n3:=Ae.new (((w.alloc (.cells #[.string ⟨k.toArray⟩] 9)).alloc (.cells #[.string ⟨#[]⟩] 9)).alloc (.cells #[.bool Jx] 4)) 41 #[.nilIface];have fa:∀ (W:D0) (o:Obj),Fr (fun _=>False) W (W.alloc o):=fun W o=>(Fr.refl _ W).alloc o
  rw[show(w.alloc (.cells #[.string ⟨k.toArray⟩] 9)).heap.size=w.heap.size+1 by simp] at n1;rw[show((w.alloc (.cells #[.string ⟨k.toArray⟩] 9)).alloc (.cells #[.string ⟨#[]⟩] 9)).heap.size=w.heap.size+2 by simp] at n2;rw[show(((w.alloc (.cells #[.string ⟨k.toArray⟩] 9)).alloc (.cells #[.string ⟨#[]⟩] 9)).alloc (.cells #[.bool Jx] 4)).heap.size=w.heap.size+3 by simp] at n3;exact⟨(fa _ _).ak ((fa _ _).ak ((fa _ _).ak n0 (fun h=>h)) (fun h=>h)) (fun h=>h),(fa _ _).ak ((fa _ _).ak n1 (fun h=>h)) (fun h=>h),(fa _ _).ak n2 (fun h=>h),n3⟩
 have ad:=LH C;have aQ:=LH (HZ.below (Z:=BM) own ay);have ab:=LH (show ∀ j,own (w.heap.size+j)=B0 from fun j=>h.free (Nat.le_add_right _ _));have aT:=LH (Jo (h.below ay) wf aY hc id k hk 1 (.inl rfl));have an:=LH (fun Y H2 (e:H.lock id k 1=(Y,H2)) he=>get_no (H:=H) (H2:=H2) (id:=id) (x:=k) e he);have aa:=LH (fun H2 p (e:H.lock id k 1=(0,H2)) hp=>T9 (H:=H) (H2:=H2) (id:=id) (x:=k) (p:=p) e hp);have a9:=LH (fun H2 (e:H.lock id k 1=(0,H2)) hp=>T8 (H:=H) (H2:=H2) (id:=id) (x:=k) e hp);have aS:=LH (q63 (id:=id) (mode:=1) wf hc hk);have aR:=LH (fun e=>FX (H:=H) (id:=id) (k:=k) (mode:=1) e);have b0:=C.1.cell 0;have bl:=C.1.lt;simp only[Hi,Ft] at b0;clear h ay C wf;unfold pw at *;refine(callsIn_wide (n:=9)).1 ?_;refine callsIn_of_wp_marks Tryz.func18 rfl trivial ?_ rfl;simp only[Tryz.ntmps18,Xo,Wl,XT,Nat.reduceAdd,Nat.reduceSub,YJ,YI,Y8,YT,Xt,XY];refine wpIn_wide.2 ?_;go_upto_region 1 with (fail)
 generalize (World.alloc _ _)=w1 at *;generalize aI:w.heap.size=f at *;have aC:=LH aI;clear aI;go_wp2_with fail;refine aT.o.mono ?_;rintro e q ⟨rfl,aE,az,X⟩;have k0:=Ib X ad.o.1 (by simpa using ab.o 0);have k1:=Ib X ad.o.2.1 (ab.o 1);have k2:=Ib X ad.o.2.2.1 (ab.o 2);have k3:=Ib X ad.o.2.2.2 (ab.o 3);have aB:=LH (aQ.o.trans X);have V:=aS.o;have ah:=aR.o;rcases hr:H.lock id k 1 with ⟨Y,H2⟩
 rw[hr] at az V ah;have au:=an.o Y H2 hr;have al:=LH k0;have a8:=LH k1;have a7:=LH k2;have a6:=LH k3;have d0:=k0.1.cell 0;have d1:=k1.1.cell 0;have d2:=k2.1.cell 0;have d3:=k3.1.cell 0;have e0:=k0.1.lt;have e1:=k1.1.lt;have e2:=k2.1.lt;have e3:=k3.1.lt;have f1:=k1.1.frozen 0;have f2:=k2.1.frozen 0;have f3:=k3.1.frozen 0;simp only[Hi,Ft] at d0 d1 d2 d3;have ac:=LH az;clear az X k0 k1 k2 k3 b0 bl aQ ad ab aT aS aR an;by_cases he:Y=0
 ·subst he;obtain⟨aL,aK⟩:=ah rfl;obtain⟨i,rfl⟩:∃ i:Nat,id=i:=⟨id.toNat,by omega⟩
  have h1:1<=i:=by omega
  have hi:i<=H2.m:=by have e:H2.m=H.m:=V.2.m;omega
  have b3:H2.c=3:=V.2.c.trans hc;have ba:=LH (show ∀ p,(H2.tx i).ad.reverse.find? (fun p=>sx p.key == k)=Bs p->H.get i k=((0,sx p.val,!p.gone),H2) from fun p=>aa.o H2 p hr);have b6:=LH (show(H2.tx i).ad.reverse.find? (fun p=>sx p.key == k)=B0->H.get i k=((0,BP (Cf ((H2.sh (Aa k)).sto k) 1099511627776)),H2) from a9.o H2 hr);rw[show lkV P i k 0=.tuple #[pw (P.gt i),pw (P.gs (Aa k)),.nilIface] from rfl];obtain⟨vt,ag⟩:=ac.o.tx i h1 hi;obtain⟨_,_,m2,_,_,_,_,ml⟩:=ag.cells;obtain⟨A5,c5,aN,bm,aG⟩:=AR ag.ad;have a4:=ag.ad;rw[aN] at m2 a4;have bn:=(V.1.tx i h1 hi).br;have am:=LH a4;have bj:=LH (callsIn_wide.1 (Us X0 1 trivial rfl A5 (H2.tx i).ad.length c5 q));generalize (H2.tx i).ad=L at *;unfold pw;clear hr V ah au aa a9 aL aK aN ag a4 aG;go_wp2_with fail;refine bj.o.mono ?_;rintro e J ⟨rfl,rfl⟩;have aj:VP q.heap.size q (q.alloc (.cells #[.slice A5 L.length c5] 67)):=(VK _ _).alloc (K0 _) _;have ap:Ae (q.alloc (.cells #[.slice A5 L.length c5] 67)) q.heap.size 67 #[.slice A5 L.length c5]:=Ae.new q _ _;have a3:(q.alloc (.cells #[.slice A5 L.length c5] 67)).heap.size=q.heap.size+1:=by simp
  have ak:L.length<=1000:=by omega
  go_wp2_with fail;generalize hA:({ tmps:=_,defers:=[] } : Act)=a0;have HA:=LH hA;have aD:=LH aj;have ax:=ap.cell 0;simp only[Hi,Ft] at ax;have ar:RowB (q.heap.size+1) (q.alloc (.cells #[.slice A5 L.length c5] 67)) A5 L c5:=by
   have aF:=(DG aj).own am.o (fun b O hs=>by have:=(am.o.lt b O).2;omega);rcases aF.2 with ⟨e,en⟩|⟨g,cap,bv,e,_,hg,hn,_,_,bo⟩
   ·injection e with e1 _ e3;exact .inl ⟨e1,List.eq_nil_of_length_eq_zero en,e3⟩
   ·injection e with e1 _ e3;refine .inr ⟨g,0,e1,?_,fun j x hx=>?_⟩
    ·have:=(am.o.lt g (by rw[e1];rfl)).2;omega
    ·obtain⟨hj,_⟩:=List.getElem?_eq_some_iff.1 hx;obtain⟨g',bp,x',eA,_,af,b2⟩:=rat (Rd.ay aF) rfl hj;rw[e1] at eA;injection eA with eA;injection eA with eA eB _;subst eA eB;rw[hx] at af;injection af with af;subst af;exact b2
  have aA:=LH (show ∀ W,VP (q.heap.size+1) (q.alloc (.cells #[.slice A5 L.length c5] 67)) W->(W.cell? ⟨f,0,B0⟩=Bs (.string ⟨k.toArray⟩)/\f<W.heap.size)/\Ae W (f+1) 9 #[.string ⟨#[]⟩]/\Ae W (f+2) 4 #[.bool Jx]/\Ae W (f+3) 41 #[.nilIface] from fun W hW=>by
   have M:=(DG (aj.trans (hW.mono (WT _))))
   have g0:=M.ak al.o.1 (by omega);have c0:=g0.cell 0;simp only[Hi,Ft] at c0;exact⟨⟨c0,g0.lt⟩,M.ak a8.o.1 (by omega),M.ak a7.o.1 (by omega),M.ak a6.o.1 (by omega)⟩)
  generalize aV:q.alloc (.cells #[.slice A5 L.length c5] 67)=J at *;rw[<- a3] at ar aA;have v:=LH a3;clear hA aV ap aj;refine(wpIn_wide (n:=9)).1 ?_;refine wpIn_rangeFunc_ownH (F:=X0) rfl (by omega) (gf:=71) (lb:=#[.pointer (Bs ⟨q.heap.size,0,B0⟩)]) (by rw[<- HA.o];rfl) trivial (enters_of Tryz.func71 (by kernel_rfl) rfl)
   (R4 X0 8 trivial rfl (by omega) q.heap.size J.heap.size c5 A5 L ak J (by rw[a3];omega) (K0 _) ax ar) belowK_t (belowK_b (K0 _)) (VK _ _) (fun _=>rfl)
   (fun G W=>(∀ x∈G,(x.2.key.toList == k)=Jx)/\VP J.heap.size J W)
   (fun c G W=>c=Code.ret/\GIx k f J G W)
   ?hI ?hIx ⟨fun x hx=>(by cases hx),VK _ _⟩
   (fun x a' W=>∃ Bx,J.heap.size<=Bx/\Ae W Bx 45 #[.string x.2.key,.string x.2.val,.bool x.2.gone]/\a' = { tmps:=((a0.tmps.setIfInBounds 30 (.int .i64 x.1)).setIfInBounds 31 (.agg #[.string x.2.key,.string x.2.val,.bool x.2.gone])).setIfInBounds 13 (.pointer (Bs ⟨Bx,0,B0⟩)),defers:=[] })
   ?hAx ?assign ?body ?done ?stop
  case hI=>exact OwnFrom.and (fun s A B aq hs hg hr=>hs) (ownFrom_below (K0 _) (K0 _))
  case hIx=>
   rintro c s A B aq ⟨rfl,ao,x,h1,h2,h3,h4,h5,h6,h7⟩ hg hr;have M:Fr (fun b=>J.heap.size<=b) A B:=Fr.aZ hg (fun r e=>(hr r e).1);have av:f+3<J.heap.size:=by have:=v.o;omega
   exact⟨rfl,ao,x,h1,h2,h3,h4.trans' M (fun b _ e=>.inr e),M.ak h5 (by omega),M.ak h6 (by omega),M.ak h7 (by omega)⟩
  case hAx=>
   rintro x a' u A B aq ⟨Bx,h1,h2,h3⟩ hg hr;refine⟨Bx,h1,?_,h3⟩;have M:Fr (fun b=>aq=Bs b) A B:=Fr.aZ hg (fun r e=>e);refine M.ak h2 (fun e=>?_);obtain⟨_,o,ho,hn⟩:=hr Bx e;rw[show A.heap[Bx]? = _ from h2] at ho;injection ho with ho;rw[<- ho] at hn;cases hn
  case assign=>
   rintro l G x W K ⟨hp,O⟩ d;rw[<- HA.o];unfold bwE;have aZ:=Ae.new W 45 #[.string x.2.key,.string x.2.val,.bool x.2.gone];rw[<- HA.o] at d;gi_wp2;exact d _ _ ((KeepsOthers.alloc _ _).from _) ((VK _ W).alloc O.size _) ⟨hp,O.alloc O.size _⟩ ⟨W.heap.size,O.size,aZ,rfl⟩
  case body=>
   rintro l G x a' W hl bq ⟨hp,O⟩ ⟨Bx,bu,C,rfl⟩ bk;obtain⟨⟨ae,a2⟩,U,S,N⟩:=aA.o W O;have p0:=C.cell 0;have p1:=C.cell 1;have p2:=C.cell 2;have pl:=C.lt;simp only[Hi,Ft,N2] at p0 p1 p2;rw[<- HA.o];cases aH:(x.2.key.toList == k) with
   | false=>
    gi_wp2;refine⟨(KeepsOthers.refl _).from _,VK _ _,fun y hy=>?_,O⟩;rcases List.mem_append.1 hy with hy|hy
    ·exact hp y hy
    ·rw[List.mem_singleton.1 hy];exact aH
   | true=>
    have u1:=U.cell 0;have u2:=S.cell 0;have u3:=N.cell 0;have v1:=U.frozen 0;have v2:=S.frozen 0;have v3:=N.frozen 0;simp only[Hi,Ft] at u1 u2 u3;have av:f+3<J.heap.size:=by have:=v.o;omega
    have m:=LH (show KeepsFrom J.heap.size W (((W.setCell ⟨f+1,0,B0⟩ (.string x.2.val)).setCell ⟨f+2,0,B0⟩ (.bool (!x.2.gone))).setCell ⟨f+3,0,B0⟩ .nilIface).drew/\Code.ret=Code.ret/\GIx k f J (G++[x]) (((W.setCell ⟨f+1,0,B0⟩ (.string x.2.val)).setCell ⟨f+2,0,B0⟩ (.bool (!x.2.gone))).setCell ⟨f+3,0,B0⟩ .nilIface).drew from by
     refine⟨((((KeepsOthers.setCell _ _ _).trans (KeepsOthers.setCell _ _ _)).trans (KeepsOthers.setCell _ _ _)).trans (KeepsOthers.drew _)).from _,rfl,G,x,rfl,hp,aH,?_,?_,?_,?_⟩
     ·exact(((((DG O).mono (T:=fun b=>(f<b/\b<f+4)\/J.heap.size<=b) (fun i _ h=>.inr h)).setCell (p:=⟨f+1,0,B0⟩) (.inl (.inl ⟨by show f<f+1;omega,by show f+1<f+4;omega⟩)) _).setCell (p:=⟨f+2,0,B0⟩) (.inl (.inl ⟨by show f<f+2;omega,by show f+2<f+4;omega⟩)) _).setCell (p:=⟨f+3,0,B0⟩) (.inl (.inl ⟨by show f<f+3;omega,by show f+3<f+4;omega⟩)) _).drew
     ·exact(Fr.a6 (f+3) _ 0 _).ak ((Fr.a6 (f+2) _ 0 _).ak (U.aH 0 (.string x.2.val)) (by omega)) (by omega)
     ·exact(Fr.a6 (f+3) _ 0 _).ak (((Fr.a6 (f+1) _ 0 _).ak S (by omega)).aH 0 (.bool (!x.2.gone))) (by omega)
     ·exact((Fr.a6 (f+2) _ 0 _).ak ((Fr.a6 (f+1) _ 0 _).ak N (by omega)) (by omega)).aH 0 .nilIface)
    gi_wp2;refine wpIn_region_any (by kernel_rfl) ?_;change wpAnyIn _ _ _ _ _ _ _ _ _ (Yo _);refine nV 0 2 (fun K d=>?_) (fun K d=>?_)
    ·go_simp;refine d _ _ ?_;clear d K;refine nV 1 2 (fun K d=>?_) (fun K d=>?_)
     ·go_simp;refine d _ _ ?_;clear d K;refine nV 2 5 (fun K d=>?_) (fun K d=>?_)
      ·go_simp;refine d _ _ ?_;clear d K;refine nV 3 5 (fun K d=>?_) (fun K d=>?_)
       ·go_simp;refine d _ _ ?_;clear d K;refine nV 4 5 (fun K d=>?_) (fun K d=>?_)
        ·go_simp;refine d _ _ ?_;clear d K;refine nU 5 (fun K d=>?_);go_simp;refine d _ _ ?_;clear d K;refine nU 6 (fun K d=>?_);go_simp;refine d _ _ ?_;clear d K;refine nU 7 (fun K d=>?_);go_simp;refine d _ _ ?_;clear d K;refine WV (by kernel_rfl) ?_ _;gi_wp2;exact⟨m.o.1,rfl,m.o.2.2⟩
        ·go_simp;refine d _ _ ?_;clear d K;refine nU 4 (fun K d=>?_);go_simp;refine d _ _ ?_;clear d K;refine nU 6 (fun K d=>?_);go_simp;refine d _ _ ?_;clear d K;refine nU 7 (fun K d=>?_);go_simp;refine d _ _ ?_;clear d K;refine WV (by kernel_rfl) ?_ _;gi_wp2;exact⟨m.o.1,rfl,m.o.2.2⟩
       ·go_simp;refine d _ _ ?_;clear d K;refine nU 3 (fun K d=>?_);go_simp;refine d _ _ ?_;clear d K;refine nU 4 (fun K d=>?_);go_simp;refine d _ _ ?_;clear d K;refine nU 6 (fun K d=>?_);go_simp;refine d _ _ ?_;clear d K;refine nU 7 (fun K d=>?_);go_simp;refine d _ _ ?_;clear d K;refine WV (by kernel_rfl) ?_ _;gi_wp2;exact⟨m.o.1,rfl,m.o.2.2⟩
      ·go_simp;refine d _ _ ?_;clear d K;refine nU 2 (fun K d=>?_);go_simp;refine d _ _ ?_;clear d K;refine nU 3 (fun K d=>?_);go_simp;refine d _ _ ?_;clear d K;refine nU 4 (fun K d=>?_);go_simp;refine d _ _ ?_;clear d K;refine nU 6 (fun K d=>?_);go_simp;refine d _ _ ?_;clear d K;refine nU 7 (fun K d=>?_);go_simp;refine d _ _ ?_;clear d K;refine WV (by kernel_rfl) ?_ _;gi_wp2;exact⟨m.o.1,rfl,m.o.2.2⟩
     ·go_simp;refine d _ _ ?_;clear d K;refine nV 1 3 (fun K d=>?_) (fun K d=>?_)
      ·go_simp;refine d _ _ ?_;clear d K;refine nV 3 5 (fun K d=>?_) (fun K d=>?_)
       ·go_simp;refine d _ _ ?_;clear d K;refine nV 4 5 (fun K d=>?_) (fun K d=>?_)
        ·go_simp;refine d _ _ ?_;clear d K;refine nU 5 (fun K d=>?_);go_simp;refine d _ _ ?_;clear d K;refine nU 6 (fun K d=>?_);go_simp;refine d _ _ ?_;clear d K;refine nU 7 (fun K d=>?_);go_simp;refine d _ _ ?_;clear d K;refine WV (by kernel_rfl) ?_ _;gi_wp2;exact⟨m.o.1,rfl,m.o.2.2⟩
        ·go_simp;refine d _ _ ?_;clear d K;refine nU 4 (fun K d=>?_);go_simp;refine d _ _ ?_;clear d K;refine nU 6 (fun K d=>?_);go_simp;refine d _ _ ?_;clear d K;refine nU 7 (fun K d=>?_);go_simp;refine d _ _ ?_;clear d K;refine WV (by kernel_rfl) ?_ _;gi_wp2;exact⟨m.o.1,rfl,m.o.2.2⟩
       ·go_simp;refine d _ _ ?_;clear d K;refine nU 3 (fun K d=>?_);go_simp;refine d _ _ ?_;clear d K;refine nU 4 (fun K d=>?_);go_simp;refine d _ _ ?_;clear d K;refine nU 6 (fun K d=>?_);go_simp;refine d _ _ ?_;clear d K;refine nU 7 (fun K d=>?_);go_simp;refine d _ _ ?_;clear d K;refine WV (by kernel_rfl) ?_ _;gi_wp2;exact⟨m.o.1,rfl,m.o.2.2⟩
      ·go_simp;refine d _ _ ?_;clear d K;refine nV 1 4 (fun K d=>?_) (fun K d=>?_)
       ·go_simp;refine d _ _ ?_;clear d K;refine nV 4 5 (fun K d=>?_) (fun K d=>?_)
        ·go_simp;refine d _ _ ?_;clear d K;refine nU 5 (fun K d=>?_);go_simp;refine d _ _ ?_;clear d K;refine nU 6 (fun K d=>?_);go_simp;refine d _ _ ?_;clear d K;refine nU 7 (fun K d=>?_);go_simp;refine d _ _ ?_;clear d K;refine WV (by kernel_rfl) ?_ _;gi_wp2;exact⟨m.o.1,rfl,m.o.2.2⟩
        ·go_simp;refine d _ _ ?_;clear d K;refine nU 4 (fun K d=>?_);go_simp;refine d _ _ ?_;clear d K;refine nU 6 (fun K d=>?_);go_simp;refine d _ _ ?_;clear d K;refine nU 7 (fun K d=>?_);go_simp;refine d _ _ ?_;clear d K;refine WV (by kernel_rfl) ?_ _;gi_wp2;exact⟨m.o.1,rfl,m.o.2.2⟩
       ·go_simp;refine d _ _ ?_;clear d K;refine nU 1 (fun K d=>?_);go_simp;refine d _ _ ?_;clear d K;refine nU 5 (fun K d=>?_);go_simp;refine d _ _ ?_;clear d K;refine nU 6 (fun K d=>?_);go_simp;refine d _ _ ?_;clear d K;refine nU 7 (fun K d=>?_);go_simp;refine d _ _ ?_;clear d K;refine WV (by kernel_rfl) ?_ _;gi_wp2;exact⟨m.o.1,rfl,m.o.2.2⟩
    ·go_simp;refine d _ _ ?_;clear d K;refine nV 0 3 (fun K d=>?_) (fun K d=>?_)
     ·go_simp;refine d _ _ ?_;clear d K;refine nV 1 3 (fun K d=>?_) (fun K d=>?_)
      ·go_simp;refine d _ _ ?_;clear d K;refine nV 3 5 (fun K d=>?_) (fun K d=>?_)
       ·go_simp;refine d _ _ ?_;clear d K;refine nV 4 5 (fun K d=>?_) (fun K d=>?_)
        ·go_simp;refine d _ _ ?_;clear d K;refine nU 5 (fun K d=>?_);go_simp;refine d _ _ ?_;clear d K;refine nU 6 (fun K d=>?_);go_simp;refine d _ _ ?_;clear d K;refine nU 7 (fun K d=>?_);go_simp;refine d _ _ ?_;clear d K;refine WV (by kernel_rfl) ?_ _;gi_wp2;exact⟨m.o.1,rfl,m.o.2.2⟩
        ·go_simp;refine d _ _ ?_;clear d K;refine nU 4 (fun K d=>?_);go_simp;refine d _ _ ?_;clear d K;refine nU 6 (fun K d=>?_);go_simp;refine d _ _ ?_;clear d K;refine nU 7 (fun K d=>?_);go_simp;refine d _ _ ?_;clear d K;refine WV (by kernel_rfl) ?_ _;gi_wp2;exact⟨m.o.1,rfl,m.o.2.2⟩
       ·go_simp;refine d _ _ ?_;clear d K;refine nU 3 (fun K d=>?_);go_simp;refine d _ _ ?_;clear d K;refine nU 4 (fun K d=>?_);go_simp;refine d _ _ ?_;clear d K;refine nU 6 (fun K d=>?_);go_simp;refine d _ _ ?_;clear d K;refine nU 7 (fun K d=>?_);go_simp;refine d _ _ ?_;clear d K;refine WV (by kernel_rfl) ?_ _;gi_wp2;exact⟨m.o.1,rfl,m.o.2.2⟩
      ·go_simp;refine d _ _ ?_;clear d K;refine nV 1 4 (fun K d=>?_) (fun K d=>?_)
       ·go_simp;refine d _ _ ?_;clear d K;refine nV 4 5 (fun K d=>?_) (fun K d=>?_)
        ·go_simp;refine d _ _ ?_;clear d K;refine nU 5 (fun K d=>?_);go_simp;refine d _ _ ?_;clear d K;refine nU 6 (fun K d=>?_);go_simp;refine d _ _ ?_;clear d K;refine nU 7 (fun K d=>?_);go_simp;refine d _ _ ?_;clear d K;refine WV (by kernel_rfl) ?_ _;gi_wp2;exact⟨m.o.1,rfl,m.o.2.2⟩
        ·go_simp;refine d _ _ ?_;clear d K;refine nU 4 (fun K d=>?_);go_simp;refine d _ _ ?_;clear d K;refine nU 6 (fun K d=>?_);go_simp;refine d _ _ ?_;clear d K;refine nU 7 (fun K d=>?_);go_simp;refine d _ _ ?_;clear d K;refine WV (by kernel_rfl) ?_ _;gi_wp2;exact⟨m.o.1,rfl,m.o.2.2⟩
       ·go_simp;refine d _ _ ?_;clear d K;refine nU 1 (fun K d=>?_);go_simp;refine d _ _ ?_;clear d K;refine nU 5 (fun K d=>?_);go_simp;refine d _ _ ?_;clear d K;refine nU 6 (fun K d=>?_);go_simp;refine d _ _ ?_;clear d K;refine nU 7 (fun K d=>?_);go_simp;refine d _ _ ?_;clear d K;refine WV (by kernel_rfl) ?_ _;gi_wp2;exact⟨m.o.1,rfl,m.o.2.2⟩
     ·go_simp;refine d _ _ ?_;clear d K;refine nV 0 4 (fun K d=>?_) (fun K d=>?_)
      ·go_simp;refine d _ _ ?_;clear d K;refine nV 1 4 (fun K d=>?_) (fun K d=>?_)
       ·go_simp;refine d _ _ ?_;clear d K;refine nV 4 5 (fun K d=>?_) (fun K d=>?_)
        ·go_simp;refine d _ _ ?_;clear d K;refine nU 5 (fun K d=>?_);go_simp;refine d _ _ ?_;clear d K;refine nU 6 (fun K d=>?_);go_simp;refine d _ _ ?_;clear d K;refine nU 7 (fun K d=>?_);go_simp;refine d _ _ ?_;clear d K;refine WV (by kernel_rfl) ?_ _;gi_wp2;exact⟨m.o.1,rfl,m.o.2.2⟩
        ·go_simp;refine d _ _ ?_;clear d K;refine nU 4 (fun K d=>?_);go_simp;refine d _ _ ?_;clear d K;refine nU 6 (fun K d=>?_);go_simp;refine d _ _ ?_;clear d K;refine nU 7 (fun K d=>?_);go_simp;refine d _ _ ?_;clear d K;refine WV (by kernel_rfl) ?_ _;gi_wp2;exact⟨m.o.1,rfl,m.o.2.2⟩
       ·go_simp;refine d _ _ ?_;clear d K;refine nU 1 (fun K d=>?_);go_simp;refine d _ _ ?_;clear d K;refine nU 5 (fun K d=>?_);go_simp;refine d _ _ ?_;clear d K;refine nU 6 (fun K d=>?_);go_simp;refine d _ _ ?_;clear d K;refine nU 7 (fun K d=>?_);go_simp;refine d _ _ ?_;clear d K;refine WV (by kernel_rfl) ?_ _;gi_wp2;exact⟨m.o.1,rfl,m.o.2.2⟩
      ·go_simp;refine d _ _ ?_;clear d K;refine nU 0 (fun K d=>?_);go_simp;refine d _ _ ?_;clear d K;refine nU 1 (fun K d=>?_);go_simp;refine d _ _ ?_;clear d K;refine nU 5 (fun K d=>?_);go_simp;refine d _ _ ?_;clear d K;refine nU 6 (fun K d=>?_);go_simp;refine d _ _ ?_;clear d K;refine nU 7 (fun K d=>?_);go_simp;refine d _ _ ?_;clear d K;refine WV (by kernel_rfl) ?_ _;gi_wp2;exact⟨m.o.1,rfl,m.o.2.2⟩
  case stop=>
   rintro D c G W hD ⟨j,hj,rfl⟩ ⟨rfl,ao,x,e1,e2,e3,M,q1,q2,q3⟩ d;rw[J3] at e1;obtain⟨e4,e5⟩:=List.append_inj' e1 rfl;injection e5 with e5;subst e4 e5;have ai:=Uo (p:=fun p=>sx p.key == k) hj (fun y hy=>by rw[<- q59];exact e2 y hy) (by rw[<- q59];exact e3);have HG:=LH (ba.o _ ai);have aw:W.heap.size > D:=(Array.getElem?_eq_some_iff.1 d).1;have t:Fr (fun b=>J.heap.size<=b) W (W.putObj D (.deferred B0)):=Fr.aZ (grownBy_putObj' W D (.deferred B0)) (fun r e=>by cases e;exact hD);have b5:Fr (fun b=>(f<b/\b<f+4)\/q.heap.size<=b) q (W.putObj D (.deferred B0)):=by
    have a1:Fr (fun b=>(f<b/\b<f+4)\/q.heap.size<=b) q J:=(DG aD.o).mono (fun b _ h=>.inr h);exact(a1.trans' M (fun b _ h=>h.imp id (fun h=>by have:=v.o;omega))).trans' t (fun b _ h=>.inr (by have:=v.o;omega))
   have hG:=BZ.boxes (g:=f) ac.o aB.o (fun j hj=>by
    have:j=0\/j=1\/j=2\/j=3:=by omega
    rcases this with rfl|rfl|rfl|rfl
    ·exact al.o.2
    ·exact a8.o.2
    ·exact a7.o.2
    ·exact a6.o.2) (by have:=aC.o;omega) b5
   have av:f+3<J.heap.size:=by have:=v.o;omega
   have g1:=(t.ak q1 (by omega)).cell 0;have g2:=(t.ak q2 (by omega)).cell 0;have g3:=(t.ak q3 (by omega)).cell 0;rw[<- HA.o];gi_wp2;refine⟨by simp,.inl ⟨_,_,rfl,run_takeDeferred d,?_⟩⟩;refine⟨_,He rfl rfl rfl g1 g2 g3,?_⟩;unfold Pn;rw[HG.o];exact⟨by show Ending.returned (Value.tuple #[.string _,.bool _,.nilIface])=Ending.returned (Value.tuple #[.string ⟨(sx _).toArray⟩,.bool _,CD 0]);rw[Jl];rfl,hG⟩
  case done=>
   rintro D ys W hD rfl ⟨hp,O⟩ d;have ai:=Up (p:=fun p=>sx p.key == k) (fun y hy=>by rw[<- q59];exact hp y hy);have HG:=LH (b6.o ai);have aw:W.heap.size > D:=(Array.getElem?_eq_some_iff.1 d).1;obtain⟨⟨ae,a2⟩,U,S,N⟩:=aA.o W O;rw[<- HA.o];have aO:HI W aE P H2:=ac.o.below (aD.o.trans (O.mono (by have:=v.o;omega)));have bg:=LH (RE (aO.below (VK W.heap.size W).drew) (s:=Aa k) (by rw[b3];have:=E4 k;omega) k (Ea hk));have aP:Fr (fun b=>(f<b/\b<f+4)\/q.heap.size<=b) q W:=((DG aD.o).mono (T:=fun b=>(f<b/\b<f+4)\/q.heap.size<=b) (fun b _ h=>.inr h)).trans' (DG O) (fun b _ h=>.inr (by have:=v.o;omega));have aU:=LH aP;have bf:=LH U;have be:=LH S;have bd:=LH N;have av:f+3<W.heap.size:=N.lt;have b1:f+3<q.heap.size:=e3;have bc:=LH d;generalize aX:BP (Cf ((H2.sh (Aa k)).sto k) 1099511627776)=R at *;clear aO aP aX ai U S N d0 d1 d2 d3 e0 e1 e2 e3 f1 f2 f3 m2 ml hp O ax ar am d;go_upto_region 8 with (fail)
   refine Ku ?_;refine nW ?_;refine CF (fun W'=>W'.cell? ⟨f,0,B0⟩=Bs (.string ⟨k.toArray⟩)/\f<W'.heap.size) 8 (fun c _ _ _ _ h=>absurd rfl (h.2 c)) (fun I=>?_);have E:W.drew.cell? ⟨f,0,B0⟩=Bs (.string ⟨k.toArray⟩)/\f<W.drew.heap.size:=⟨ae,a2⟩
   refine nD 0 [1,2,4,5,6,7,8,9,10] I E ?_;refine nD 1 [2,4,5,6,7,8,9,10] I E ?_;refine nD 2 [4,5,6,7,8,9,10] I E ?_;refine nA 3 [4,5,6,7,8,9,10] rfl rfl I E (fun w' aW=>by obtain⟨p1,pl⟩:=aW;go_simp;rfl) ?_;refine nG 4 (fun KK d=>?_);go_simp;refine bg.o.mono ?_;rintro e w5 ⟨rfl,aM⟩;have z:VP W.heap.size W w5:=(VK W (B:=W.heap.size)).drew.trans aM;have a5:=DG z;have C5:=LH (show w5.cell? ⟨f,0,B0⟩=Bs (.string ⟨k.toArray⟩)/\f<w5.heap.size from⟨(z.cell (p:=⟨f,0,B0⟩) a2).trans ae,VL a2 z.size⟩);have g1:=a5.ak bf.o (by omega);have g2:=a5.ak be.o (by omega);have g3:=a5.ak bd.o (by omega);have u1:=g1.cell 0;have u2:=g2.cell 0;have u3:=g3.cell 0;have v1:=g1.frozen 0;have v2:=g2.frozen 0;have v3:=g3.frozen 0;simp only[Hi,Ft] at u1 u2 u3;have l1:=g1.lt;have l2:=g2.lt;have l3:=g3.lt;have hS:Fr (fun b=>(f<b/\b<f+4)\/q.heap.size<=b) q (((w5.setCell ⟨f+1,0,B0⟩ (.string ⟨R.1.toArray⟩)).setCell ⟨f+2,0,B0⟩ (.bool R.2)).setCell ⟨f+3,0,B0⟩ .nilIface):=
    (((aU.o.trans' a5 (fun b br h=>absurd h (by have:=aU.o.size;omega))).setCell (p:=⟨f+1,0,B0⟩) (.inl (.inl ⟨by show f<f+1;omega,by show f+1<f+4;omega⟩)) _).setCell (p:=⟨f+2,0,B0⟩) (.inl (.inl ⟨by show f<f+2;omega,by show f+2<f+4;omega⟩)) _).setCell (p:=⟨f+3,0,B0⟩) (.inl (.inl ⟨by show f<f+3;omega,by show f+3<f+4;omega⟩)) _
   have r1:=(Fr.a6 (f+3) _ 0 .nilIface).ak ((Fr.a6 (f+2) _ 0 (.bool R.2)).ak (g1.aH 0 (.string ⟨R.1.toArray⟩)) (by omega)) (by omega);have r2:=(Fr.a6 (f+3) _ 0 .nilIface).ak (((Fr.a6 (f+1) _ 0 (.string ⟨R.1.toArray⟩)).ak g2 (by omega)).aH 0 (.bool R.2)) (by omega);have r3:=((Fr.a6 (f+2) _ 0 (.bool R.2)).ak ((Fr.a6 (f+1) _ 0 (.string ⟨R.1.toArray⟩)).ak g3 (by omega)) (by omega)).aH 0 .nilIface;have aJ:(((w5.setCell ⟨f+1,0,B0⟩ (.string ⟨R.1.toArray⟩)).setCell ⟨f+2,0,B0⟩ (.bool R.2)).setCell ⟨f+3,0,B0⟩ .nilIface).heap[D]? = Bs (.deferred (Bs [])):=by
    have b4:Fr (fun b=>f<b/\b<f+4) w5 (((w5.setCell ⟨f+1,0,B0⟩ (.string ⟨R.1.toArray⟩)).setCell ⟨f+2,0,B0⟩ (.bool R.2)).setCell ⟨f+3,0,B0⟩ .nilIface):=
     (((Fr.refl _ w5).setCell (p:=⟨f+1,0,B0⟩) (.inl ⟨by show f<f+1;omega,by show f+1<f+4;omega⟩) _).setCell (p:=⟨f+2,0,B0⟩) (.inl ⟨by show f<f+2;omega,by show f+2<f+4;omega⟩) _).setCell (p:=⟨f+3,0,B0⟩) (.inl ⟨by show f<f+3;omega,by show f+3<f+4;omega⟩) _
    rw[b4.block D (VL aw z.size) (by have:=v.o;omega),z.block D aw];exact bc.o
   have HS:=LH hS;have b9:=LH r1;have b8:=LH r2;have b7:=LH r3;have bb:=LH aJ;clear hS r1 r2 r3 aJ g1 g2 g3 a5 aM z;have E:w5.cell? ⟨f,0,B0⟩=Bs (.string ⟨k.toArray⟩)/\f<w5.heap.size:=C5.o;go_simp;refine d _ _ (fun _=>C5.o) ?_;clear d KK;refine nD 5 [8,9,10] I E ?_;refine nD 6 [8,9,10] I E ?_;refine nD 7 [8,9,10] I E ?_;refine nG 8 (fun KK d=>?_);go_simp;refine d _ _ nZ ?_;clear d KK;refine nG 9 (fun KK d=>?_);go_simp;refine d _ _ nZ ?_;clear d KK;refine nG 10 (fun KK d=>?_);go_simp;refine d _ _ nZ ?_;clear d KK;refine nX ?_;refine⟨?_,fun c h=>by cases h⟩;clear I u1 u2 u3 v1 v2 v3 l1 l2 l3 E ae a2;go_wp2_with fail;have t:Fr (fun b=>b=D) _ (World.putObj _ D (.deferred B0)):=Fr.aZ (grownBy_putObj' (((w5.setCell ⟨f+1,0,B0⟩ (.string ⟨R.1.toArray⟩)).setCell ⟨f+2,0,B0⟩ (.bool R.2)).setCell ⟨f+3,0,B0⟩ .nilIface) D (.deferred B0)) (fun r e=>by cases e;rfl);have bt:f+3<D:=by have:=v.o;omega
   have hG:=BZ.boxes (g:=f) ac.o aB.o (fun j hj=>by
    have:j=0\/j=1\/j=2\/j=3:=by omega
    rcases this with rfl|rfl|rfl|rfl
    ·exact al.o.2
    ·exact a8.o.2
    ·exact a7.o.2
    ·exact a6.o.2) (by have:=aC.o;omega) (HS.o.trans' t (fun b _ (h:b=D)=>.inr (by have:=v.o;omega)))
   have g1:=(t.ak b9.o (by omega)).cell 0;have g2:=(t.ak b8.o (by omega)).cell 0;have g3:=(t.ak b7.o (by omega)).cell 0;refine⟨by simp,.inl ⟨_,_,rfl,run_takeDeferred bb.o,?_⟩⟩;refine⟨_,He rfl rfl rfl g1 g2 g3,?_⟩;unfold Pn;rw[HG.o];exact⟨rfl,hG⟩
 ·rw[show lkV P id k Y=.tuple #[.pointer B0,.pointer B0,.iface 79 (.int .i64 Y)] from by unfold lkV;rw[if_neg he]];have M:Fr (fun x=>(f<x/\x<f+4)\/q.heap.size<=x) q (((q.setCell ⟨f+1,0,B0⟩ (.string ⟨#[]⟩)).setCell ⟨f+2,0,B0⟩ (.bool Jx)).setCell ⟨f+3,0,B0⟩ (.iface 79 (.int .i64 Y))):=
   (((Fr.refl _ q).setCell (p:=⟨f+1,0,B0⟩) (.inl (.inl ⟨by show f<f+1;omega,by show f+1<f+4;omega⟩)) _).setCell (p:=⟨f+2,0,B0⟩) (.inl (.inl ⟨by show f<f+2;omega,by show f+2<f+4;omega⟩)) _).setCell (p:=⟨f+3,0,B0⟩) (.inl (.inl ⟨by show f<f+3;omega,by show f+3<f+4;omega⟩)) _
  have hG:=BZ.boxes (g:=f) ac.o aB.o (fun j hj=>by
   have:j=0\/j=1\/j=2\/j=3:=by omega
   rcases this with rfl|rfl|rfl|rfl
   ·exact al.o.2
   ·exact a8.o.2
   ·exact a7.o.2
   ·exact a6.o.2) (by have:=aC.o;omega) M
  have bh:=LH hG;have q1:=((Fr.a6 (f+3) _ 0 (.iface 79 (.int .i64 Y))).ak ((Fr.a6 (f+2) _ 0 (.bool Jx)).ak (a8.o.1.aH 0 (.string ⟨#[]⟩)) (by omega)) (by omega)).cell 0;have q2:=((Fr.a6 (f+3) _ 0 (.iface 79 (.int .i64 Y))).ak (((Fr.a6 (f+1) _ 0 (.string ⟨#[]⟩)).ak a7.o.1 (by omega)).aH 0 (.bool Jx)) (by omega)).cell 0;have q3:=(((Fr.a6 (f+2) _ 0 (.bool Jx)).ak ((Fr.a6 (f+1) _ 0 (.string ⟨#[]⟩)).ak a6.o.1 (by omega)) (by omega)).aH 0 (.iface 79 (.int .i64 Y))).cell 0;have Q1:=LH q1;have Q2:=LH q2;have Q3:=LH q3;have an:=LH (au he);have bi:=LH (show CD Y=.iface 79 (.int .i64 Y) from by unfold CD;rw[if_neg he]);clear M hG q1 q2 q3 hr V ah au aa a9 he;go_wp2_with fail;refine⟨_,He rfl rfl rfl Q1.o Q2.o Q3.o,?_⟩;unfold Pn;rw[an.o];exact⟨by rw[bi.o];rfl,bh.o⟩
end
end
section
variable {w w':D0} {own own':Ah} {P:Aq} {H:Hs}
def AB.none_ {base c:Nat} (l:Ae w g d f) (m:f[c]? = Bs (.map B0)) (j:d≠168/\d≠166) (o:base<=w.heap.size) (e:Sx->Ar) :
  AB w base n g c d f B0 e (fun _=>B0):=
 ⟨l,m,fun _=>rfl,fun x k h=>(by cases h),fun x y _ h=>absurd rfl h,fun x h=>absurd rfl h,j,fun b h=>(by cases h),fun x h=>absurd rfl h,o⟩
def BY.none_ {base c:Nat} {e:TypeId} {d:Array O0} (m:Ae w g e d) (p:d[c]? = Bs (.map B0)) (o:d[c+1]? = Bs (.int .i64 0)) (j:e≠145) (l:base<=g) (f:Sx->O0) :
  BY w base n g c e d B0 f (fun _=>[]) 0:=
 ⟨m,p,o,j,fun _=>rfl,fun x h=>absurd rfl h,fun x y _ h=>absurd rfl h,fun x h=>absurd rfl h,fun x v h=>(by cases h),fun x=>Yk,fun x=>VN _,WD _,by decide,fun b h=>(by cases h),l⟩
def DP.reset {gn:Nat->Nat} {v:Nt} {x:Bm} (h:DP w own n s g gn v x) (f:Ae w' g 105 (FG { v with mt:=B0,ms:=B0 } { x with tab:=fun _=>B0,sto:=fun _=>[],done:=0 })) (l:Fr (fun k=>k=g) w w') :
  DP w' own n s g gn { v with mt:=B0,ms:=B0 } { x with tab:=fun _=>B0,sto:=fun _=>[],done:=0 }:=by
 have c:=h.gt;have o:¬v.bd=g:=fun e=>by have:=h.cI;rw[e,c] at this;cases this
 have m:∀ b,v.Vn.ownBlock=Bs b->¬b=g:=fun b f e=>by have:=h.b6 b f;rw[e,c] at this;cases this
 refine⟨l.own h.row m,h.b6,h.dd.fr l o,h.cI,AB.none_ f rfl ⟨by decide,by decide⟩ (VN _) _,fun b d=>?_,BY.none_ f rfl rfl (by decide) (VN _) _,fun b d=>?_,c⟩
 ·rcases d with h|⟨x,j,_⟩
  ·cases h
  ·exact absurd rfl j
 ·rcases d with h|⟨x,j,_⟩
  ·cases h
  ·exact absurd rfl j
def HI.de (h:HI w own P H) (d:x'.nd=(H.sh s).nd) {v:Nt} (j:DP w own H.n s (P.gs s) (P.gn s) v (H.sh s)) (f:Fr (fun k=>k=P.gs s) w w') (g:DP w' own H.n s (P.gs s) (P.gn s) v' x') :
  HI w' own P (H.ar s x')/\Ay w own w' own:=by
 have c:Fr (OS own (CZ s)) w w':=f.mono (fun b _ e=>⟨_,by rw[e];exact j.gt,.inl rfl⟩);exact⟨h.setSh' d c (Ext.refl own _) (fun b l=>VL (h.lt b l) f.size) ⟨v',g⟩,⟨Ext.refl own _,GQ c (fun _=>Fu),fun _ _ h=>h⟩⟩
def HI.setEp (h:HI w own P H) (hs:s<H.c) (e:Int):HI (w.setCell ⟨P.gs s,2,B0⟩ (.int .i64 e)) own P (H.ar s { H.sh s with aa:=e })/\Ay w own (w.setCell ⟨P.gs s,2,B0⟩ (.int .i64 e)) own:=by
 obtain⟨v,b⟩:=h.sh s hs;exact h.de rfl b (Fr.a6 _ w 2 _) (v':=v) (b.cf (by simpa [FG] using b.tab.ak.aH 2 (.int .i64 e)) (Fr.a6 _ w 2 _) rfl rfl rfl)
def HI.setSz (h:HI w own P H) (hs:s<H.c) (e:Int):HI (w.setCell ⟨P.gs s,3,B0⟩ (.int .i64 e)) own P (H.ar s { H.sh s with size:=e })/\Ay w own (w.setCell ⟨P.gs s,3,B0⟩ (.int .i64 e)) own:=by
 obtain⟨v,b⟩:=h.sh s hs;exact h.de rfl b (Fr.a6 _ w 3 _) (v':=v) (b.cf (by simpa [FG] using b.tab.ak.aH 3 (.int .i64 e)) (Fr.a6 _ w 3 _) rfl rfl rfl)
def qbf (w:D0) (g:Nat):D0:=(((w.setCell ⟨g,4,B0⟩ (.map B0)).setCell ⟨g,5,B0⟩ (.map B0)).setCell ⟨g,6,B0⟩ (.int .i64 0)).setCell ⟨g,7,B0⟩ (.int .i64 0)
def HI.reset (h:HI w own P H) {s:Nat} (hs:s<H.c):HI (qbf w (P.gs s)) own P (H.ar s { H.sh s with tab:=fun _=>B0,sto:=fun _=>[],done:=0 })/\Ay w own (qbf w (P.gs s)) own:=by
 obtain⟨v,b⟩:=h.sh s hs;have c:Fr (fun k=>k=P.gs s) w (qbf w (P.gs s)):=(((Fr.a6 (P.gs s) w 4 _).trans (Fr.a6 (P.gs s) _ 5 _)).trans (Fr.a6 (P.gs s) _ 6 _)).trans (Fr.a6 (P.gs s) _ 7 _);exact h.de rfl b c (v':={ v with mt:=B0,ms:=B0 }) (b.reset (by simpa [FG,qbf] using (((b.tab.ak.aH 4 (.map B0)).aH 5 (.map B0)).aH 6 (.int .i64 0)).aH 7 (.int .i64 0)) c)
def HI.bH (h:HI w own P H) (hs:s<H.c):∃ v:Nt,w.cell? ⟨P.gs s,2,B0⟩=Bs (.int .i64 (H.sh s).aa)/\w.cell? ⟨P.gs s,3,B0⟩=Bs (.int .i64 (H.sh s).size)/\w.cell? ⟨P.gs s,4,B0⟩=Bs (.map v.mt)/\w.cell? ⟨P.gs s,5,B0⟩=Bs (.map v.ms)/\w.cell? ⟨P.gs s,6,B0⟩=Bs (.int .i64 0)/\w.cell? ⟨P.gs s,7,B0⟩=Bs (.int .i64 (H.sh s).done)/\
  (∀ o,w.frozen? ⟨P.gs s,o,B0⟩=Jx)/\P.gs s<w.heap.size:=by
 obtain⟨v,l⟩:=h.sh s hs;have b:=l.tab.ak;have j:=b.cell 2;have g:=b.cell 3;have f:=b.cell 4;have e:=b.cell 5;have d:=b.cell 6;have c:=b.cell 7;unfold FG at j g f e d c;simp only[Hi,Ft,N2] at j g f e d c;exact⟨v,j,g,f,e,d,c,b.frozen,b.lt⟩
end
def Sy (H:Hs) (s b:Nat) (l:List Nat) (e:Int) (w:D0) (v:O0) (wr:D0):Prop:=
 ∃ (q:Nat) (V:O0),v=.int .i64 q/\q<=l.length/\Ae wr b 148 #[.int .i64 e,V]/\wr.ownsRow (b+1) 3 1 V q ((l.take q).map fun j=>.int .i64 ((H.sh s).nd j).id)/\VP b w wr
def FiB (P:Aq) (own:Ah) (H:Hs) (s:Nat) (ids:List Int) (l:List Nat) (w:D0) (v:O0) (wr:D0):Prop:=
 ∃ q:Nat,v=.int .i64 q/\q<=l.length/\BZ P own ((l.take q).foldl (Hs.a5 s ids) H) w wr
def LN {ids:List Int} {H:Hs} {l:List Nat} {q:Nat} (h:l[q]? = Bs j):(l.take (q+1)).foldl (Hs.a5 s ids) H=Hs.a5 s ids ((l.take q).foldl (Hs.a5 s ids) H) j:=by
 rw[VX,h,WQ];rfl
def JA {s:Nat} {ids:List Int} : ∀ (l:List Nat) (H:Hs) {j:Nat},j ∉ l->((l.foldl (Hs.a5 s ids) H).sh s).nd j=(H.sh s).nd j/\((l.foldl (Hs.a5 s ids) H).sh s).aa=(H.sh s).aa
 | [],_,_,_=>⟨rfl,rfl⟩
 | a::l,H,j,hj=>by
  obtain⟨c,b⟩:=JA l (Hs.a5 s ids H a) (fun h=>hj (VI _ h));have e:(Hs.a5 s ids H a).sh s = { H.sh s with nd:=Af (H.sh s).nd a (((H.sh s).nd a).join (H.sh s).aa ids).tick.1 }:=An _ _ _;refine⟨c.trans ?_,b.trans (by rw[e])⟩;rw[e];exact As (fun e=>hj (by rw[e];exact VH)) _
def OW {H:Hs} (d:Wf H) (hs:s<H.c):((H.sh s).ids H.n).Nodup:=by
 unfold Bm.ids List.Nodup;rw[W8];have h:((H.sh s).ah H.n).Nodup:=X6 _ List.nodup_range;refine List.Pairwise.imp_of_mem (fun {a b} g f c e=>c ?_) h;rw[(d.nd s a hs (UX g)).id,(d.nd s b hs (UX f)).id] at e;omega
def EH (H:Hs) (s:Nat) (e:Int) (n:Nat):Hs:=H.ar s { H.sh s with aa:=e,size:=n }
def RO (H:Hs) (s:Nat):H.bh s=(((((H.sh s).ah H.n).foldl (Hs.a5 s ((H.sh s).ids H.n)) (EH H s (Xn ((H.sh s).aa+1)) ((H.sh s).ah H.n).length)).ar s { (((H.sh s).ah H.n).foldl (Hs.a5 s ((H.sh s).ids H.n)) (EH H s (Xn ((H.sh s).aa+1)) ((H.sh s).ah H.n).length)).sh s with tab:=fun _=>B0,sto:=fun _=>[],done:=0 })).take s:=rfl
section
variable {w w':D0} {own own':Ah} {P:Aq} {H:Hs}
def JI (h:HI w own P H) (wf:Wf H) (hs:s<H.c) (he:∀ j∈(H.sh s).ah H.n,((H.sh s).nd j).aa<Xn ((H.sh s).aa+1)) :
  VY Tryz.prog 45 #[pw P.g,pw (P.gs s)] w fun e w'=>e=.returned (.tuple #[])/\BZ P own (H.fix s) w w':=by
 have HH:=LH h;have aH:=LH wf;have bJ:=wf.n4;have bM:=wf.c3;have HL:=LH (q5h h wf hs);have bL:=U3 (H.sh s) H.n;have HM:=LH (fun j (hj:j∈(H.sh s).ah H.n)=>UX hj);have bE:=LH (RO H s);have bf:=LH (show(H.sh s).ah H.n=[]->H.fix s=H from fun e=>by unfold Hs.fix;rw[if_pos e]);have be:=LH (show(H.sh s).ah H.n≠[]->H.fix s=H.bh s from fun e=>by unfold Hs.fix;rw[if_neg e]);have a8:=LH (wf.ids hs);have bw:=LH (OW wf hs);have aJ:=LH (show(H.sh s).ids H.n=((H.sh s).ah H.n).map (fun j=>((H.sh s).nd j).id) from rfl);have bv:=LH (show((H.sh s).ah H.n).Nodup from X6 _ List.nodup_range);have HE:=LH he;unfold DD at HL;clear h wf he;generalize H.bh s=HR at *;generalize H.fix s=aK at *;generalize (H.sh s).ids H.n=ids at *;generalize (H.sh s).ah H.n=l at *;generalize bj:Xn ((H.sh s).aa+1)=d at *;unfold pw at *;go_enter Tryz.func45,Tryz.ntmps45;go_wp2_with fail;refine HL.o.mono ?_;rintro e w1 ⟨V,rfl,S,aF⟩;obtain⟨A,c,rfl,_,_⟩:=AR S;have ax:=LH S;have aM:=LH aF;have ah:=LH (HH.o.below aF);have t:=LH (fun b (hb:(WM A l.length c).ownBlock=Bs b)=>HH.o.free (S.lt b hb).1);clear S aF HL;by_cases hl:l=[]
 ·have aA:l.length=0:=by rw[hl];rfl
  have av:aK=H:=bf.o hl;have K:=LH (show BZ P own aK w w1 from by rw[av];exact⟨own,ah.o,HZ.below own aM.o⟩);clear av hl;rw[aA];go_wp2_with fail;refine bodyPost_ret (results_none rfl _ _ _) rfl ?_;exact⟨rfl,K.o⟩
 ·have aA:¬(l.length:Int)=0:=by cases l with|nil=>exact absurd rfl hl|cons a l=>simp;omega
  have bK:0<l.length:=by omega
  have bk:((l.length:Int) == 0)=Jx:=by simpa using aA
  have bC:=LH (be.o hl);clear bf be;obtain⟨vs,c2,c3,c4,c5,c6,c7,g,a9⟩:=ah.o.bH hs;have f2:=g 2;have ab:=ah.o.setEp hs d;have a2:=LH ab.1;have b7:=LH ((HZ.below own aM.o).trans ab.2);have N:=LH (Py ax.o t.o ab.2)

  clear ab c3 c4 c5 c6 c7 g hl;go_upto_region 3 with (fail)
  have aR:=a2.o.bH hs;generalize (w1.setCell ⟨P.gs s,2,B0⟩ (.int .i64 d))=w2 at *;obtain⟨_,g2,_,_,_,_,_,_,bl⟩:=aR;rw[show((H.ar s { H.sh s with aa:=d }).sh s).aa=d from by rw[Cl]] at g2;have ao:Ae (w2.alloc (.cells #[.int .i64 d,.slice B0 0 0] 148)) w2.heap.size 148 #[.int .i64 d,.slice B0 0 0]:=Ae.new w2 _ _;have bc:=LH (show own w2.heap.size=B0 from a2.o.free (K0 _));have bp:=LH (show Sy H s w2.heap.size l d w2 (.int .i64 0) (w2.alloc (.cells #[.int .i64 d,.slice B0 0 0] 148)) from
   ⟨0,_,rfl,VN _,ao,VZ _ _ _ _,(VK _ _).alloc (K0 _) _⟩)
  clear ao f2 a9 c2 HH ah aM ax;go_wp2_with fail;clear g2 bl bj bk;generalize an:w2.heap.size=D at *;have ag:=LH an;clear an;go_loopw [31] (Sy H s D l d w2) (fun v _=>l.length-(intOf v).toNat)
  case atStart=>exact bp.o
  case round=>
   obtain⟨q,Vc,rfl,hq,a0,y,I⟩:=hrel;by_cases bi:(q:Int)<l.length
   ·have G:q<l.length:=by omega
    have bh:q<=4:=by omega
    obtain⟨r,o,u,hA,hr,hu,aD⟩:=((Rd.ay N.o).below (I.mono (by have:=ag.o;omega))).ck (k:=q) G;have hx:l[q]? = Bs l[q]:=L1 G;rw[V8,hx] at hu;simp only[WK,VR] at hu;subst hu hA;have bI:r<wr.heap.size:=VL hr I.size;have aB:=HM.o l[q] (Wv G);have ae:=LH (show(l.take (q+1)).map (fun j=>Wp .i64 ((H.sh s).nd j).id)=(l.take q).map (fun j=>Wp .i64 ((H.sh s).nd j).id)++[Wp .i64 ((H.sh s).nd l[q]).id] from by rw[VX,hx,Xd];rfl);generalize l[q]=j at *;clear hx;obtain⟨C,V6,L,hN,_⟩:=(a2.o.below (I.mono (by have:=ag.o;omega)).drew).nd s j hs aB;have au:((((H.ar s { H.sh s with aa:=d })).sh s).nd j).id=((H.sh s).nd j).id:=by rw[Cl]
    have a7:=LP hN;rw[au] at a7;have bz:=LH a7;clear hN a7 au;obtain⟨A6,c6,rfl,_,_⟩:=AR y;have ba:=LH y;have bF:=LH I;have bb:=LH a0;have k1:=a0.cell 1;have kl:=a0.lt;simp only[Hi,Ft,N2] at k1;clear y I a0;go_upto_region 7 with (fail)
    clear aD;refine nW ?_;refine CF (fun W=>W.cell? ⟨D,1,B0⟩=Bs (.slice A6 q c6)/\D<W.heap.size) 5 (fun _ _ _ _ _ h=>h) (fun af=>?_);have R:wr.drew.cell? ⟨D,1,B0⟩=Bs (.slice A6 q c6)/\D<wr.drew.heap.size:=⟨k1,kl⟩
    refine nD 0 [1,5,6,7] af R ?_;refine nA 1 [5,6,7] rfl rfl af R (fun w' bg=>by obtain⟨p1,pl⟩:=bg;go_simp;rfl) ?_;refine nD 2 [3,4,5,6,7] af R ?_;refine nG 3 (fun KK X=>?_);go_simp;refine bz.o.mono ?_;rintro e w3 ⟨rfl,rfl⟩;go_simp;refine X _ _ (fun _=>R) ?_;clear X KK;refine nG 4 (fun KK X=>?_);go_simp;refine X _ _ (fun _=>⟨(WX wr _ ⟨D,1,B0⟩ kl).trans R.1,by have:=R.2;simp at this;simp;omega⟩) ?_;clear X KK;refine nG 5 (fun KK X=>?_);have ak:D+1<=wr.drew.heap.size:=kl;have aS:q+1<=Wo/\(q+1)*8<=140737488355328:=⟨by unfold Wo;omega,by omega⟩
    refine SQ wr.drew wr.heap.size rfl _ (.tmp 36) (.tmp 39) 26 rfl (D+1) 3 (.int .i64 0) 1 8 Tryz.underlying26 F8 rfl (by decide) _ _ _ #[.int .i64 ((H.sh s).nd j).id] rfl ba.o 1 rfl _ rfl rfl (by simp[WB]) aS.1 aS.2 ak ?_;intro V2 w8 p aU;have aE:VP (D+1) wr w8:=(VK wr (B:=D+1)).drew.trans (aU.below (fun b hb=>(ba.o.lt b hb).1) ak);have z:Ae w8 D 148 #[.int .i64 d,.slice A6 q c6]:=(DG aE).ak bb.o (by omega);have y1:=z.cell 1;simp only[Hi,Ft,N2] at y1;have yf:=z.frozen 1;have yl:=z.lt;have K:=LH (show Sy H s D l d w2 (.int .i64 ((q+1:Nat):Int)) (w8.setCell ⟨D,1,B0⟩ V2) from by
     have al:=Fr.a6 D w8 1 V2;refine⟨q+1,V2,rfl,by omega,by simpa using z.aH 1 V2,?_,(bF.o.trans (aE.mono (WT D))).trans (al.below (fun i (hi:i=D)=>by omega) (by omega))⟩;rw[ae.o];exact al.own p (fun b hb e=>by have:=(p.lt b hb).1;omega))
    obtain⟨A9,c9,rfl,_,_⟩:=AR p;clear aE z p aU;go_simp;refine X _ _ nZ ?_;clear X KK;refine nG 6 (fun KK X=>?_);go_simp;refine X _ _ nZ ?_;clear X KK;refine nG 7 (fun KK X=>?_);go_simp;refine X _ _ nZ ?_;clear X KK;refine nX ?_;clear af y1 yf yl k1 kl R;go_wp2_with fail;go_roundw
    ·exact K.o
    ·simp[intOf];omega
   ·obtain rfl:q=l.length:=by omega
    have ac:VP w2.heap.size w2 wr:=I.mono (by have:=ag.o;omega);have aG:=a2.o.below ac;have aZ:HZ BM w own wr own:=b7.o.trans (HZ.below own ac);have a4:=Py N.o t.o (HZ.below (Z:=BM) own ac);rw[Xe] at y;have aq:l.map (fun j=>Wp .i64 ((H.sh s).nd j).id)=ids.map (Wp .i64):=by rw[aJ.o,List.map_map];rfl
    have ar:ids.length=l.length:=by rw[aJ.o,We]
    rw[aq] at y;have a5:=K8 (base':=0) y (VN _);have aC:∀ b,Vc.ownBlock=Bs b->own b=B0:=fun b hb=>a2.o.free (by have:=(y.lt b hb).1;have:=ag.o;omega)
    obtain⟨_,_,c3,_,_,_,_,g,a9⟩:=aG.bH hs;rw[Cl] at c3;have f3:=g 3;have E:=aG.setSz hs (l.length:Nat);have b6:(H.ar s { H.sh s with aa:=d }).ar s { (H.ar s { H.sh s with aa:=d }).sh s with size:=((l.length:Nat):Int) } = EH H s d l.length:=by rw[Cl,q6e];rfl
    rw[b6] at E;have bA:=LH E.1;have bn:=LH (aZ.trans E.2);have bt:=LH (Py a4 t.o E.2);have br:=LH (Py a5 aC E.2);have aY:=Ib E.2 a0 bc.o;have bG:=LH aY.1;have bB:=LH aC;have bd:=LH ar;obtain⟨A6,c6,rfl,_,_⟩:=AR a5;have ai:Wf (EH H s d l.length):=aH.o.cp rfl rfl (aH.o.tab s hs) (aH.o.sto s hs);have b8:=LH ai;have bu:=LH (show ∀ j,((EH H s d l.length).sh s).nd j=(H.sh s).nd j from fun j=>by unfold EH;rw[Cl]);have bD:=LH (show((EH H s d l.length).sh s).aa=d from by unfold EH;rw[Cl]);have aX:(EH H s d l.length).c=H.c/\(EH H s d l.length).n=H.n:=⟨rfl,rfl⟩
    have O:=LH aX;clear ac aG aZ a4 y aq ar a5 aC g E b6 aY ai aX a0 I a2 b7 N;generalize EH H s d l.length=HX at *;go_wp2_with fail;clear c3 f3 a9;generalize (wr.setCell ⟨P.gs s,3,B0⟩ (.int .i64 (l.length:Nat)))=w3 at *;go_loopw [50] (FiB P own HX s ids l w3) (fun v _=>l.length-(intOf v).toNat)
    case atStart=>exact⟨0,rfl,VN _,own,bA.o,HZ.refl _ _ _⟩
    case round=>
     obtain⟨q,rfl,hq,bH,a1,J⟩:=hrel;by_cases bi:(q:Int)<l.length
     ·have G:q<l.length:=by omega
      have bh:q<=4:=by omega
      obtain⟨r,c',hV,hr,u,hu,aD⟩:=SK (Py bt.o t.o J) (k:=q) G;injection hV with hA _ hcp;subst hA hcp;have hx:l[q]? = Bs l[q]:=L1 G;rw[V8,hx] at hu;simp only[WK,VR] at hu;subst hu;have T:l[q]∈l:=Wv G;have aB:=HM.o l[q] T;have bq:=LH (LN (s:=s) (ids:=ids) (H:=HX) hx);have aT:l[q] ∉ l.take q:=fun h=>by
       obtain⟨i,hi,e⟩:=List.mem_iff_getElem.1 h;rw[List.length_take] at hi;rw[List.getElem_take] at e;have:=(List.getElem_inj bv.o).1 e;omega
      have a6:=JA (s:=s) (ids:=ids) (l.take q) HX aT;have m:=q78 s ids (l.take q) HX;have f:Wf ((l.take q).foldl (Hs.a5 s ids) HX):=Wf.bS a8.o (l.take q) b8.o (by rw[O.o.1];exact hs) (fun j hj=>by rw[O.o.2];exact HM.o j (Wy hj));have ap:((H.sh s).nd l[q]).id∈ids:=by rw[aJ.o];exact List.mem_map.2 ⟨_,T,rfl⟩
      have aW:=HE.o l[q] T;generalize l[q]=j at *;generalize (l.take q).foldl (Hs.a5 s ids) HX=H3 at *;have Y:s<H3.c:=by rw[m.2.1,O.o.1];exact hs
      have aV:j<H3.n:=by rw[m.1,O.o.2];exact aB
      have az:(H3.sh s).nd j=(H.sh s).nd j:=a6.1.trans (bu.o j);have aw:(H3.sh s).aa=d:=a6.2.trans bD.o;have a3:=Py br.o bB.o J;have U:=(Ib J bG.o bc.o).1;have k0:=U.cell 0;have k1:=U.cell 1;have kl:=U.lt;simp only[Hi,Ft,N2] at k0 k1;rw[<- bd.o] at a3 k1;have aL:=LH (JJ a1 Y aV d ids A6 c6 a3 (by rw[az];exact aW) (by have:=bd.o;omega) bw.o (fun x hx=>FH (by have:=a8.o x hx;omega) (by have:=a8.o x hx;omega)) (by rw[az];exact ap));have aP:=q8z (MG (f.nd s j Y aV) d a8.o) (show s<3 by have:=f.c3;omega) (show j<4 by have:=f.n4;omega);have b9:=LH aP;have bo:=LH f;have ad:=LH J;have bx:=LH (show Hs.a5 s ids H3 j=(H3.aq s j (((H3.sh s).nd j).join d ids).tick.1).send (((H3.sh s).nd j).join d ids).tick.2 from by unfold Hs.a5;rw[aw]);unfold pw at aL;clear hx T aT a6 m ap aW az aw a3 U aP f a1 J;go_wp2_with fail;refine aL.o.mono ?_;rintro e w5 ⟨V,rfl,ho,own4,b5,b2,am⟩;have aQ:=q7a b5 ho (fun q hq=>by rcases am q hq with e|e <;> (rw[e];simp)) b9.o.2 (bo.o.aq b9.o.1) (IJ _);have aI:=LH aQ;have bm:=LH (ad.o.trans (b2.mono (fun _=>MO)));obtain⟨A7,kk,M,rfl,_⟩:=ho;unfold pw at aI;clear aQ am b5 b2 aL aD hr k0 k1 kl;go_wp2_with fail;refine aI.o.mono ?_;rintro e w6 ⟨d6,aO,rfl,b4,b1⟩;have K:=LH (show FiB P own HX s ids l w3 (.int .i64 ((q+1:Nat):Int)) w6 from⟨q+1,rfl,by omega,aO,by rw[bq.o,bx.o];exact b4,bm.o.trans (b1.mono (fun _=>UR))⟩);clear b4 b1 aI;go_wp2_with fail;go_roundw
      ·exact K.o
      ·simp[intOf];omega
     ·obtain rfl:q=l.length:=by omega
      rw[Xe] at a1;have m:=q78 s ids l HX;have f:Wf (l.foldl (Hs.a5 s ids) HX):=Wf.bS a8.o l b8.o (by rw[O.o.1];exact hs) (fun j hj=>by rw[O.o.2];exact HM.o j hj);generalize l.foldl (Hs.a5 s ids) HX=H3 at *;have Y:s<H3.c:=by rw[m.2.1,O.o.1];exact hs
      obtain⟨v4,_,_,c4,c5,c6,c7,g,a9⟩:=a1.bH Y;have f4:=g 4;have f5:=g 5;have f6:=g 6;have f7:=g 7;have ay:=a1.reset Y;have aj:Wf (H3.ar s { H3.sh s with tab:=fun _=>B0,sto:=fun _=>[],done:=0 }):=f.cp rfl rfl Da.none_ Db.none_;have ae:=LH (qa5 ay.1 aj Y);have ad:=LH ((bn.o.trans J).trans ay.2);unfold pw qbf at ae;unfold qbf at ad;clear m f g ay aj a1 J;go_wp2_with fail;refine ae.o.mono ?_;rintro e w9 ⟨rfl,aN,b3,b0⟩;have K:=LH (show BZ P own aK w w9 from⟨aN,by rw[bC.o,bE.o];exact b3,ad.o.trans (b0.mono (fun _=>Qz))⟩);clear b3 b0;go_wp2_with fail
      go_end0
      exact⟨rfl,K.o⟩
def HI.retag (h:HI w own P H) (c:Ah) (g:∀ b,c b≠B0->b<w.heap.size) (e:∀ b t,own b=Bs t->(∀ i,t≠.tx i/\t≠.sm i)->c b=Bs t)
  (f:∀ i,1<=i->i<=H.m->SU w c i (P.gt i) (H.tx i)):HI w c P H:=by
 refine⟨g,?_,fun s hs=>?_,fun s j hs l=>?_,f⟩
 ·obtain⟨v,h⟩:=h.hs;exact⟨v,h.nt,h.msgs,fun b d=>e b _ (h.bc b d) (fun i=>⟨by simp,by simp⟩),h.br,h.shr,fun b d=>e b _ (h.bx b d) (fun i=>⟨by simp,by simp⟩),h.txr,fun b d=>e b _ (h.bu b d) (fun i=>⟨by simp,by simp⟩),e _ _ h.gt (fun i=>⟨by simp,by simp⟩)⟩
 ·obtain⟨v,h⟩:=h.sh s hs;exact⟨v,h.row,fun b d=>e b _ (h.b6 b d) (fun i=>⟨by simp,by simp⟩),h.dd,e _ _ h.cI (fun i=>⟨by simp,by simp⟩),h.tab,fun b d=>e b _ (h.b5 b d) (fun i=>⟨by simp,by simp⟩),h.sto,fun b d=>e b _ (h.bF b d) (fun i=>⟨by simp,by simp⟩),e _ _ h.gt (fun i=>⟨by simp,by simp⟩)⟩
 ·obtain⟨C,V,L,o,m⟩:=h.nd s j hs l;exact⟨C,V,L,o,fun b d=>e b _ (m b d) (fun i=>⟨by simp,by simp⟩)⟩
def smOn (own:Ah) (c i:Nat):Ah:=fun b=>if b=c then Bs (.sm i) else own b
def smOff (own:Ah) (i:Nat):Ah:=fun b=>if own b=Bs (.sm i) then Bs (.tx i) else own b
def HI.bG (h:HI w own P H) (E:1<=i) (D:i<=H.m) (d:Co w own i (P.gt i) v (H.tx i)):HI w (Go.Proofs.YtccahlhdifadfaaGreatDoor.smOn own v.bs i) P H:=by
 have m:∀ b t,own b=Bs t->t≠.tx i->t≠.sm i->Go.Proofs.YtccahlhdifadfaaGreatDoor.smOn own v.bs i b=Bs t:=fun b t e q n2=>by
  unfold Go.Proofs.YtccahlhdifadfaaGreatDoor.smOn;rw[if_neg]
  ·exact e
  ·rintro rfl;rcases d.st with o|o <;> (rw[e] at o;injection o with o)
   ·exact q o
   ·exact n2 o
 obtain⟨q,n2,x,C,s,B,r,A⟩:=d.aW;have c:∀ b,b≠v.bs->Go.Proofs.YtccahlhdifadfaaGreatDoor.smOn own v.bs i b=own b:=fun b f=>by unfold Go.Proofs.YtccahlhdifadfaaGreatDoor.smOn;rw[if_neg f]
 refine h.retag _ (fun b f=>?_) (fun b t e l=>m b t e (l i).1 (l i).2) (fun j z y=>?_)
 ·by_cases e:b=v.bs
  ·rw[e];exact d.ae.lt
  ·rw[c b e] at f;exact h.lt b f
 ·by_cases e:j=i
  ·subst e;exact⟨v,d.ak,d.ad,d.ae,d.places,d.aj,d.ne,by rw[c _ (fun e=>x e.symm)];exact d.gt,fun b f=>by rw[c _ (fun e=>s (by rw[f,e]))];exact d.wt b f,
    .inr (by unfold Go.Proofs.YtccahlhdifadfaaGreatDoor.smOn;rw[if_pos rfl]),by rw[c _ (fun e=>d.ne e.symm)];exact d.pt,fun b f=>by rw[c _ (fun e=>r (by rw[f,e]))];exact d.xt b f⟩
  ·obtain⟨u,g⟩:=h.tx j z y;have l:∀ b,own b=Bs (.tx j)->Go.Proofs.YtccahlhdifadfaaGreatDoor.smOn own v.bs i b=Bs (.tx j):=fun b p=>m b _ p (by simp[e]) (by simp)
   exact⟨u,g.ak,g.ad,g.ae,g.places,g.aj,g.ne,l _ g.gt,fun b f=>l b (g.wt b f),g.st.imp (l _) (fun p=>m _ _ p (by simp) (by simp[e])),l _ g.pt,fun b f=>l b (g.xt b f)⟩
def HI.bo (h:HI w own P H) (i:Nat):HI w (Go.Proofs.YtccahlhdifadfaaGreatDoor.smOff own i) P H:=by
 have g:∀ b t,own b=Bs t->t≠.sm i->Go.Proofs.YtccahlhdifadfaaGreatDoor.smOff own i b=Bs t:=fun b t e n=>by
  unfold Go.Proofs.YtccahlhdifadfaaGreatDoor.smOff;rw[if_neg,e];rw[e];intro h;injection h with h;exact n h
 refine h.retag _ (fun b f=>?_) (fun b t e d=>g b t e (d i).2) (fun j o m=>?_)
 ·unfold Go.Proofs.YtccahlhdifadfaaGreatDoor.smOff at f;split at f
  ·rename_i e;exact h.lt b (by rw[e];simp)
  ·exact h.lt b f
 ·obtain⟨u,c⟩:=h.tx j o m;have d:∀ b,own b=Bs (.tx j)->Go.Proofs.YtccahlhdifadfaaGreatDoor.smOff own i b=Bs (.tx j):=fun b p=>g b _ p (by simp)
  refine⟨u,c.ak,c.ad,c.ae,c.places,c.aj,c.ne,d _ c.gt,fun b f=>d b (c.wt b f),?_,d _ c.pt,fun b f=>d b (c.xt b f)⟩;rcases c.st with e|e
  ·exact .inl (d _ e)
  ·by_cases l:j=i
   ·subst l;exact .inl (by unfold Go.Proofs.YtccahlhdifadfaaGreatDoor.smOff;rw[if_pos e])
   ·exact .inr (g _ _ e (by simp[l]))
def Ay.bo {c:Nat} (p:Ef own) (r:own c=Bs (.tx i)) {f:Ah} (h:Ay w (Go.Proofs.YtccahlhdifadfaaGreatDoor.smOn own c i) w' f) (q:c<w.heap.size):Ay w own w' (Go.Proofs.YtccahlhdifadfaaGreatDoor.smOff f i):=by
 have d:∀ b,b≠c->Go.Proofs.YtccahlhdifadfaaGreatDoor.smOn own c i b=own b:=fun b m=>by unfold Go.Proofs.YtccahlhdifadfaaGreatDoor.smOn;rw[if_neg m]
 have g:Go.Proofs.YtccahlhdifadfaaGreatDoor.smOn own c i c=Bs (.sm i):=by unfold Go.Proofs.YtccahlhdifadfaaGreatDoor.smOn;rw[if_pos rfl]
 refine⟨fun b m=>?_,h.fr.mono (fun b _ ⟨t,e,o⟩=>?_),fun b j e=>?_⟩
 ·unfold Go.Proofs.YtccahlhdifadfaaGreatDoor.smOff;rw[h.ext b m];by_cases e:b=c
  ·subst e;rw[g,if_pos rfl,r]
  ·rw[d b e,if_neg (p b i)]
 ·by_cases l:b=c
  ·subst l;rw[g] at e;injection e with e;subst e;exact absurd rfl (o.2.2 i)
  ·rw[d b l] at e;exact⟨t,e,o⟩
 ·exfalso;unfold Go.Proofs.YtccahlhdifadfaaGreatDoor.smOff at e;split at e
  ·cases e
  ·rename_i s;have:=h.sm b j e;by_cases l:b=c
   ·subst l;rw[g] at this;injection this with this;injection this with this;subst this;exact s e
   ·rw[d b l] at this;exact p b j this
def N7 (h:HI w own P H) (hs:s<H.c):VY Tryz.prog 59 #[pw (P.gs s)] w fun e w'=>e=.returned (.int .i64 (H.sh s).size)/\w=w':=by
 obtain⟨v,_,b,_,_,_,_,_,hl⟩:=h.bH hs;clear h;unfold pw;go_enter Tryz.func59,Tryz.ntmps59;go_wp2_with fail;go_ret;exact⟨rfl,rfl⟩
end
def Ka (H:Hs) (i:Nat):Prop:=∃ k∈(H.tx i).af,(H.tx i).ae k≠Bs (H.sh k).aa
def KM {H:Hs} (c:(H.tx i).state=1) (b:Ka H i):H.a7 i=H.abort i:=by unfold Hs.a7;rw[if_pos ⟨c,b⟩]
def N4 {H:Hs} (h:¬((H.tx i).state=1/\Ka H i)):H.a7 i=H:=by unfold Ka at h;unfold Hs.a7;rw[if_neg h]
def q9a (H:Hs) (q:Nat):(Wh 1 (q+1)).foldl Hs.a7 H=((Wh 1 q).foldl Hs.a7 H).a7 (q+1):=by
 rw[List.range'_1_concat,WQ];show Hs.a7 _ (1+q)=_;rw[Nat.add_comm 1 q]
def Sa (H:Hs) (i s:Nat):((H.abort i).sh s).aa=(H.sh s).aa:=by
 have d:∀ (ks:List Nat) (H:Hs),((telld H i 4 ks).sh s).aa=(H.sh s).aa:=by
  intro ks;induction ks with
  | nil=>intro H;rfl
  | cons k ks b=>
   intro H;refine(b (H.ax i 4 k)).trans ?_;cases c:H.head k with
   | none=>rw[I1 c]
   | some j=>
    rw[Ie c];split
    ·unfold Hs.add;split
     ·rfl
     ·have h:=Bz.take ((H.aq k j (((H.sh k).nd j).add (tellC H i 4) Jx).1.1).send (((H.sh k).nd j).add (tellC H i 4) Jx).1.2) k;by_cases e:s=k
      ·subst e;rw[h.aa];show((Af H.sh s _ s)).aa=_;rw[An]
      ·rw[h.sh s e];show((Af H.sh k _ s)).aa=_;rw[As e]
    ·rfl
 have f:∀ (ks:List Nat) (H:Hs),((reld H i ks).sh s).aa=(H.sh s).aa:=by
  intro ks;induction ks with
  | nil=>intro H;rfl
  | cons k ks b=>
   intro H;refine(b (H.rel k i)).trans ?_;show(Af H.sh k _ s).aa=_;by_cases e:s=k
   ·subst e;rw[An]
   ·rw[As e]
 rw[Ia];exact(d _ _).trans (f _ _)
def NH (P:Aq) (own:Ah) (H:Hs) (w:D0) (v:O0) (wr:D0):Prop:=∃ q:Nat,v=.int .i64 q/\q<=3/\BZ P own (([0,1,2].take q).foldl Hs.a9 H) w wr
def FcRel (P:Aq) (own:Ah) (H:Hs) (w:D0) (v:O0) (wr:D0):Prop:=∃ q:Nat,v=.int .i64 q/\q<=H.m/\BZ P own ((Wh 1 q).foldl Hs.a7 H) w wr
def Uw (b c:Hs) (i:Nat) (left:Int->Bool):Prop:=
 (c=b/\∀ k∈(b.tx i).af,left (k:Nat)=Jx->¬((b.tx i).state=1/\(b.tx i).ae (k:Nat)≠Bs (b.sh k).aa))\/(c=b.abort i/\(b.tx i).state=1/\Ka b i)
def NG (P:Aq) (b:Ah) (e:Hs) (i bs r:Nat) (f:D0) (wr:D0):Prop:=
 ∃ (left:Int->Bool) (c:Nat) (own4:Ah) (d:Hs),DE BC wr bs r 100 (CT (e.tx i).ae) left c/\HI wr own4 P d/\Ay f b wr own4/\own4 r=B0/\own4 bs=Bs (.sm i)/\Uw e d i left
def Uw.done {b d:Hs} {left:Int->Bool} (h:Uw b d i left) (hl:∀ k∈(b.tx i).af,left (k:Nat)=Jx):d=b.a7 i:=by
 rcases h with ⟨rfl,h⟩|⟨rfl,g,f⟩
 ·rw[N4];rintro ⟨e,k,c,hs⟩;exact h k c (hl k c) ⟨e,hs⟩
 ·rw[KM g f]
def O7 {H:Hs} (h:Ad H B) (b:B<=999000):∀ q,q<=3->Ad (([0,1,2].take q).foldl Hs.a9 H) (B+q)
 | 0,_=>by simpa using h
 | 1,_=>(h.a9 (by omega) (s:=0) (by omega)).1
 | 2,_=>by
  have:=((h.a9 (by omega) (s:=0) (by omega)).1.a9 (by omega) (s:=1) (by omega)).1;rw[show B+((2:Nat):Int)=B+1+1 by omega];exact this
 | 3,_=>by
  have:=(((h.a9 (by omega) (s:=0) (by omega)).1.a9 (by omega) (s:=1) (by omega)).1.a9 (by omega) (s:=2) (by omega)).1;rw[show B+((3:Nat):Int)=B+1+1+1 by omega];exact this
def PR {x:Bm} (h:x.ah n=[]):x.b8 n=VJ:=by unfold Bm.b8;rw[h];rfl
def NM {a:Nat} {x:Bm} {l:List Nat} (h:x.ah n=l) (c:l[0]? = Bs a) (b:l[l.length-1]? = Bs s):x.b8 n=((x.nd a).head && (x.nd s).tail && ((l.length:Int) == x.size)):=by
 unfold Bm.b8;rw[h,List.head?_eq_getElem?,List.getLast?_eq_getElem?,c,b]
def JS {H:Hs} (h:(H.sh s).b8 H.n=VJ):H.a9 s=H:=by unfold Hs.a9;rw[if_pos h]
def Ug {H:Hs} (h:(H.sh s).b8 H.n=Jx):H.a9 s=H.fix s:=by unfold Hs.a9;rw[h];rfl
def Fq {H:Hs} (h:Wf H) (c:H.c=3):∀ q,q<=H.m->Wf ((Wh 1 q).foldl Hs.a7 H)/\Sz H ((Wh 1 q).foldl Hs.a7 H)
 | 0,_=>⟨h,Sz.refl H⟩
 | q+1,e=>by
  obtain⟨d,b⟩:=Fq h c q (by omega);rw[q9a];exact⟨d.a7 (b.c.trans c) (by omega) (by rw[b.m];omega),b.trans (N3 _ _)⟩
def FixsP (P:Aq) (own:Ah) (H:Hs) (w:D0) (e:WC) (w':D0):Prop:=e=.returned (.tuple #[])/\∃ H',E8 H H'/\BZ P own H' w w'
section
variable {w w':D0} {own own':Ah} {P:Aq} {H:Hs}
def O1 (h:HI w own P H) (ha:Ad H B) (hB:B<=999000) (bO:Ef own):VY Tryz.prog 33 #[pw P.g] w (FixsP P own H w):=by
 have HH:=LH h;have hc:=ha.c;have cs:=ha.wf.n4;obtain⟨r3,k3,⟨vh,S,bl⟩,bb⟩:=h.shRow hc;obtain⟨_,c3,_,_,gl⟩:=S.cells;rw[bl] at c3;have c9:=LH bb;have bJ:=LH (O7 ha hB);clear h ha S bl bb;unfold pw at *;go_enter Tryz.func33,Tryz.ntmps33;go_wp2_with fail;clear c3;go_loopw [14] (NH P own H w) (fun v _=>3-(intOf v).toNat)
 case atStart=>exact⟨0,rfl,VN _,own,HH.o,HZ.refl _ _ _⟩
 case round=>
  obtain⟨q,rfl,hq,d,a5,a4⟩:=hrel;by_cases cu:(q:Int)<3
  ·obtain⟨bX,bM⟩:=c9.o wr d a4 q (by omega);have b9:([0,1,2]:List Nat)[q]? = Bs q:=by
    have:q=0\/q=1\/q=2:=by omega
    rcases this with rfl|rfl|rfl <;> rfl
   have b0:=LH (show([0,1,2].take (q+1)).foldl Hs.a9 H=(([0,1,2].take q).foldl Hs.a9 H).a9 q from by rw[VX,b9,WQ];rfl);have C:=bJ.o q (by omega);clear b9;generalize ([0,1,2].take q).foldl Hs.a9 H=H2 at *;have aQ:=C.c;have G:=C.wf;have HL:=LH (q5h a5 G (s:=q) (by omega));have HM:=LH (fun j (hj:j∈(H2.sh q).ah H2.n)=>UX hj);have br:=LH (PR (x:=H2.sh q) (n:=H2.n));have X:=C.ep q (by omega);have bp:∀ j∈(H2.sh q).ah H2.n,((H2.sh q).nd j).aa<Xn ((H2.sh q).aa+1):=fun j hj=>by
    rw[show Xn ((H2.sh q).aa+1)=(H2.sh q).aa+1 from Xf _ ⟨by omega,by omega⟩];obtain⟨L,p,a⟩:=C.ch.at_ (s:=q) (by omega) (ET.1 hj);rw[a.aa];omega
   have cg:=LH bp;have ay:=LH a5;have aW:=LH a4;have aZ:=LH G;have ac:∀ W,BZ P d (H2.a9 q) wr W->NH P own H w (.int .i64 ((q+1:Nat):Int)) W:=fun W ⟨o,a,b⟩=>⟨q+1,rfl,by omega,o,by rw[b0.o];exact a,aW.o.trans b⟩
   have ax:=LH ac;unfold DD pw at HL;clear a5 a4 G C X bp ac;generalize aN:(H2.sh q).ah H2.n=l at *;have cw:l.length<=4:=by rw[<- aN];have:=U3 (H2.sh q) H2.n;have:=aZ.o.n4;omega
   have bE:=LH aN;clear aN;go_wp2_with fail;refine HL.o.mono ?_;rintro e w1 ⟨V,rfl,a1,aR⟩;obtain⟨A,c,rfl,_,_⟩:=AR a1;have aH:=LH a1;have a6:=LH (ay.o.below aR);have aX:=LH (show Ay wr d w1 d from HZ.below d aR);have ce:=LH (fun b (Z:(WM A l.length c).ownBlock=Bs b)=>ay.o.free (a1.lt b Z).1);clear a1 aR HL bX bM;by_cases hl:l=[]
   ·have ae:l.length=0:=by rw[hl];rfl
    have HR:=LH (ax.o w1 (by rw[JS (br.o hl)];exact⟨d,a6.o,aX.o⟩));clear hl;rw[ae];go_wp2_with fail;go_roundw
    ·exact HR.o
    ·simp[intOf];omega
   ·have bg:0<l.length:=List.length_pos_iff.2 hl;have ae:((l.length:Int) == 0)=Jx:=by simp;omega
    have aT:l[0]? = Bs l[0]:=L1 bg;have aI:l[l.length-1]? = Bs l[l.length-1]:=L1 (by omega);have a7:=NM bE.o aT aI;have bj:=HM.o l[0] (Wv _);have b4:=HM.o l[l.length-1] (Wv _);obtain⟨r0,c0,c6,aL,u0,aK,cn⟩:=SK aH.o (k:=0) bg;injection c6 with hA0 _ hcp0;subst hA0 hcp0;obtain⟨r1,c1,c5,cq,u1,aJ,cm⟩:=SK aH.o (k:=l.length-1) (by omega);injection c5 with hA1 _ _;injection hA1 with hA1;injection hA1 with hA1 _ _;subst hA1;rw[V8,aT] at aK;rw[V8,aI] at aJ;simp only[WK,VR] at aK aJ;subst aK aJ;generalize l[0]=a at *;generalize l[l.length-1]=z at *;obtain⟨Ca,Va,La,bo,_⟩:=a6.o.nd q a (by omega) bj;have am:=LH (qct bo);obtain⟨Cz,Vz,Lz,bn,_⟩:=a6.o.nd q z (by omega) b4;have av:=LH (q8i bn);have aY:=LH a7;have az:=LH (fun W (Z:VP w1.heap.size w1 W)=>JI (a6.o.below Z) aZ.o (show q<H2.c by omega) (fun j hj=>cg.o j (by rw[<- bE.o];exact hj)));have bB:=LH (fun W (Z:VP w1.heap.size w1 W)=>N7 (a6.o.below Z) (show q<H2.c by omega));have bZ:∀ W,VP w1.heap.size w1 W->BZ P d (H2.fix q) W W->True:=fun _ _ _=>trivial
    have c7:=LH (show ∀ W,(H2.sh q).b8 H2.n=VJ->VP w1.heap.size w1 W->NH P own H w (.int .i64 ((q+1:Nat):Int)) W from fun W e Z=>ax.o W (by rw[JS e];exact⟨d,a6.o.below Z,aX.o.trans (HZ.below d Z)⟩));have b2:=LH (show ∀ W W',(H2.sh q).b8 H2.n=Jx->VP w1.heap.size w1 W->BZ P d (H2.fix q) W W'->NH P own H w (.int .i64 ((q+1:Nat):Int)) W' from fun W W' e Z ⟨o,h1,h2⟩=>ax.o W' (by rw[Ug e];exact⟨o,h1,(aX.o.trans (HZ.below d Z)).trans h2⟩));unfold pw at az bB;clear bZ aT aI a7 bj b4 bo bn hl br ax;have cv:((l.length-1:Nat):Int)=(l.length:Int)-1:=by omega
    cases U:((H2.sh q).nd a).head with
    | false=>
     rw[U] at am;have hw:(H2.sh q).b8 H2.n=Jx:=by rw[aY.o,U];rfl
     have HW:=LH hw;clear hw U;go_wp2_with fail;refine am.o.mono ?_;rintro e w2 ⟨rfl,rfl⟩;go_wp2_with fail;refine(az.o w1 (VK _ _)).mono ?_;rintro e O ⟨rfl,K⟩;have HR:=LH (b2.o w1 O HW.o (VK _ _) K);clear K;go_wp2_with fail;go_roundw
     ·exact HR.o
     ·simp[intOf];omega
    | true=>
     rw[U] at am;have cl:l.length<=60:=by omega
     cases a2:((H2.sh q).nd z).tail with
     | false=>
      rw[a2] at av;have hw:(H2.sh q).b8 H2.n=Jx:=by rw[aY.o,U,a2];rfl
      have HW:=LH hw;clear hw U a2;go_wp2_with fail;refine am.o.mono ?_;rintro e w2 ⟨rfl,rfl⟩;go_wp2_with fail;refine av.o.mono ?_;rintro e O ⟨rfl,Y⟩;have b3:=LH (az.o O Y);have aA:=LH Y;clear Y;go_wp2_with fail;refine b3.o.mono ?_;rintro e w4 ⟨rfl,K⟩;have HR:=LH (b2.o O w4 HW.o aA.o K);clear K;go_wp2_with fail;go_roundw
      ·exact HR.o
      ·simp[intOf];omega
     | true=>
      rw[a2] at av;have b5:(H2.sh q).b8 H2.n=((l.length:Int) == (H2.sh q).size):=by rw[aY.o,U,a2];rfl
      have bt:=LH b5;clear b5 U a2;go_wp2_with fail;refine am.o.mono ?_;rintro e w2 ⟨rfl,rfl⟩;go_wp2_with fail;refine av.o.mono ?_;rintro e O ⟨rfl,Y⟩;have cd:=LH (bB.o O Y);have b3:=LH (az.o O Y);have aA:=LH Y;clear Y;go_wp2_with fail;refine cd.o.mono ?_;rintro e w4 ⟨rfl,rfl⟩;cases b8:((l.length:Int) == (H2.sh q).size) with
      | true=>
       have HR:=LH (c7.o O (by rw[bt.o,b8]) aA.o);go_wp2_with fail;go_roundw
       ·exact HR.o
       ·simp[intOf];omega
      | false=>
       go_wp2_with fail;refine b3.o.mono ?_;rintro e w5 ⟨rfl,K⟩;have HR:=LH (b2.o O w5 (by rw[bt.o,b8]) aA.o K);clear K;go_wp2_with fail;go_roundw
       ·exact HR.o
       ·simp[intOf];omega
  ·obtain rfl:q=3:=by omega
   have C:=bJ.o 3 (K0 _);have cf:=LH (show ∀ H',DL (([0,1,2].take 3).foldl Hs.a9 H).aY H'->E8 H H' from fun H' h=>h);generalize ([0,1,2].take 3).foldl Hs.a9 H=H2 at *;have aQ:=C.c;have bd:=a4.dg bO;have ay:=LH a5;have aW:=LH a4;have aZ:=LH C.wf;have cD:=LH C;obtain⟨vh,S⟩:=a5.hs;obtain⟨_,_,c4,_,gl⟩:=S.cells;obtain⟨A,c,hV,_,_⟩:=AR S.txr;rw[hV] at c4;have cb:=LH (fun W own' (hz:Ay wr d W own')=>(hV▸hz.fr.own S.txr (fun b Z hs=>(hs.tag (S.bu b Z)).1 rfl):W.ownsRow 0 74 1 (.slice A H2.m c) H2.m ((Wh 1 H2.m).map fun i=>pw (P.gt i))));have cj:H2.m<=60:=C.wf.bz;have bw:=LH (show ∀ q,q<=H2.m->Wf ((Wh 1 q).foldl Hs.a7 H2)/\Sz H2 ((Wh 1 q).foldl Hs.a7 H2) from fun q hq=>Fq C.wf C.c q hq);clear a5 a4 S hV C;go_wp2_with fail;clear c4;rename D0=>W0
   go_loopw [54] (FcRel P d H2 W0) (fun v _=>H2.m-(intOf v).toNat)
   case atStart=>exact⟨0,rfl,VN _,d,ay.o,HZ.refl _ _ _⟩
   case round=>
    obtain⟨q,rfl,hq,D,E,a3⟩:=hrel;by_cases ck:(q:Int)<H2.m
    ·obtain⟨r,c',hV,hr,u,hu,bW⟩:=SK (cb.o _ _ a3) (k:=q) (by omega);injection hV with hA _ hcp;subst hA hcp;rw[V8,List.getElem?_range' (by omega)] at hu;simp only[WK,VR] at hu;rw[show 1+1*q=q+1 by omega] at hu;subst hu;unfold pw at bW;have aa:=bw.o q hq;have b0:=LH (q9a H2 q);generalize (Wh 1 q).foldl Hs.a7 H2=J at *;have ao:q+1<=J.m:=by rw[aa.2.m];omega
     have aP:J.c=3:=aa.2.c.trans aQ;have ci:q<=60:=by omega
     obtain⟨N,a8⟩:=E.tx (q+1) (by omega) ao;obtain⟨_,k1,_,k3,_,_,_,kl⟩:=a8.cells;have ad:=a3.dg bd;have g:D N.bs=Bs (.tx (q+1)):=a8.st.resolve_right (ad _ _);have bC:=LH a8.ae;have bv:=LH (aa.1.tx (q+1) (by omega) ao).sh;have bu:=LH aa.1;have bH:=LH E;have aV:=LH a3;have c8:=LH a8;have aw:=LH g;have bA:=LH ad;clear aa a8 E a3 g ad;rename D0=>Wb
     have bQ:=bC.o.lt;go_wp2_with (at_range;refine q2u rfl _ 61 3 rfl Tryz.underlying61 rfl bC.o ?_;intro w0 bq ab bi BD)
     generalize aL:Wb.heap.size=r0 at ab BD ⊢;have b1:=LH aL;clear aL;have aS:VP Wb.heap.size Wb w0:=bi.bb;have ca:=LH (show NG P (smOn D N.bs (q+1)) J (q+1) N.bs r0 Wb w0 from by
      refine⟨_,bq,smOn D N.bs (q+1),J,ab,(bH.o.bG (by omega) ao c8.o).below aS,HZ.below _ aS,?_,by unfold smOn;rw[if_pos rfl],.inl ⟨rfl,fun k hk hl=>?_⟩⟩
      ·unfold smOn;rw[if_neg (by have:=b1.o;omega)];exact bH.o.free (by have:=b1.o;omega)
      ·exfalso;obtain⟨e,he⟩:=Option.ne_none_iff_exists'.1 (Dy.1 hk).2;simp[CT,he] at hl)
     clear ab bi BD aS
     try go_frame
     go_loopw [7] (fun _ wr=>NG P (smOn D N.bs (q+1)) J (q+1) N.bs r0 Wb wr) (fun _ wr=>wr.rangeLeft N.bs r0)
     case atStart=>exact ca.o
     case round=>
      obtain⟨left,cC,own4,H4,bc,ah,ag,an,aM,ba⟩:=hrel;have bx:=LH bc;have bF:=LH ah;have au:=LH ag;have aj:=LH ba;clear bc ah ag ba;go_wp2_with (at_next;refine q3c rfl _ rfl rfl bx.o ?_ ?_)
      ·intro ae;have af:=aj.o.done (fun k hk=>ae k (by
        obtain⟨e,he⟩:=Option.ne_none_iff_exists'.1 (Dy.1 hk).2;rcases(bv.o k e he).1 with h|h <;> exact FH (by omega) (by omega)))
       have cc:=LH (show FcRel P d H2 W0 (.int .i64 ((q+1:Nat):Int)) wr from
        ⟨q+1,rfl,by omega,smOff own4 (q+1),by rw[b0.o,<- af];exact bF.o.bo (q+1),aV.o.trans (Ay.bo bA.o aw.o au.o bQ)⟩)
       clear ae af;go_wp2_with fail;go_roundw
       ·exact cc.o
       ·simp[intOf];omega
      ·intro o v9 O ai cr bP T aD aE aO bL bU;obtain⟨e9,ap,rfl⟩:∃ m,(J.tx (q+1)).ae o=Bs m/\v9=.int .i64 m:=by
        unfold CT at T;cases e:(J.tx (q+1)).ae o with
        | none=>rw[e] at T;cases T
        | some m=>rw[e] at T;injection T with T;exact⟨m,rfl,T.symm⟩
       rw[show BC.val o=Wp .i64 o from rfl] at bU ⊢;obtain⟨k,rfl,cy⟩:∃ k:Nat,o=k/\k<2:=by
        rcases(bv.o o e9 ap).1 with h|h
        ·exact⟨0,h,by omega⟩
        ·exact⟨1,h,by omega⟩
       have bS:k∈(J.tx (q+1)).af:=Dy.2 ⟨by omega,by rw[ap];simp⟩;have E:HI O own4 P H4:=bF.o.fr0 aO (fun b Z e=>Z (by rw[e];exact an));have aF:Ay Wb (smOn D N.bs (q+1)) O own4:=⟨au.o.ext,au.o.fr.trans' aO (fun b Z (e:b=r0)=>by have:=b1.o;omega),au.o.sm⟩
       have I:=LH aD;have bD:=LH (bx.o.left_eq▸aE:ai<wr.rangeLeft N.bs r0);have aq:H4.c=3/\H4.m=J.m/\Wf H4/\∀ s,(H4.sh s).aa=(J.sh s).aa:=by
        rcases aj.o with ⟨e,_⟩|⟨e,_⟩
        ·rw[e];exact⟨aP,rfl,bu.o,fun _=>rfl⟩
        ·rw[e];have f:=(If J (q+1)).1;exact⟨f.c.trans aP,f.m,bu.o.abort aP (by omega) ao,fun s=>Sa J (q+1) s⟩
       obtain⟨aq,ct,b6,bV⟩:=aq;obtain⟨v4,b7⟩:=E.tx (q+1) (by omega) (by omega);obtain⟨_,d1,_,_,_,_,_,dl⟩:=b7.cells;obtain⟨co,a9⟩:=E.hs;obtain⟨_,d3,_,_,cA⟩:=a9.cells;obtain⟨r5,k5,bm,cp,bY⟩:=a9.bZ (s:=k) (by omega);rw[bm,aq] at d3;obtain⟨_,e2,_,_,_,_,_,_,cz⟩:=E.bH (s:=k) (by omega);rw[bV k] at e2;have bK:=LH (q42 E b6 aq (show 1<=q+1 by omega) (show q+1<=H4.m by omega));have bG:=LH E;have aG:=LH aF;have cx:(k:Int)<3:=by omega
       unfold pw at bK bY;have bh:(∀ M:Int->Bool,(∀ y,M y=Jx->left y=Jx\/y=(k:Int))->Uw J H4 (q+1) M)->NG P (smOn D N.bs (q+1)) J (q+1) N.bs r0 Wb O/\O.rangeLeft N.bs r0<wr.rangeLeft N.bs r0:=fun hs=>by
        refine⟨⟨_,ai,own4,H4,I.o,bG.o,aG.o,an,aM,hs _ (fun y hy=>?_)⟩,by rw[I.o.left_eq];exact bD.o⟩;rcases Bool.and_eq_false_iff.1 hy with h|h
        ·exact .inl h
        ·right;simpa using h
       have bI:=LH bh;clear bh E aF aD aE aO bL T b7 a9 bm b6 bP;by_cases g:(H4.tx (q+1)).state=1
       ·have hH:H4=J:=by
         rcases aj.o with ⟨e,_⟩|⟨e,_⟩
         ·exact e
         ·exfalso;rw[e,((If J (q+1)).2.2 (q+1)).1,if_pos rfl] at g;cases g
        have aU:=aj.o;by_cases X:e9=(J.sh k).aa
        ·have K:=bI.o (fun M hl=>by
          rcases aU with ⟨e,h0⟩|hr
          ·refine .inl ⟨e,fun k' bT bR=>?_⟩;rcases hl _ bR with h|h
           ·exact h0 k' bT h
           ·rintro ⟨_,bf⟩;rw[h] at bf;have ek:k'=k:=by omega
            subst ek;exact bf (by rw[ap,X])
          ·exact .inr hr)
         have al:=LH K.1;have ak:=LH K.2;have be:(e9 != (J.sh k).aa)=Jx:=by simpa using X
         rw[g] at d1;clear K aU g hH X;go_wp2_with fail;go_roundw
         case rel=>exact al.o
         case measure=>exact ak.o
        ·have be:(e9 != (J.sh k).aa)=VJ:=by simpa using X
         have aB:(J.tx (q+1)).state=1:=by rw[<- hH];exact g
         have a0:Ka J (q+1):=⟨k,bS,by rw[ap];intro h;injection h with h;exact X h⟩
         have bz:=LH (fun W R (ar:HI W R P (H4.abort (q+1))) (hz:Ay O own4 W R)=>(by
          have c2:=hz.fr.block N.bs I.o.owns.lt (fun⟨t,e,ht⟩=>by rw[aM] at e;injection e with e;subst e;exact ht.2.2 _ rfl);have bN:=hz.fr.block r0 I.o.lt (fun⟨t,e,_⟩=>by rw[an] at e;cases e);have aC:=I.o.bw c2 bN;exact⟨⟨_,ai,R,H4.abort (q+1),aC,ar,aG.o.trans hz,(hz.ext _ I.o.lt).trans an,(hz.ext _ I.o.owns.lt).trans aM,.inr ⟨by rw[hH],aB,a0⟩⟩,by rw[aC.left_eq];exact bD.o⟩:NG P (smOn D N.bs (q+1)) J (q+1) N.bs r0 Wb W/\W.rangeLeft N.bs r0<wr.rangeLeft N.bs r0))
         rw[g] at d1;clear aU g hH X aB a0;go_wp2_with fail;refine bK.o.mono ?_;rintro e w5 ⟨rfl,R,ar,bk⟩;have K:=bz.o w5 R ar bk;have al:=LH K.1;have ak:=LH K.2;clear K ar bk bz;go_wp2_with fail;go_roundw
         case rel=>exact al.o
         case measure=>exact ak.o
       ·have ch:((H4.tx (q+1)).state == 1)=Jx:=by simpa using g
        have K:=bI.o (fun M _=>by
         rcases aj.o with ⟨e,_⟩|hr
         ·exact .inl ⟨e,fun _ _ _ h=>g (by rw[e];exact h.1)⟩
         ·exact .inr hr)
        have al:=LH K.1;have ak:=LH K.2;clear K g;go_wp2_with fail;go_roundw
        case rel=>exact al.o
        case measure=>exact ak.o
    ·obtain rfl:q=H2.m:=by omega
     have G:=bw.o H2.m (K0 _);have aw:=LH (q4d (show HI wr D P H2.aY from E) G.1 (G.2.c.trans aQ));have aV:=LH (aW.o.trans a3);unfold pw at aw;clear E a3 G;go_wp2_with fail;refine aw.o.mono ?_;rintro e O ⟨rfl,H',hr,own4,ah,ag⟩;have HF:=LH (show FixsP P own H w (.returned (.tuple #[])) O from⟨rfl,H',cf.o H' hr,own4,ah,aV.o.trans ag⟩);clear hr ah ag;go_wp2_with fail
     go_end0
     exact HF.o
end
end Go.Proofs.YtccahlhdifadfaaGreatDoor
