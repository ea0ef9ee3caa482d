/- Part 6 of the texts that the claim rests on (of 9): HfS, HfT, HfU, HfY, Pe2, Pf2, Ph1, Ph2, Ph3, Ph4, Ph5, Ph6, IxP, HfV, HfW, Hh1, HeldY, Hh2, Hg0, Hg1, Hg2. -/
import Derived.Test.YtccahlhdifadfaaGreatDoorPk04
import Derived.StillTailTactics
import Derived.RangeFuncNested
import Derived.RangeFuncBound
import Derived.RangeFuncCalls
import Derived.RangeFuncLeaves
import Derived.Shelf.Abstract
import Derived.Shelf.RegionOpen
import Derived.WalkKit
import Derived.OwnWalkIn
import Derived.TacticsInMore
import Derived.LoopNIn
import Derived.LoopIn
import Derived.OrdersIn
namespace Go.Proofs.YtccahlhdifadfaaGreatDoor
open Go.RowKit
open _root_.Array renaming replicate_zero → YN, replicate_succ → YO
open _root_.Bool renaming false → Jx, true → T2, and_eq_true → Wq, not_eq_true' → X7
open _root_.Go renaming World → B1, Value → Hi, Calls → VX, maxLen → VZ, wpAnyIn_done → WW, undef → Yc
open _root_.Go.Fence renaming wide → XV
open _root_.Go.IntWalk renaming i64_in → V8
open _root_.Go.Region renaming ready → Wn, wanted → Wo
open _root_.Go.RowKit renaming Below → VJ, wrap64 → Xa
open _root_.Go.RowKit.Below renaming refl → S2
open _root_.Go.Value renaming int → Wi, oneCell' → Wy
open _root_.Go.World renaming ownsRow_nil → VY, cell?_alloc_lt → WY
open _root_.Iff renaming rfl → Yr
open _root_.Int renaming le_refl → Xk
open _root_.List renaming getElem?_cons_zero → D0, getElem?_toArray → Ft, getElem?_eq_getElem → K0, getElem?_cons_succ → N2, mem_of_getElem? → O0, flatMap_cons → VI, mem_cons_self → VL, mem_cons_of_mem → VM, length_append → VP, findIdx?_eq_some_iff_getElem → VR, prefix_refl → VS, getElem?_map → VT, take_add_one → VV, mem_singleton → VW, getElem?_append_left → Wc, getElem?_append_right → Wd, getElem_mem → WE, range' → WG, length_cons → WH, nil_append → WL, take_length → WR, foldl_append → WS, map_append → Xe, size_toArray → Xn, length_nil → Xu, length_set → XG, cons_append → XL, mem_range'_1 → X2, append_toArray → YW, prefix_append → Y0, findIdx?_cons → Y1, push_toArray → Y7, find?_cons_of_pos → Y9
open _root_.List.Pairwise renaming filter → X1, nil → Yj
open _root_.Nat renaming le_refl → L1, lt_of_lt_of_le → VH, zero_le → VK, le_succ → W5, lt_or_ge → W9
open _root_.Option renaming some → Bs, none → B0, map_some → Wv, isSome_iff_ne_none → YR
open _root_.Option.some renaming injEq → VN
set_option linter.all false
set_option maxRecDepth 100000
set_option maxHeartbeats 16000000
def Gi (t:Tg):Prop:=t=.txr\/t=.hs
theorem Wf.begin {H:Hs} (h:Wf H) (l:H.m<60):Wf H.begin:=by
 have e:∀ i,i<=H.m->H.begin.tx i=H.tx i:=fun i c=>AF (by omega) _
 have e1:H.begin.tx (H.m+1)=Bm:=Ay _ _ _;refine⟨h.n4,h.c3,l,h.nd,h.tab,h.sto,h.ak,h.net,h.down,fun i g c=>?_,?_,fun i g c=>?_⟩
 ·rcases W9 H.m i with b|b
  ·rw[show i=H.m+1 by have:i<=H.m+1:=c;omega,e1];exact⟨VK _,fun p j=>(nomatch j),fun k e f=>(nomatch f),fun k e f=>(nomatch f),fun a d=>(nomatch d),List.nodup_nil⟩
  ·rw[e i b];exact h.tx i g b
 ·show H.ae=Eg H.begin;rw[h.tm];unfold Eg;show _=(((WG 1 (H.m+1)).filter fun i=>decide ((H.begin.tx i).ae≠0)).length:Int);rw[List.range'_concat,List.filter_append];have m:List.filter (fun i=>decide ((H.begin.tx i).ae≠0)) [1+1*H.m]=[]:=by
   rw[List.filter_eq_nil_iff];intro a d;rw[VW] at d;rw[d,show 1+1*H.m=H.m+1 by omega,e1];simp[Bm]
  rw[m,List.append_nil];congr 2;apply List.filter_congr;intro i c;rw[X2] at c;rw[e i (by omega)]
 ·rcases W9 H.m i with b|b
  ·rw[show i=H.m+1 by have:i<=H.m+1:=c;omega,e1];have:=h.aY;exact⟨Xk _,this.1⟩
  ·rw[e i b];exact h.cL i g b
section
variable {w w' w4 w5:B1} {own own' own4:Ai} {P:Aw} {H:Hs}
theorem HI.grown (h:HI w own P H) (g:VJ w.heap.size w w') (d:Ext own own' w.heap.size) (e:∀ b,own' b≠B0->b<w'.heap.size):HI w' own' P H:=
 have c:=q5t own g
 ⟨e,h.hs.aJ c d (fun _ _ h=>h),fun s hs=>(h.sh s hs).aJ c d (fun _ _ h=>h),fun s j hs f=>(h.nd s j hs f).aJ c d (fun h=>h),fun i m l=>(h.tx i m l).aJ c d (fun h=>h) (fun h=>h)⟩
theorem HI.cz (h:HI w4 own4 P H) {b:Nat} {I:KN} (z:Cx w4 own4 (H.m+1) b I Bm) {v:KO} (f:En w4 own4 P H.c H.m H.net H.ae v) {V':Hi} (B:Aq w4 w5 v.Vt.ownBlock V'.ownBlock)
  (J:w5.ownsRow 0 74 1 V' (H.m+1) (((WG 1 H.m).map fun i=>pw (P.gt i))++[pw b])) :
  ∃ own',HI (w5.setCell ⟨P.g,4,B0⟩ V') own' { P with gt:=Ae P.gt (H.m+1) b } H.begin/\HZ Gi w4 own4 (w5.setCell ⟨P.g,4,B0⟩ V') own':=by
 have m:Ext own4 (DW own4 w4.heap.size (fun q=>V'.ownBlock=Bs q) .txr) w4.heap.size:=Rn;have E:Fr (OS own4 Gi) w4 w5:=B.1.mono (fun q _ e=>⟨_,f.bh q e.symm,.inl rfl⟩);have o:=Fr.ax P.g w5 4 V';have l:Fr (OS own4 Gi) w4 (w5.setCell ⟨P.g,4,B0⟩ V'):=E.setCell (p:=⟨P.g,4,B0⟩) (.inl ⟨_,f.gt,.inr rfl⟩) _;have D:¬Bs P.g=v.Vt.ownBlock:=fun e=>by have:=f.bh P.g e.symm;rw[f.gt] at this;cases this
 have r:Ab w5 P.g 92 (OD v H.ae):=B.1.ah f.nt.ah D;have A:∀ q,Fb v q->¬OS own4 Gi q:=fun q d hs=>by rcases hs.tag (f.aV q d) with e|e <;> cases e
 have N:AJ (w5.setCell ⟨P.g,4,B0⟩ V') 0 P.g 0 92 (OD { v with Vt:=V' } H.ae) v.Vn v.D 100 v.L H.net.ak v.lost:=
  f.nt.bO l A (r.aC 4 V') rfl rfl rfl
 have g:(w5.setCell ⟨P.g,4,B0⟩ V').ownsRow 0 74 1 V' (H.m+1) ((WG 1 (H.m+1)).map fun i=>pw (Ae P.gt (H.m+1) b i)):=by
  have G:((WG 1 (H.m+1)).map fun i=>pw (Ae P.gt (H.m+1) b i))=(((WG 1 H.m).map fun i=>pw (P.gt i))++[pw b]):=by
   rw[List.range'_concat,Xe];congr 1
   ·apply List.map_congr_left;intro i C;rw[X2] at C;rw[AF (by omega)]
   ·rw[show 1+1*H.m=H.m+1 by omega,List.map_cons,List.map_nil,Ay]
  rw[G];exact o.own J (fun q d e=>Be J r (by decide) (by rw[d,e]))
 have u:∀ q,V'.ownBlock=Bs q->DW own4 w4.heap.size (fun q=>V'.ownBlock=Bs q) .txr q=Bs .txr:=fun q d=>Rl (by
  rcases B.2 with e|⟨R,e,O⟩
  ·exact .inl (f.bh q (by rw[<- e];exact d))
  ·rw[e] at d;injection d with d;exact .inr (by omega)) d
 refine⟨_,⟨Rk l.size (fun q d=>(g.lt q d).2),⟨{ v with Vt:=V' },N,f.msgs,fun q d=>(m q (f.nt.av d)).trans (f.aV q d),f.bf,l.own f.shr (fun q d hs=>by rcases hs.tag (f.bm q d) with e|e <;> cases e),fun q d=>(m q (f.shr.lt q d).2).trans (f.bm q d),g,u,(m _ f.nt.ah.lt).trans f.gt⟩,fun s hs=>?_,fun s j hs M=>?_,fun i G C=>?_⟩,⟨m,l,(by first|exact Qc (by simp)|exact fun _ _ h=>h)⟩⟩
 ·exact(h.sh s hs).aJ l m (fun t L c=>by rcases L with h|h|h|h|h <;> subst h <;> rcases c with h|h <;> cases h)
 ·exact(h.nd s j hs M).aJ l m (fun c=>by rcases c with h|h <;> cases h)
 ·rcases W9 H.m i with K|K
  ·obtain rfl:i=H.m+1:=by have:i<=H.m+1:=C;omega
   show TH _ _ (H.m+1) (Ae P.gt (H.m+1) b (H.m+1)) (Ae H.tx (H.m+1) Bm (H.m+1));rw[Ay,Ay];exact⟨I,z.aJ l m (fun c=>by rcases c with h|h <;> cases h) (fun c=>by rcases c with h|h <;> cases h)⟩
  ·show TH _ _ i (Ae P.gt (H.m+1) b i) (Ae H.tx (H.m+1) Bm i);rw[AF (by omega),AF (by omega)];exact(h.tx i G K).aJ l m (fun c=>by rcases c with h|h <;> cases h) (fun c=>by rcases c with h|h <;> cases h)
end
theorem Rv:(Tryz.prog.info? 74).map (fun i=>(i.zero,i.size,i.bytes))=Bs (Bs (.pointer B0),1,8):=by kernel_rfl
def Tn (P:Aw) (own:Ai) (H:Hs) (w:B1) (e:Ending) (w':B1):Prop:=e=.returned (.tuple #[.int .i64 ((H.m+1:Nat):Int),.nilIface])/\∃ b own',HI w' own' { P with gt:=Ae P.gt (H.m+1) b } H.begin/\HZ Gi w own w' own'
section
variable {w w':B1} {own own':Ai} {P:Aw} {H:Hs}
def Qg (w:B1) (m:Nat):B1:=(((w.alloc (.map #[] 0)).alloc (.map #[] 0)).alloc (.map #[] 0)).alloc (.cells #[.int .i64 ((m:Int)+1),.int .i64 1,.slice B0 0 0,.map (Bs w.heap.size),.map (Bs (w.heap.size+1)),.int .i64 0,.int .i64 (-1),.map (Bs (w.heap.size+2)),.slice B0 0 0] 78)
def bgV (w:B1):KN:=⟨.slice B0 0 0,w.heap.size,w.heap.size+1,.map (Bs (w.heap.size+2)),.int .i64 (-1),.slice B0 0 0⟩
theorem bg_tx (w:B1) (own:Ai) (m:Nat) (h:m<60):Cx (Qg w m) (Di own w.heap.size (w.heap.size+4) (.tx (m+1))) (m+1) (w.heap.size+3) (bgV w) Bm/\VJ w.heap.size w (Qg w m)/\(Qg w m).heap.size=w.heap.size+4:=by
 have e:(Qg w m).heap.size=w.heap.size+4:=by unfold Qg;simp
 have c:VJ w.heap.size w (Qg w m):=((((S2 _ _).alloc (L1 _) _).alloc (by simp) _).alloc (by simp;omega) _).alloc (by simp;omega) _;have d:∀ b,w.heap.size<=b->b<w.heap.size+4->Di own w.heap.size (w.heap.size+4) (.tx (m+1)) b=Bs (.tx (m+1)):=fun b g f=>OU g f
 refine⟨⟨?_,VY _ _ _ _,?_,?_,VY _ _ _ _,by show w.heap.size≠w.heap.size+1;omega,d _ (by omega) (by omega),fun b c=>(nomatch c),.inl (d w.heap.size (L1 _) (by omega)),d (w.heap.size+1) (by omega) (by omega),fun b c=>(nomatch c)⟩,c,e⟩
 ·have:=Ab.new (((w.alloc (.map #[] 0)).alloc (.map #[] 0)).alloc (.map #[] 0)) 78 #[.int .i64 ((m:Int)+1),.int .i64 1,.slice B0 0 0,.map (Bs w.heap.size),.map (Bs (w.heap.size+1)),.int .i64 0,.int .i64 (-1),.map (Bs (w.heap.size+2)),.slice B0 0 0];rw[show(((w.alloc (.map #[] 0)).alloc (.map #[] 0)).alloc (.map #[] 0)).heap.size=w.heap.size+3 by simp] at this;exact this
 ·exact((((Aa.made BC w).alloc (.map #[] 0)).alloc (.map #[] 0)).alloc _).mono (VK 100)
 ·have:=((Aa.made BC (w.alloc (.map #[] 0))).alloc (.map #[] 0)).alloc (.cells #[.int .i64 ((m:Int)+1),.int .i64 1,.slice B0 0 0,.map (Bs w.heap.size),.map (Bs (w.heap.size+1)),.int .i64 0,.int .i64 (-1),.map (Bs (w.heap.size+2)),.slice B0 0 0] 78);rw[show(w.alloc (.map #[] 0)).heap.size=w.heap.size+1 by simp] at this;exact this.mono (VK 100)
theorem qac (h:HI w own P H) (hm:H.m<60):VX Tryz.prog 17 #[pw P.g] w (Tn P own H w):=by
 have W:=@run_makeMap Tryz.prog;obtain⟨B,o,D⟩:=bg_tx w own H.m hm;have q:=h.grown o (FJ own w.heap.size (w.heap.size+4) (.tx (H.m+1))) (fun b hb=>by rw[D];exact Rz (by omega) hb);have a1:=LH q;have j:=LH B;have a0:=LH (show HZ Gi w own (Qg w H.m) (Di own w.heap.size (w.heap.size+4) (.tx (H.m+1))) from⟨FJ _ _ _ _,(q5t own o).mono (fun _ _ ⟨t,a,b⟩=>⟨t,a,b.elim⟩),fun b i e=>by unfold Di at e;split at e;exact e;split at e <;> simp at e⟩);obtain⟨v0,r⟩:=h.hs;obtain⟨_,_,c4,_,gl⟩:=r.cells;obtain⟨A0,q0,J,_,_⟩:=AK r.txr;rw[J] at c4;have V:((H.m:Int) == 60)=Jx:=by simpa using (by omega:¬(H.m:Int)=60)
 have a2:P.g<(Qg w H.m).heap.size:=by omega
 have Y:(Qg w H.m).cell? ⟨P.g,4,B0⟩=Bs (.slice A0 H.m q0):=(o.cell (p:=⟨P.g,4,B0⟩) gl).trans c4;have U:=j.o.cells.1;have T:=j.o.cells.2.2.2.2.2.2.2;have a3:(Qg w H.m).frozen? ⟨P.g,4,B0⟩=Jx:=by
  obtain⟨l,c⟩:=q.hs;exact c.nt.ah.frozen 4
 have O:=LH (show ∃ l,En (Qg w H.m) (Di own w.heap.size (w.heap.size+4) (.tx (H.m+1))) P H.c H.m H.net H.ae l/\l.Vt=.slice A0 H.m q0 from by
  obtain⟨l,c⟩:=q.hs;refine⟨l,c,?_⟩;have e:=c.cells.2.2.1;rw[Y] at e;injection e with e;exact e.symm)
 unfold Qg at *;clear h r J B q o;unfold pw at *;go_enter Tryz.func17,Tryz.ntmps17;go_upto_region 4 with (fail)
 clear c4 W V D U T;generalize World.alloc (World.alloc (World.alloc (World.alloc w _) _) _) _=W4 at *;obtain⟨l,c,u⟩:=O.o;have N:=LH c;have f:=c.txr;rw[u] at f;have v:=LH f;have M:=LH u;have X:¬Bs P.g=l.Vt.ownBlock:=fun e=>by have:=c.bh P.g e.symm;rw[c.gt] at this;cases this
 have G:¬Bs (w.heap.size+3)=l.Vt.ownBlock:=fun e=>by have:=c.bh _ e.symm;rw[j.o.gt] at this;cases this
 clear c u f O;go_wp2_with (at_builtin;refine stop ?_)
 refine Cn ?_;refine Nf W4 _ rfl (.tmp 27) (.tmp 29) 90 rfl 0 74 (.pointer B0) 1 8 Tryz.underlying90 Rv rfl (by decide) _ _ _ #[.pointer (Bs ⟨w.heap.size+3,0,B0⟩)] rfl v.o 1 rfl _ rfl rfl (by simp[Wy]) (by unfold VZ;omega) (by omega) (VK _) ?_;intro L z d E;have g:Aq W4 z l.Vt.ownBlock L.ownBlock:=by rw[M.o];exact E
 obtain⟨A,K,I⟩:=a1.o.cz j.o N.o g d;have m:=g.1.ah N.o.nt.ah X;have y1:=m.frozen 4;have S:=m.cell 4;unfold OD at S;simp only[Ft,D0,N2] at S;rw[M.o] at S;have yl:=m.lt;have C:=(g.1.ah j.o.ah G)
 have s:=(Fr.ax P.g z 4 L).ah C (by omega);have R:=s.cell 0;have tl:=s.lt;unfold OE at R;simp only[Ft,D0] at R;have T0:=LH (show(z.setCell ⟨P.g,4,B0⟩ L).cell? ⟨w.heap.size+1+1+1,0,B0⟩=Bs (.int .i64 ((H.m:Int)+1)) from R);have TL:=LH (show w.heap.size+1+1+1<(z.setCell ⟨P.g,4,B0⟩ L).heap.size from tl);clear R tl s;have HF:=LH (show Tn P own H w (.returned (.tuple #[.int .i64 ((H.m:Int)+1),.nilIface])) (z.setCell ⟨P.g,4,B0⟩ L) from⟨rfl,w.heap.size+3,A,K,a0.o.trans I⟩);obtain⟨A7,c7,Z,_,_⟩:=AK d;subst Z;clear E g m C K I d;go_upto_region 5 with (fail)
 generalize (z.setCell _ _)=w7 at *;generalize w.heap.size+1+1+1=tb at *;have t1:=T0.o;have t2:=TL.o;go_wp2_with fail;go_ret2;exact HF.o
end
theorem OR:(Tryz.prog.info? 66).map (fun i=>(i.zero,i.size,i.bytes))=Bs (Bs (.slice B0 0 0),1,24):=by kernel_rfl
structure Ee (w:B1) (x:Hi×List Bt) (l:List Cm):Prop where
 row:w.ownsRow 0 69 4 x.1 x.2.length (x.2.flatMap DX)
 log:AM x.2=l
 own:∀ y∈x.2,EJ w 0 y
 bf:x.2.length<=500
def LgSo (H:Hs) (s:Nat) (l:List Nat) (w wr:B1) (V:Hi) (b:List (Hi×List Bt)):Prop:=
 wr.ownsRow w.heap.size 66 1 V b.length (b.map (·.1))/\(∀ (i:Nat) (x:Hi×List Bt),b[i]? = Bs x->∃ j:Nat,l[i]? = Bs j/\Ee wr x ((H.sh s).nd j).log)/\VJ w.heap.size w wr
def NV (H:Hs) (s:Nat) (l:List Nat) (w:B1) (e:Ending) (w':B1):Prop:=
 ∃ V b,e=.returned (.tuple #[V,.nilIface])/\b.length=l.length/\LgSo H s l w w' V b
def S7 (H:Hs) (s:Nat) (w:B1) (e:Ending) (w':B1):Prop:=NV H s ((H.sh s).aj H.n) w e w'
def LgRel (H:Hs) (s:Nat) (l:List Nat) (w:B1) (c b:Hi) (wr:B1):Prop:=
 ∃ (q:Nat) (Ls:List (Hi×List Bt)),b=.int .i64 q/\q<=l.length/\Ls.length=q/\LgSo H s l w wr c Ls
section
variable {w w':B1} {own own':Ai} {P:Aw} {H:Hs}
theorem Ee.below {B:Nat} {x:Hi×List Bt} {l:List Cm} (h:Ee w x l) {V:Hi} {n:Nat} {xs:List Hi} (g:w.ownsRow B 66 1 V n xs) (f:Fr (fun b=>Bs b=V.ownBlock) w w'):Ee w' x l:=
 ⟨f.own h.row (fun b d e=>E0 h.row g (by decide) d e.symm),h.log,fun y c=>⟨f.own (h.own y c).1 (fun b d e=>E0 (h.own y c).1 g (by decide) d e.symm),(h.own y c).2⟩,h.bf⟩
theorem Ee.a8 {x:Hi×List Bt} {l:List Cm} (h:Ee w x l) (c:VJ w.heap.size w w'):Ee w' x l:=by
 have e:=DV c;exact⟨e.own h.row (fun b c hs=>by have:=(h.row.lt b c).2;omega),h.log,fun y d=>⟨e.own (h.own y d).1 (fun b c hs=>by have:=((h.own y d).1.lt b c).2;omega),(h.own y d).2⟩,h.bf⟩
theorem RU (h:HI w own P H) (wf:Wf H) (hc:H.c=3) {s:Nat} (ad:s<3):VX Tryz.prog 22 #[pw P.g,.int .i64 s] w (S7 H s w):=by
 have HH:=LH h;have ai:=LH wf;have af:=wf.n4;obtain⟨vh,M⟩:=h.hs;obtain⟨_,c3,_,_,gl⟩:=M.cells;obtain⟨r3,k3,Z,a6,a9⟩:=M.bR (s:=s) (by omega);rw[Z,hc] at c3;have ac:(s:Int)<3:=by omega
 have HL:=LH (q58 h wf (s:=s) (by omega));have ah:=q2m (H.sh s) H.n;have HM:=LH (fun j (hj:j∈(H.sh s).aj H.n)=>q3w hj);unfold DS at HL;rw[show S7 H s w=NV H s ((H.sh s).aj H.n) w from rfl];clear h wf M Z;generalize (H.sh s).aj H.n=l at *;unfold pw at *;go_enter Tryz.func22,Tryz.ntmps22;go_wp2_with fail;refine HL.o.mono ?_;rintro e T ⟨V,rfl,t,O⟩;obtain⟨A,c,rfl,_,_⟩:=AK t;have a0:=LH t;have S:=LH O;have ab:=LH (HH.o.below O);clear t O HL HH c3 a9 gl a6;go_wp2_with fail;go_loopw [6,30] (LgRel H s l T) (fun _ v _=>l.length-(intOf v).toNat)
 case atStart=>exact⟨0,[],rfl,VK _,rfl,VY _ _ _ _,fun i x U=>by simp at U,S2 _ _⟩
 case round=>
  obtain⟨q,Ls,rfl,hq,D,z,E,g⟩:=hrel;by_cases ag:(q:Int)<l.length
  ·have N:q<l.length:=by omega
   have ae:q<=4:=by omega
   obtain⟨r,o,u,hA,hr,hu,a8⟩:=((Rd.au a0.o).below g).bQ (k:=q) N;have U:l[q]? = Bs l[q]:=K0 N;rw[VT,U] at hu;simp only[Wv,VN] at hu;subst hu hA;have a5:r<wr.heap.size:=VH hr g.size;have a7:=HM.o l[q] (WE N);have HX:=LH U;clear U;generalize l[q]=j at *;obtain⟨C,V,L,hN,_⟩:=(ab.o.below g).nd s j (by omega) a7;have a3:=LH (q9o hN);have HN:=LH hN;obtain⟨A6,c6,rfl,_,_⟩:=AK z;have a1:=LH z;have aa:=LH E;have R:=LH g;clear hN z E g;go_wp2_with fail;refine a3.o.mono ?_;rintro e w5 ⟨A5,k5,rfl,p,B,W⟩;have J:=(DV B).own a1.o (fun b Y hs=>by have:=(a1.o.lt b Y).2;omega);have K:Ee w5 (.slice A5 L.length k5,L) ((H.sh s).nd j).log:=⟨p,HN.o.log,fun y hy=>⟨(DV B).own (HN.o.own y hy).1 (fun b Y hs=>by have:=((HN.o.own y hy).1.lt b Y).2;omega),(HN.o.own y hy).2⟩,HN.o.len⟩
   have I:T.heap.size<=w5.heap.size:=Nat.le_trans R.o.size B.size;have d:=LH J;have a2:=LH K;have a4:=LH B;clear J K p B W a3 a8 a5;rw[D] at d;go_wp2_with (at_builtin;refine stop ?_)
   refine Cn ?_;refine Nf w5 _ rfl (.tmp 34) (.tmp 37) 62 rfl T.heap.size 66 (.slice B0 0 0) 1 24 Tryz.underlying62 OR rfl (by decide) _ _ _ #[.slice A5 L.length k5] rfl d.o 1 rfl _ rfl rfl (by simp[Wy]) (by unfold VZ;omega) (by omega) I ?_;intro V2 w8 m G;have X:VJ T.heap.size w5 w8:=G.below (fun b Y=>(d.o.lt b Y).1) I;have hR:LgRel H s l T V2 (.int .i64 ((q+1:Nat):Int)) w8:=by
    refine⟨q+1,Ls++[(.slice A5 L.length k5,L)],rfl,by omega,by simp[D],?_,fun i x f=>?_,R.o.trans ((a4.o.mono R.o.size).trans X)⟩
    ·rw[VP,Xe,D];exact m
    ·rcases W9 i q with h1|h1
     ·rw[Wc (by omega)] at f;obtain⟨j',e1,e2⟩:=aa.o i x f;exact⟨j',e1,(e2.a8 a4.o).below d.o G.1⟩
     ·rw[Wd (by omega)] at f;obtain rfl:i=q:=by
       have:=(List.getElem?_eq_some_iff.1 f).1;simp at this;omega
      rw[D,Nat.sub_self] at f;simp only[D0,VN] at f;subst f;exact⟨j,HX.o,a2.o.below d.o G.1⟩
   have HR:=LH hR;clear hR X G m;go_wp2_with fail;go_roundw
   ·exact HR.o
   ·simp[intOf];omega
  ·obtain rfl:q=l.length:=by omega
   have HF:=LH (show NV H s l w (.returned (.tuple #[u6,.nilIface])) wr from⟨u6,Ls,rfl,D,Lw z S.o.size,E,S.o.trans (g.mono S.o.size)⟩);clear z E g;go_wp2_with fail;go_ret2;exact HF.o
end
def Ea (w:B1) (g o:Nat) (x:Pr):B1:=((w.setCell ⟨g,o,B0⟩ (.string x.key)).setCell ⟨g,o+1,B0⟩ (.string x.val)).setCell ⟨g,o+2,B0⟩ (.bool x.gone)
theorem Rb (w:B1) (g o:Nat) (x:Pr):Fr (fun i=>i=g) w (Ea w g o x):=
 (((Fr.refl (fun i=>i=g) w).setCell (p:=⟨g,o,B0⟩) (.inl rfl) _).setCell (p:=⟨g,o+1,B0⟩) (.inl rfl) _).setCell (p:=⟨g,o+2,B0⟩) (.inl rfl) _
theorem rset:∀ (M:List Pr) (i:Nat) (x:Pr),i<M.length->((((M.flatMap C9).set (i*3) (.string x.key)).set (i*3+1) (.string x.val)).set (i*3+2) (.bool x.gone))=(M.set i x).flatMap C9
 | [],i,x,h=>by simp at h
 | y::M,0,x,_=>by simp[C9]
 | y::M,i+1,x,h=>by
  have b:=rset M i x (by simpa using h);have c:(i+1)*3=i*3+3:=by omega
  rw[c,List.set_cons_succ,VI,VI,<- b];simp[C9,Nat.add_right_comm]
theorem Oy {w:B1} {base g n cap i:Nat} {M:List Pr} (h:w.ownsRow base 45 3 (.slice (Bs ⟨g,0,B0⟩) n cap) n (M.flatMap C9)) (x:Pr) (b:i<M.length) :
  (Ea w g (i*3) x).ownsRow base 45 3 (.slice (Bs ⟨g,0,B0⟩) n cap) n ((M.set i x).flatMap C9):=by
 rw[<- rset M i x b];exact(((h.stored _ _).1.stored _ _).1.stored _ _).1
theorem Wf.aa {H:Hs} (h:Wf H) {i:Nat} (f:1<=i) (e:i<=H.m) {l:List Pr} (d:l.length<=20) (c:∀ p∈l,SO p):Wf (H.aw i { H.tx i with aa:=l }):=by
 have b:=h.tx i f e;exact h.aw ⟨d,c,b.sh,b.pl,b.wn,b.wnd⟩ rfl
section
variable {w w':B1} {own own':Ai} {P:Aw} {H:Hs}
theorem HI.cR (h:HI w own P H) {i:Nat} (L:1<=i) (K:i<=H.m) {v:KN} (c:Cx w own i (P.gt i) v (H.tx i)) {g n cap q:Nat} (p:v.Vw=.slice (Bs ⟨g,0,B0⟩) n cap) (B:q<(H.tx i).aa.length) (x:Pr) :
  HI (Ea w g (q*3) x) own P (H.aw i { H.tx i with aa:=(H.tx i).aa.set q x })/\AA w own (Ea w g (q*3) x) own:=by
 have D:own g=Bs (.tx i):=c.wt g (by rw[p];rfl);have l:=Rb w g (q*3) x;have o:Fr (OS own (fun t=>t=.tx i)) w (Ea w g (q*3) x):=l.mono (fun b _ e=>⟨_,by rw[e];exact D,rfl⟩);obtain⟨A,n2,J,I,z,u,G,E⟩:=c.aQ;have j:v.Vw.ownBlock=Bs g:=by rw[p];rfl
 have f:=c.aa;rw[p] at f;have C:n=(H.tx i).aa.length:=by
  rcases f.2 with ⟨e,_⟩|⟨_,_,_,e,_⟩
  ·cases e
  ·injection e
 subst C;have d:=Oy f x B;rw[show(H.tx i).aa.length=((H.tx i).aa.set q x).length by rw[XG]] at d;have m:((H.tx i).aa.set q x).length=(H.tx i).aa.length:=by rw[XG]
 have r:Cx (Ea w g (q*3) x) own i (P.gt i) v { H.tx i with aa:=(H.tx i).aa.set q x }:=
  ⟨l.ah c.ah (fun e=>A (by rw[j,e])),by rw[p];rw[m] at d ⊢;exact d,c.ad.fr l (fun e=>z (by rw[j,e])),c.places.fr l (fun e=>u (by rw[j,e])),l.own c.af (fun b s e=>E0 c.af c.aa (by decide) s (by rw[j,e])),c.ne,c.gt,c.wt,c.st,c.pt,c.xt⟩
 exact⟨h.setTx' o (Ext.refl own _) (fun b s=>VH (h.lt b s) l.size) ⟨v,r⟩,⟨Ext.refl own _,GR o (fun _=>Dv),fun _ _ h=>h⟩⟩
theorem HI.cG (h:HI w own P H) {i:Nat} {v:KN} (f:Cx w own i (P.gt i) v (H.tx i)) {x:Pr} {V':Hi} (l:Aq w w' v.Vw.ownBlock V'.ownBlock)
  (q:w'.ownsRow 0 45 3 V' ((H.tx i).aa.length+1) ((H.tx i).aa.flatMap C9++C9 x)):∃ own',HI (w'.setCell ⟨P.gt i,2,B0⟩ V') own' P (H.aw i { H.tx i with aa:=(H.tx i).aa++[x] })/\AA w own (w'.setCell ⟨P.gt i,2,B0⟩ V') own':=by
 have m:Fr (fun b=>v.Vw.ownBlock=Bs b\/w.heap.size<=b) w w':=l.1.mono (fun b _ e=>.inl e.symm);have o:Ext own (DW own w.heap.size (fun b=>V'.ownBlock=Bs b) (.tx i)) w.heap.size:=Rn;have j:w'.ownsRow 0 45 3 V' ((H.tx i).aa++[x]).length (((H.tx i).aa++[x]).flatMap C9):=by
  rw[VP,List.flatMap_append];simpa using q
 have r:∀ b,V'.ownBlock=Bs b->DW own w.heap.size (fun b=>V'.ownBlock=Bs b) (.tx i) b=Bs (.tx i):=fun b d=>Rl (by
  rcases l.2 with e|⟨u,e,s⟩
  ·exact .inl (f.wt b (by rw[<- e];exact d))
  ·rw[e] at d;injection d with d;exact .inr (by omega)) d
 have g:=f.cE o m j r;have c:Fr (OS own (fun t=>t=.tx i)) w (w'.setCell ⟨P.gt i,2,B0⟩ V'):=
  (l.1.mono (T:=OS own (fun t=>t=.tx i)) (fun b _ e=>⟨_,f.wt b e.symm,rfl⟩)).setCell (p:=⟨P.gt i,2,B0⟩) (.inl ⟨_,f.gt,rfl⟩) _
 exact⟨_,h.setTx' (t':={ H.tx i with aa:=(H.tx i).aa++[x] }) c o (Rk c.size (fun b d=>VH (q.lt b d).2 (Fr.ax (P.gt i) w' 2 V').size)) ⟨{ v with Vw:=V' },g⟩,⟨o,GR c (fun _=>Dv),(by first|exact Qc (by simp)|exact fun _ _ h=>h)⟩⟩
end
section
variable {H H':Hs} {i:Nat}
theorem BZ.wf (s:BZ H H') (e:Wf H) (p:H.c=3):Wf H':=by
 cases s with
 | abort d c hs=>exact e.abort p d c
 | tell d c f hs=>exact e.a7 d c (by omega) _
 | prep b d c f g l hs r o t=>exact e.add (by have:=DI f;omega) (q59 g) (e.bX d c _) b
 | place a d c f A hs=>exact e.aA d c (DI f) a
 | timed d c hs l=>exact e.timed d c
 | decide b d c g l hs r=>exact e.add (by omega) (q59 g) (e.de d c) b
 | commit d c hs l=>exact e.a3 d c 3
 | came d c f hs g o=>exact e.came d c f
 | @got i x mode d c hs h u g o q z=>exact e.aX d c (by have:=KM x;omega) h
 | @wait i x mode d c hs h u g o j q z=>exact(e.aX d c (s:=Ad x) (by have:=KM x;omega) h).aN d c h j
 | tick hs v=>exact e.aO p hs v.1
 | @arrive k m f=>exact(e.a9 k).arrive p (e.net m (O0 f))
structure Ci (H H':Hs):Prop where
 lv:∀ k j,Lv H' k j↔Lv H k j
 lg:∀ k j,lg H k j <+: lg H' k j
 ep:∀ k,(H'.sh k).ab=(H.sh k).ab
 ak:∀ k,(H'.sh k).ak=(H.sh k).ak
theorem Ci.refl (H:Hs):Ci H H:=⟨fun _ _=>Yr,fun _ _=>VS _,fun _=>rfl,fun _=>rfl⟩
theorem Ci.trans {A B C:Hs} (h:Ci A B) (k:Ci B C):Ci A C:=⟨fun a b=>(k.lv a b).trans (h.lv a b),fun a b=>(h.lg a b).trans (k.lg a b),fun a=>(k.ep a).trans (h.ep a),fun a=>(k.ak a).trans (h.ak a)⟩
theorem Bf.up (h:Bf H H'):Ci H H':=⟨fun _ _=>h.lv,fun k j=>by rw[h.lg];exact VS _,h.ab,h.ak⟩
theorem qbz {s j:Nat} {d:Nd} (b:d.id=((H.sh s).nd j).id) (c:lg H s j <+: d.log):Ci H (H.an s j d):=
 ⟨fun k a=>q5j b,fun k a=>by
  rw[q4q];split
  ·rename_i e;obtain⟨rfl,rfl⟩:=e;exact c
  ·exact VS _,
  fun k=>by
  by_cases e:k=s
  ·subst e;rw[EX]
  ·rw[Nb H j d e],
  fun k=>by
  by_cases e:k=s
  ·subst e;rw[EX]
  ·rw[Nb H j d e]⟩
theorem GQ (ms:List Ms):Ci H (H.send ms):=⟨fun _ _=>Yr,fun _ _=>VS _,fun _=>rfl,fun _=>rfl⟩
theorem UJ (d:Nd) (c:Cm) (b:Bool):d.log <+: (d.add c b).1.1.log:=by
 by_cases e:(d.add c b).2.2=0
 ·rw[(qc7 e).1,q3o];exact Y0 _ _
 ·rw[NK e];exact VS _
theorem Hx (H:Hs) (s j:Nat) (c:Cm) (b:Bool):Ci H (H.add s j c b).2:=by
 unfold Hs.add;split
 ·exact Ci.refl H
 ·exact((qbz (q48 _ c b).2 (UJ _ c b)).trans (GQ _)).trans (Bf.take _ _).up
theorem IR (H:Hs) (i:Nat) (kind:Int) (k:Nat):Ci H (H.a7 i kind k):=by
 cases b:H.head k with
 | none=>rw[TC b];exact Ci.refl H
 | some j=>
  rw[TD b];split
  ·exact Hx _ _ _ _ _
  ·exact Ci.refl H
theorem IQ (i:Nat) (kind:Int):∀ (ks:List Nat) (H:Hs),Ci H (telld H i kind ks)
 | [],H=>Ci.refl H
 | k::ks,H=>(IR H i kind k).trans (IQ i kind ks _)
theorem qcp (H:Hs) (i:Nat):Ci H (H.abort i):=by
 rw[Tu];exact((Bf.aw H i _).trans (q4k i _ _)).up.trans (IQ i 4 _ _)
theorem q8d (d:Nd) (m:Ms):d.log <+: (d.step m).1.log/\(d.step m).1.id=d.id:=by
 have b:d.log <+: (d.grow m.cmd).1.log/\(d.grow m.cmd).1.id=d.id:=by
  refine⟨by rw[q3o];exact Y0 _ _,?_⟩;unfold Nd.grow;split
  ·exact(E7 _).1
  ·rfl
 unfold Nd.step;split
 ·exact⟨VS _,rfl⟩
 ·simp only;split
  ·exact⟨VS _,rfl⟩
  ·split
   ·exact⟨VS _,rfl⟩
   ·split
    ·exact b
    ·split <;> exact⟨VS _,rfl⟩
theorem BZ.up (s:BZ H H'):Ci H H':=by
 cases s with
 | abort=>exact qcp _ _
 | tell=>exact IR _ _ _ _
 | prep=>exact Hx _ _ _ _ _
 | place=>exact(Bf.aw _ _ _).up
 | @timed i l h hs d=>
  have e:=Ro H i;exact(Bf.up ⟨e.1,e.2.1,e.2.2.2.2,fun s=>by rw[e.2.2.2.1],fun s=>by rw[e.2.2.2.1],fun s=>by rw[e.2.2.2.1]⟩)
 | decide=>exact Hx _ _ _ _ _
 | commit=>exact(Bf.aw _ _ _).up
 | came=>exact(Bf.aw _ _ _).up
 | @got i x mode=>exact(Bf.al (H:=H) (x:={ H.sh (Ad x) with tab:=An (H.sh (Ad x)).tab i x mode }) rfl rfl rfl).up
 | @wait i x mode=>exact((Bf.al (x:={ H.sh (Ad x) with tab:=An (H.sh (Ad x)).tab i x mode }) rfl rfl rfl).trans (Bf.aw _ i _)).up
 | @tick s j hs f=>exact(qbz (E7 _).1 (by rw[(E7 _).2.1];exact VS _)).trans (GQ _)
 | @arrive k m g=>
  have c:Ci H { H with net:=takeS H.net k }:=⟨fun _ _=>Yr,fun _ _=>VS _,fun _=>rfl,fun _=>rfl⟩
  cases b:Hs.node { H with net:=takeS H.net k } m.a4 with
  | none=>rw[OG b];exact c
  | some q=>
   obtain⟨s,j⟩:=q;rw[OH b];exact(c.trans ((qbz (q8d _ m).2 (q8d _ m).1).trans (GQ _))).trans (Bf.take _ _).up
theorem BQ.aT (i:Nat) (kind:Int):∀ (ks:List Nat) {H:Hs},BQ H->(∀ k∈ks,k<H.c)->BQ (Go.Proofs.YtccahlhdifadfaaGreatDoor.telld H i kind ks)
 | [],_,h,_=>h
 | k::ks,H,h,hk=>by
  have e:=KL H i kind k;have d:BQ (H.a7 i kind k):=by
   cases b:H.head k with
   | none=>rw[TC b];exact h
   | some j=>
    rw[TD b];split
    ·exact h.add (hk k VL) b _ _
    ·exact h
  exact BQ.aT i kind ks d (fun x c=>by rw[e.2.1];exact hk x (VM _ c))
theorem BQ.abort (h:BQ H) (d:H.c=3) (i:Nat):BQ (H.abort i):=by
 rw[Tu];have c:=Rm i (H.tx i).ai (H.aq i);exact BQ.aT i 4 _ (h.same ((Bf.aw H i _).trans (q4k i _ _))) (fun k b=>by rw[c.1];have:=DI b;show k<H.c;omega)
theorem BZ.chi (s:BZ H H') (h:BQ H) (l:H.c=3):BQ H':=by
 cases s with
 | abort=>exact h.abort l _
 | @tell i k kind g d c hs=>exact BQ.aT i kind [k] h (fun x m=>by rw[VW] at m;omega)
 | prep b g d c f j hs o r p=>exact h.add (by have:=DI c;omega) f _ _
 | place=>exact h.same (Bf.aw _ _ _)
 | @timed i g d hs j=>
  have e:=Ro H i;exact h.same ⟨e.1,e.2.1,e.2.2.2.2,fun s=>by rw[e.2.2.2.1],fun s=>by rw[e.2.2.2.1],fun s=>by rw[e.2.2.2.1]⟩
 | decide b g d f j hs o=>exact h.add (by omega) f _ _
 | commit=>exact h.same (Bf.aw _ _ _)
 | came=>exact h.same (Bf.aw _ _ _)
 | got=>exact h.same (Bf.al rfl rfl rfl)
 | @wait i x mode=>exact h.same ((Bf.al (x:={ H.sh (Ad x) with tab:=An (H.sh (Ad x)).tab i x mode }) rfl rfl rfl).trans (Bf.aw _ i _))
 | tick hs q=>exact h.aO (by omega) q
 | arrive c=>exact h.arrive l c
def KP (D:Nat->Prop) (H:Hs):Prop:=∀ i,1<=i->i<=H.m->(H.tx i).state=3->D i\/∃ j,Lv H 2 j/\AP (lg H 2 j) 3 i
theorem KP.mono {D:Nat->Prop} (h:KP D H) (u:Ci H H') (n:AS H H'):KP D H':=fun i f l e=>by
 obtain⟨a,b⟩:=n i f l e;exact(h i f a b).imp id (fun⟨j,g,d⟩=>⟨j,(u.lv 2 j).2 g,d.mono (fun c d=>(u.lg 2 j).subset d)⟩)
theorem BZ.nocm (s:BZ H H'):AS H H'\/∃ i,1<=i/\i<=H.m/\C0 H 2 3 i/\H'=H.a3 i 3:=by
 have d:∀ s j c b,AS H (H.add s j c b).2:=fun s j c b=>AS.of (EW H s j c b).2.2.1 (fun i=>((EW H s j c b).2.2.2.2 i).1)
 cases s with
 | @abort i g f hs=>
  obtain⟨t,_,q⟩:=Nc H i;refine .inl (fun a z o e=>⟨by rw[t.m] at o;exact o,?_⟩);rw[(q a).1] at e;split at e
  ·cases e
  ·exact e
 | @tell i k kind g f l hs=>exact .inl (AS.of (KL H i kind k).2.2.1 (fun a=>((KL H i kind k).2.2.2.2 a).1))
 | prep=>exact .inl (d _ _ _ _)
 | @place i k a=>exact .inl (AS.of rfl (q1v H i k a))
 | @timed i=>exact .inl (AS.of (q5z (H:=H) (i:=i)).2 (fun a=>((q5z (H:=H) (i:=i)).1 a).1))
 | decide=>exact .inl (d _ _ _ _)
 | commit g f hs p=>exact .inr ⟨_,g,f,p,rfl⟩
 | @came i k g f l hs u v=>
  exact .inl (AS.of rfl (fun x=>by
   show(Ae H.tx i _ x).state=_;by_cases e:x=i
   ·subst e;rw[Ay]
   ·rw[AF e]))
 | got=>exact .inl (AS.of rfl (fun _=>rfl))
 | @wait i x mode=>
  exact .inl (AS.of rfl (fun a=>by
   show(Ae H.tx i _ a).state=_;by_cases e:a=i
   ·subst e;rw[Ay];rfl
   ·rw[AF e]))
 | tick=>exact .inl (AS.of rfl (fun _=>rfl))
 | @arrive k m l=>
  refine .inl ?_;cases h:Hs.node { H with net:=takeS H.net k } m.a4 with
  | none=>rw[OG h];exact AS.of rfl (fun _=>rfl)
  | some r=>
   obtain⟨s,j⟩:=r;rw[OH h];have e:=BF.take ((({ H with net:=takeS H.net k } : Hs).an s j (((H.sh s).nd j).step m).1).send (((H.sh s).nd j).step m).2) s;exact AS.of e.m (fun a=>(e.tx a).1)
theorem KP.step {D:Nat->Prop} (h:KP D H) (s:BZ H H'):KP D H':=by
 rcases s.nocm with n|⟨i,q,o,⟨j,p,c,q1,g,f,d,_⟩,rfl⟩
 ·exact h.mono s.up n
 ·intro a m l e;by_cases b:a=i
  ·subst b;exact .inr ⟨j,(EY q1).1,c,O0 g,f,d⟩
  ·have e:(Ae H.tx i _ a).state=3:=e;rw[AF b] at e;exact h a m l e
structure Ag (H:Hs) (B:Int):Prop where
 wf:Wf H
 c:H.c=3
 ch:BQ H
 bI:Dt H
 ep:∀ s,s<3->0<=(H.sh s).ab/\(H.sh s).ab<=B
theorem Ag.step {B:Int} (h:Ag H B) (s:BZ H H'):Ag H' B/\Bu H H':=
 ⟨⟨s.wf h.wf h.c,s.sm.c.trans h.c,s.chi h.ch h.c,(h.bI.step s h.ch h.wf h.c).1,fun k b=>by rw[s.up.ep];exact h.ep k b⟩,(h.bI.step s h.ch h.wf h.c).2⟩
theorem Ag.star {B:Int} (s:Af H H'):Ag H B->Ag H' B/\Bu H H'/\Ci H H':=by
 induction s with
 | refl=>exact fun h=>⟨h,Bu.refl _,Ci.refl _⟩
 | step s _ b=>
  intro h;obtain⟨g,f⟩:=h.step s;obtain⟨e,d,c⟩:=b g;exact⟨e,f.trans d,s.up.trans c⟩
theorem KP.star {D:Nat->Prop} (s:Af H H'):KP D H->KP D H':=by
 induction s with
 | refl=>exact id
 | step s _ b=>exact fun h=>b (h.step s)
inductive DG:Hs->Hs->Prop where
 | star {H H':Hs} (h:Af H H'):DG H H'
 | begin {H:Hs} (h:H.m<60):DG H H.begin
 | write {H H1:Hs} {i:Nat} {l:List Pr} (s:Af H H1) (h1:1<=i) (hi:i<=H1.m) (hl:l.length<=20) (hp:∀ p∈l,SO p):DG H (H1.aw i { H1.tx i with aa:=l })
 | ends {H H':Hs} {i:Nat} (h1:1<=i) (hi:i<=H.m) (hs:(H.tx i).state=1) (hw:(H.tx i).af=[]) (s:Af (H.ending i) H'):DG H H'
 | net {H:Hs} {l:List Ms} (hl:∀ m∈l,m∈H.net.l):DG H { H with net:=⟨l,H.net.ak⟩ }
 | fail {H:Hs} (id:Int):DG H (H.fail id)
 | fix {H H':Hs} (s:Kz H H'):DG H H'
theorem Ag.fix {B:Int} (h:Ag H B) (g:B<=1000000) {s:Nat} (hs:s<3):Ag (H.fix s) (B+1)/\Bu H (H.fix s)/\AS H (H.fix s)/\FixF H (H.fix s) s:=by
 have b:=ChF.fix (h.ch.toF (s:=s) (by rw[h.c];exact hs) (by have:=h.ep s hs;omega));have t:Bu H (H.fix s):=Bu.of b.m (fun i=>⟨(b.tx i).1,(b.tx i).2.2.2.2⟩);have n:AS H (H.fix s):=AS.of b.m (fun i=>(b.tx i).1);refine⟨⟨h.wf.fix (by rw[h.c];exact hs),b.c.trans h.c,b.chi,h.bI.sub t n (fun k j c f=>⟨j,(b.lv k j (by rw[h.c];exact c)).1 f,by rw[b.lg];exact VS _⟩),fun k c=>?_⟩,t,n,b⟩;have d:=h.ep k c;by_cases e:k=s
 ·subst e;rcases b.ab with ⟨e,_⟩|e <;> rw[e] <;> omega
 ·rw[b.sh k e];omega
theorem Ag.mono {B B':Int} (h:Ag H B) (b:B<=B'):Ag H B':=⟨h.wf,h.c,h.ch,h.bI,fun s hs=>by have:=h.ep s hs;omega⟩
structure VE (H H':Hs):Prop where
 lv:∀ k j,k<3->(Lv H' k j↔Lv H k j)
 lg:∀ k j,lg H' k j=lg H k j
 tm:Bu H H'
 nc:AS H H'
 tx:∀ i,(H'.tx i).state=(H.tx i).state/\(H'.tx i).aa=(H.tx i).aa/\(H'.tx i).ad=(H.tx i).ad/\(H'.tx i).places=(H.tx i).places/\(H'.tx i).ae=(H.tx i).ae
 m:H'.m=H.m
theorem VE.refl (H:Hs):VE H H:=⟨fun _ _ _=>Yr,fun _ _=>rfl,Bu.refl H,AS.of rfl (fun _=>rfl),fun _=>⟨rfl,rfl,rfl,rfl,rfl⟩,rfl⟩
theorem AS.trans {A B C:Hs} (h:AS A B) (k:AS B C):AS A C:=fun i c d e=>by
 obtain⟨a,b⟩:=k i c d e;exact h i c a b
theorem VE.trans {A B C:Hs} (h:VE A B) (k:VE B C):VE A C:=
 ⟨fun a b c=>(k.lv a b c).trans (h.lv a b c),fun a b=>(k.lg a b).trans (h.lg a b),h.tm.trans k.tm,h.nc.trans k.nc,
  fun i=>⟨(k.tx i).1.trans (h.tx i).1,(k.tx i).2.1.trans (h.tx i).2.1,(k.tx i).2.2.1.trans (h.tx i).2.2.1,(k.tx i).2.2.2.1.trans (h.tx i).2.2.2.1,(k.tx i).2.2.2.2.trans (h.tx i).2.2.2.2⟩,k.m.trans h.m⟩
theorem Ag.aE {B:Int} (h:Ag H B) (d:B<=1000000) {s:Nat} (hs:s<3):Ag (H.aE s) (B+1)/\VE H (H.aE s):=by
 unfold Hs.aE;split
 ·exact⟨h.mono (by omega),VE.refl H⟩
 ·obtain⟨g,f,e,b⟩:=h.fix d hs;exact⟨g,fun k j c=>b.lv k j (by rw[h.c];exact c),b.lg,f,e,b.tx,b.m⟩
theorem IX (c:1<=i) (b:i<=H.m):Af H (H.a5 i):=by
 unfold Hs.a5;split
 ·rename_i h;exact Af.one (BZ.abort c b (.inl h.1))
 ·exact Af.refl H
theorem q60:∀ (l:List Nat) {H:Hs},(∀ i∈l,1<=i/\i<=H.m)->Af H (l.foldl Hs.a5 H)
 | [],H,_=>Af.refl H
 | i::l,H,hl=>by
  have b:=IX (H:=H) (hl i VL).1 (hl i VL).2;exact b.trans (q60 l (fun a c=>by rw[b.sm.m];exact hl a (VM _ c)))
theorem Ag.bY {B:Int} (h:Ag H B) (e:B<=999000):Ag ([0,1,2].foldl Hs.aE H) (B+3)/\VE H ([0,1,2].foldl Hs.aE H):=by
 obtain⟨d,u1⟩:=h.aE (by omega) (s:=0) (by omega);obtain⟨c,u2⟩:=d.aE (by omega) (s:=1) (by omega);obtain⟨b,u3⟩:=c.aE (by omega) (s:=2) (by omega);exact⟨b.mono (by omega),(u1.trans u2).trans u3⟩
theorem q9z (h:Kz H H') {B:Int} (e:Ag H B) (d:B<=999000):Af ([0,1,2].foldl Hs.aE H) H':=by
 obtain⟨f,u1⟩:=e.bY d;have hs:Af ([0,1,2].foldl Hs.aE H) ([0,1,2].foldl Hs.aE H).ba:=q60 _ (fun i c=>by
  rw[X2] at c;omega)
 have b:=(Ag.star hs f).1;exact hs.trans (q22 h b.wf b.c)
theorem Ag.act {B:Int} (h:Ag H B) (M:B<=999000) (a:DG H H') {D:Nat->Prop} (I:∀ i,1<=i->i<=H.m->(H.tx i).state=3->D i):Ag H' (B+3)/\Bu H H'/\KP D H':=by
 have A:KP D H:=fun i p f e=>.inl (I i p f e)
 cases a with
 | star s=>exact⟨(Ag.star s h).1.mono (by omega),(Ag.star s h).2.1,KP.star s A⟩
 | begin W=>
  have t:Bu H H.begin:=by
   refine⟨by show H.m<=H.m+1;omega,fun a _ L e=>?_,fun a _ L e=>?_,fun a _ L _=>?_⟩
   ·show(Ae H.tx (H.m+1) _ a).state=_;rw[AF (by omega)];exact e
   ·show(Ae H.tx (H.m+1) _ a).state=_;rw[AF (by omega)];exact e
   ·show(Ae H.tx (H.m+1) _ a).ae=_;rw[AF (by omega)]
  have n:AS H H.begin:=fun a g o e=>by
   have e:(Ae H.tx (H.m+1) Bm a).state=3:=e;have o:a<=H.m+1:=o;by_cases d:a=H.m+1
   ·rw[d,Ay] at e;cases e
   ·rw[AF d] at e;exact⟨by omega,e⟩
  have u:Bf H H.begin:=⟨rfl,rfl,rfl,fun _=>rfl,fun _=>rfl,fun _=>rfl⟩
  exact⟨⟨h.wf.begin W,h.c,h.ch.same u,h.bI.sub t n (BO.same u),fun s hs=>by have:=h.ep s hs;show 0<=(H.sh s).ab/\(H.sh s).ab<=B+3;omega⟩,t,A.mono u.up n⟩
 | @write c i l s p f v T=>
  obtain⟨g,o,N⟩:=Ag.star s h;have r:∀ a,((c.aw i { c.tx i with aa:=l }).tx a).state=(c.tx a).state/\((c.aw i { c.tx i with aa:=l }).tx a).ae=(c.tx a).ae:=fun a=>by
   show(Ae c.tx i _ a).state=_/\(Ae c.tx i _ a).ae=_;by_cases e:a=i
   ·subst e;rw[Ay];exact⟨rfl,rfl⟩
   ·rw[AF e];exact⟨rfl,rfl⟩
  have t:Bu c (c.aw i { c.tx i with aa:=l }):=Bu.of rfl r;have n:AS c (c.aw i { c.tx i with aa:=l }):=AS.of rfl (fun a=>(r a).1);have u:=Bf.aw c i { c.tx i with aa:=l };exact⟨⟨g.wf.aa p f v T,g.c,g.ch.same u,g.bI.sub t n (BO.same u),fun s hs=>by have:=g.ep s hs;show 0<=(c.sh s).ab/\(c.sh s).ab<=B+3;omega⟩,o.trans t,(KP.star s A).mono u.up n⟩
 | @ends _ i p f hs X s=>
  have r:∀ a,a≠i->(H.ending i).tx a=H.tx a:=fun a e=>AF e _
  have z:((H.ending i).tx i).state=2/\((H.ending i).tx i).ae=(H.tx i).ae:=by
   show(Ae H.tx i _ i).state=_/\(Ae H.tx i _ i).ae=_;rw[Ay];exact⟨rfl,rfl⟩
  have t:Bu H (H.ending i):=by
   refine⟨L1 _,fun a _ _ e=>?_,fun a _ _ e=>?_,fun a _ _ _=>?_⟩
   ·by_cases d:a=i
    ·subst d;rw[e] at hs;cases hs
    ·rw[r a d];exact e
   ·by_cases d:a=i
    ·subst d;rw[e] at hs;cases hs
    ·rw[r a d];exact e
   ·by_cases d:a=i
    ·subst d;exact z.2
    ·rw[r a d]
  have n:AS H (H.ending i):=fun a g o e=>by
   refine⟨o,?_⟩;by_cases d:a=i
   ·subst d;rw[z.1] at e;cases e
   ·rw[r a d] at e;exact e
  have u:=Bf.aw H i { H.tx i with state:=2,places:=fun k=>if ((H.tx i).ad k).isSome then Bs (-1) else(H.tx i).places k };have V:Ag (H.ending i) B:=⟨h.wf.ending p f,h.c,h.ch.same u,h.bI.sub t n (BO.same u),h.ep⟩
  obtain⟨g,o,N⟩:=Ag.star s V;exact⟨g.mono (by omega),t.trans o,KP.star s (A.mono u.up n)⟩
 | @net l v=>
  have u:Ci H { H with net:=⟨l,H.net.ak⟩ }:=⟨fun _ _=>Yr,fun _ _=>VS _,fun _=>rfl,fun _=>rfl⟩
  have t:Bu H { H with net:=⟨l,H.net.ak⟩ }:=Bu.of rfl (fun _=>⟨rfl,rfl⟩);have n:AS H { H with net:=⟨l,H.net.ak⟩ }:=AS.of rfl (fun _=>rfl);refine⟨⟨?_,h.c,h.ch.cU v,h.bI.sub t n (fun k j _ E=>⟨j,E,VS _⟩),fun s hs=>by have:=h.ep s hs;show 0<=(H.sh s).ab/\(H.sh s).ab<=B+3;omega⟩,t,A.mono u n⟩;exact⟨h.wf.n4,h.wf.c3,h.wf.bC,h.wf.nd,h.wf.tab,h.wf.sto,h.wf.ak,fun m U=>h.wf.net m (v m U),h.wf.down,h.wf.tx,h.wf.tm,h.wf.cL⟩
 | fail id=>
  have hs:(H.fail id).m=H.m/\(H.fail id).tx=H.tx/\(∀ s,((H.fail id).sh s).ab=(H.sh s).ab)/\(H.fail id).c=H.c/\∀ s j,lg (H.fail id) s j=lg H s j/\(Lv (H.fail id) s j->Lv H s j):=by
   cases K:H.node id with
   | none=>rw[q73 K];exact⟨rfl,rfl,fun _=>rfl,rfl,fun _ _=>⟨rfl,fun h=>h⟩⟩
   | some q=>
    obtain⟨s,j⟩:=q;rw[q72 K];have e:∀ k,(((H.aH s id).b4 id).sh k).ab=(H.sh k).ab/\(((H.aH s id).b4 id).sh k).nd=(H.sh k).nd/\∀ i,(((H.aH s id).b4 id).sh k).ak i=Jx->(H.sh k).ak i=Jx:=fun k=>by
     show((H.aH s id).sh k).ab=_/\((H.aH s id).sh k).nd=_/\∀ i,((H.aH s id).sh k).ak i=Jx->_;by_cases O:k=s
     ·subst O;have:(H.aH k id).sh k = { H.sh k with ak:=fun i=>decide (i=id) || (H.sh k).ak i }:=Ay _ _ _;rw[this];exact⟨rfl,rfl,fun i f=>(Bool.or_eq_false_iff.1 f).2⟩
     ·have:(H.aH s id).sh k=H.sh k:=AF O _;rw[this];exact⟨rfl,rfl,fun i f=>f⟩
    refine⟨rfl,rfl,fun k=>(e k).1,rfl,fun k a=>⟨by unfold lg;rw[(e k).2.1],fun v=>?_⟩⟩;obtain⟨S,J⟩:=v;rw[(e k).2.1] at J;exact⟨S,(e k).2.2 _ J⟩
  have t:Bu H (H.fail id):=Bu.of hs.1 (fun i=>by rw[hs.2.1];exact⟨rfl,rfl⟩);have n:AS H (H.fail id):=AS.of hs.1 (fun i=>by rw[hs.2.1]);exact⟨⟨h.wf.fail h.c id,hs.2.2.2.1.trans h.c,h.ch.fail h.c id,h.bI.sub t n (fun k j _ E=>⟨j,(hs.2.2.2.2 k j).2 E,by rw[(hs.2.2.2.2 k j).1];exact VS _⟩),fun s C=>by rw[hs.2.2.1];have:=h.ep s C;omega⟩,t,
   fun i p f e=>.inl (I i p (by rw[<- hs.1];exact f) (by rw[hs.2.1] at e;exact e))⟩
 | fix s=>
  obtain⟨p,u1⟩:=h.bY M;have s2:=q9z s h M;obtain⟨g,o,N⟩:=Ag.star s2 p;have G:KP D ([0,1,2].foldl Hs.aE H):=fun i q1 R e=>by
   obtain⟨a,b⟩:=u1.nc i q1 R e;exact .inl (I i q1 a b)
  exact⟨g,u1.tm.trans o,KP.star s2 G⟩
end
noncomputable def BH (n:Nat):Nat->Hs
 | 0=>hsE n
 | q+1=>(BH n q).more
theorem R8 (n:Nat):BD n=BH n 3:=rfl
def Hs.cc (H:Hs):Hs:={ H with c:=H.c+1 }
theorem q7q (H:Hs):H.more=H.cc.fix H.c:=rfl
structure Gp (n q:Nat) (H:Hs):Prop where
 wf:Wf H
 c:H.c=q
 n:H.n=n
 m:H.m=0
 new:∀ s,q<=s->H.sh s=CL s
 ch:BQ H
 lg:∀ s j,lg H s j=[]
 ep:∀ s,s<q->0<=(H.sh s).ab/\(H.sh s).ab<=1
theorem Wf.cc {H:Hs} (h:Wf H) (l:H.c<3) (d:H.sh H.c=CL H.c):Wf H.cc:=by
 have b:∀ s,s<H.c+1->s≠H.c->s<H.c:=fun s o m=>by omega
 refine⟨h.n4,by show H.c+1<=3;omega,h.bC,fun s j hs g=>?_,fun s hs=>?_,fun s hs=>?_,fun s hs i c=>?_,h.net,h.down,h.tx,h.tm,h.cL⟩
 ·have hs:s<H.c+1:=hs;by_cases e:s=H.c
  ·subst e;show Cg H.c j ((H.sh H.c).nd j);rw[d];exact⟨rfl,fun x f=>(by cases f),fun x f=>(by cases f)⟩
  ·exact h.nd s j (b s hs e) g
 ·have hs:s<H.c+1:=hs;by_cases e:s=H.c
  ·subst e;show Dn (H.sh H.c).tab;rw[d];exact Dn.none_
  ·exact h.tab s (b s hs e)
 ·have hs:s<H.c+1:=hs;by_cases e:s=H.c
  ·subst e;show Do (H.sh H.c).sto;rw[d];exact Do.none_
  ·exact h.sto s (b s hs e)
 ·have hs:s<H.c+1:=hs;have c:(H.sh s).ak i=T2:=c;by_cases e:s=H.c
  ·subst e;rw[d] at c;cases c
  ·exact h.ak s (b s hs e) i c
theorem BQ.cc {H:Hs} (h:BQ H) (o:H.sh H.c=CL H.c) (A:∀ s j,H.c<=s->j<H.n->H.net.ak (Cv s j)=Jx):ChF H.cc H.c:=by
 have b:∀ s,s<H.c+1->s≠H.c->s<H.c:=fun s u t=>by omega
 have d:∀ j,(H.sh H.c).nd j=nd0 (10*H.c+j):=fun j=>by rw[o];rfl
 have f:∀ j,lg H H.c j=[]:=fun j=>by unfold lg;rw[d];rfl
 refine⟨Nat.lt_succ_self _,h.n4,fun s j hs c=>?_,fun a r l=>?_,fun s hs i j p q c=>?_,fun s hs i j q c=>?_,fun s j hs c=>?_,fun m v=>?_,fun j c=>.inr ⟨f j,by show((H.sh H.c).nd j).ao=0;rw[d];rfl⟩,by show 0<=(H.sh H.c).ab/\(H.sh H.c).ab<=1000000;rw[o];exact⟨Xk _,by show(0:Int)<=1000000;omega⟩⟩
 ·have hs:s<H.c+1:=hs;by_cases e:s=H.c
  ·subst e;show((H.sh H.c).nd j).id=_;rw[d];rfl
  ·exact h.ids s j (b s hs e) c
 ·have r:a<H.c+1:=r;obtain⟨L,g⟩:=h.cfg a (b a r l);exact⟨L,g.sorted,g.lt,g.mem,g.nd⟩
 ·have hs:s<H.c+1:=hs;by_cases e:s=H.c
  ·subst e;show lg H H.c j <+: lg H H.c i;rw[f,f];exact VS _
  ·exact h.pre s (b s hs e) i j p q c
 ·have hs:s<H.c+1:=hs;by_cases e:s=H.c
  ·subst e;show((H.sh H.c).nd i).ao<=_;rw[d];show(0:Int)<=_;omega
  ·exact h.st s (b s hs e) i j q c
 ·have hs:s<H.c+1:=hs;by_cases e:s=H.c
  ·subst e;show H.net.ak _=(H.sh H.c).ak _;rw[o,A H.c j (L1 _) c];rfl
  ·exact h.dn s j (b s hs e) c
 ·obtain⟨u,t,s,j,hs,c,z,hI⟩:=h.ms m v;exact⟨u,t,s,j,Nat.lt_succ_of_lt hs,c,z,hI.ep,hI.fwd,hI.st⟩
theorem Sj (H:Hs) (s:Nat):(H.fix s).net.ak=H.net.ak:=by
 unfold Hs.fix;split
 ·rfl
 ·have c:∀ (ids:List Int) (l:List Nat) (H:Hs),(l.foldl (Hs.ay s ids) H).net.ak=H.net.ak:=by
   intro ids l;induction l with
   | nil=>intro H;rfl
   | cons j l b=>intro H;exact(b _).trans (q2g _ _)
  unfold Hs.aW;simp only;rw[(BF.take _ s).net];exact c _ _ _
theorem Gp.more {n q:Nat} {H:Hs} (h:Gp n q H) (f:q<3) (g:∀ i,H.net.ak i=Jx):Gp n (q+1) H.more:=by
 have c:=h.new q (L1 _);have l:=h.c;subst l;have b:=(h.ch.cc c (fun s j _ _=>g _)).fix;have d:=(h.wf.cc f c).fix (s:=H.c) (Nat.lt_succ_self _);refine⟨d,b.c,b.n.trans h.n,b.m.trans h.m,fun s hs=>?_,b.chi,fun s j=>?_,fun s hs=>?_⟩
 ·rw[q7q,b.sh s (by omega)];exact h.new s (by omega)
 ·rw[q7q,b.lg s j];exact h.lg s j
 ·by_cases e:s=H.c
  ·subst e;rw[q7q];have m:(H.cc.sh H.c).ab=0:=by show(H.sh H.c).ab=0;rw[c];rfl
   rcases b.ab with ⟨e,_⟩|e <;> rw[e,m] <;> omega
  ·rw[q7q,b.sh s e];exact h.ep s (by omega)
theorem LQ {n:Nat} (d:n<=4):Gp n 0 (hsE n):=by
 refine⟨⟨d,VK _,VK _,fun s j hs=>absurd hs (by show ¬s<0;omega),fun s hs=>absurd hs (by show ¬s<0;omega),fun s hs=>absurd hs (by show ¬s<0;omega),fun s hs=>absurd hs (by show ¬s<0;omega),fun m c=>(by cases c),fun i b=>(by cases b),fun i e b=>absurd b (by show ¬i<=0;omega),rfl,fun i e b=>absurd b (by show ¬i<=0;omega)⟩,
  rfl,rfl,rfl,fun _ _=>rfl,⟨d,fun s j hs=>absurd hs (by show ¬s<0;omega),fun s hs=>absurd hs (by show ¬s<0;omega),fun s hs=>absurd hs (by show ¬s<0;omega),fun s hs=>absurd hs (by show ¬s<0;omega),fun s j hs=>absurd hs (by show ¬s<0;omega),fun m c=>(by cases c)⟩,fun _ _=>rfl,fun s hs=>absurd hs (by omega)⟩
theorem q49 {n:Nat} (b:n<=4):∀ q,q<=3->Gp n q (BH n q)/\∀ i,(BH n q).net.ak i=Jx
 | 0,_=>⟨LQ b,fun _=>rfl⟩
 | q+1,e=>by
  obtain⟨d,c⟩:=q49 b q (by omega);refine⟨d.more (by omega) c,fun i=>?_⟩;show((BH n q).cc.fix _).net.ak i=Jx;rw[Sj];exact c i
theorem Hw {n:Nat} (d:n<=4):Ag (BD n) 1/\(BD n).m=0/\(BD n).n=n:=by
 obtain⟨h,_⟩:=q49 d 3 (L1 _);rw[R8];refine⟨⟨h.wf,h.c,h.ch,⟨fun k _ j _=>?_,fun j _=>?_,fun i g f=>?_⟩,h.ep⟩,h.m,h.n⟩
 ·rw[h.lg];intro p c b;simp at b
 ·rw[h.lg];intro c e;cases e
 ·have:=h.m;omega
def kA:Sx:=[97]
def Et:Pr:=⟨⟨#[97]⟩,⟨#[120]⟩,Jx⟩
noncomputable def Cb:Tb:=Ap (fun _=>B0) kA (Bs ⟨Aj (fun _=>B0) 1 2,[]⟩)
def Le:Kp:=(Ct (fun _=>[]) 0 ⟨kA,[120],Jx,1⟩).2
structure Cs where
 a0:Nd
 b0:Nd
 a1:Nd
 b1:Nd
 a2:Nd
 b2:Nd
 net:List Ms
 state:Int
 ae:Int
 pl:Option Int
 lk:Bool
 st:Bool
 d0:Nat
 d1:Nat
 d2:Nat
def Cs.dn (x:Cs) (s:Nat):Nat:=match s with|0=>x.d0|1=>x.d1|_=>x.d2
def Cs.aS (x:Cs) (s n:Nat):Cs:=match s with|0=>{ x with d0:=n } | 1=>{ x with d1:=n } | _=>{ x with d2:=n }
def prepC:Cm:=⟨2,1,0,[Et]⟩
def Cs.get (x:Cs) (s j:Nat):Nd:=match s,j with
 | 0,0=>x.a0|0,_=>x.b0|1,0=>x.a1|1,_=>x.b1|_,0=>x.a2|_,_=>x.b2
def Cs.set (x:Cs) (s j:Nat) (d:Nd):Cs:=match s,j with
 | 0,0=>{ x with a0:=d } | 0,_=>{ x with b0:=d } | 1,0=>{ x with a1:=d } | 1,_=>{ x with b1:=d } | _,0=>{ x with a2:=d } | _,_=>{ x with b2:=d }
def Cs.send (x:Cs) (ms:List Ms):Cs:={ x with net:=(Dh ⟨x.net,fun _=>Jx⟩ ms).l }
structure Ah (x:Cs) (H:Hs):Prop where
 n:H.n=2
 c:H.c=3
 m:H.m=1
 nd:∀ s j,s<3->j<2->(H.sh s).nd j=x.get s j
 ak:∀ s,s<3->(H.sh s).ak=fun _=>Jx
 ab:∀ s,s<3->(H.sh s).ab=1
 tab:∀ s,s<3->(H.sh s).tab=if s=1/\x.lk=T2 then Cb else fun _=>B0
 sto:∀ s,s<3->(H.sh s).sto=if s=1/\x.st=T2 then Le else fun _=>[]
 done:∀ s,s<3->(H.sh s).done=x.dn s
 net:H.net=⟨x.net,fun _=>Jx⟩
 ae:H.ae=x.ae
 tx:H.tx 1=⟨x.state,[Et],AG (fun _=>B0) 1 1,fun k=>if k=1 then x.pl else B0,x.ae,[]⟩
 ids:∀ s j,s<3->j<2->(x.get s j).id=10*s+j
 bF:∀ s,s<3->(x.get s 0).at_=0
 bP:∀ s,s<3->(x.get s 1).at_=1
 lgp:∀ c∈(x.get 1 0).log,c.ag=2->c=prepC
theorem qbg (x:Cs) {s t i j:Nat} (d:Nd) (hs:s<3) (g:t<3) (l:i<2) (h:j<2):(x.set s j d).get t i=if t=s/\i=j then d else x.get t i:=by
 have f:s=0\/s=1\/s=2:=by omega
 have e:t=0\/t=1\/t=2:=by omega
 have c:i=0\/i=1:=by omega
 have b:j=0\/j=1:=by omega
 rcases f with rfl|rfl|rfl <;> rcases e with rfl|rfl|rfl <;> rcases c with rfl|rfl <;> rcases b with rfl|rfl <;> rfl
theorem q7h (x:Cs) (s j:Nat) (d:Nd):(x.set s j d).net=x.net/\(x.set s j d).state=x.state/\(x.set s j d).ae=x.ae/\(x.set s j d).pl=x.pl/\(x.set s j d).lk=x.lk/\(x.set s j d).st=x.st:=by
 unfold Cs.set;split <;> exact⟨rfl,rfl,rfl,rfl,rfl,rfl⟩
section
variable {x:Cs} {H:Hs}
theorem Ah.live (h:Ah x H) {s:Nat} (hs:s<3):(H.sh s).aj H.n=[0,1]:=by
 unfold Bg.aj;rw[h.n,h.ak s hs];rfl
theorem Ah.head (h:Ah x H) {s:Nat} (hs:s<3):H.head s=Bs 0:=by
 unfold Hs.head Bg.bu;rw[h.live hs,Y9];rw[h.nd s 0 hs (by omega)];unfold Nd.head;rw[h.bF s hs];rfl
theorem Ah.take (h:Ah x H) {s:Nat} (hs:s<3) (b:x.dn s=(x.get s 0).log.length):H.take s=H:=by
 unfold Hs.take;rw[h.head hs];simp only;rw[h.nd s 0 hs (by omega),h.done s hs,b,Nat.sub_self];rfl
theorem Ah.node (h:Ah x H) {s j:Nat} (hs:s<3) (o:j<2) {d:Nd} {ms:List Ms} (C:d.id=(x.get s j).id) (v:d.at_=(x.get s j).at_) (B:s=1->j=0->∀ c∈d.log,c.ag=2->c=prepC):Ah ((x.set s j d).send ms) ((H.an s j d).send ms):=by
 obtain⟨J,I,z,G,E,D⟩:=q7h x s j d;have q:∀ t,t≠s->((H.an s j d).send ms).sh t=H.sh t:=fun t b=>Nb H j d b
 have p:((H.an s j d).send ms).sh s = { H.sh s with nd:=Ae (H.sh s).nd j d }:=EX H s j d;have f:∀ t i,((x.set s j d).send ms).get t i=(x.set s j d).get t i:=fun t i=>by unfold Cs.get Cs.send;split <;> rfl
 have g:∀ (t:Nat),((H.an s j d).send ms).sh t=if t=s then { H.sh s with nd:=Ae (H.sh s).nd j d } else H.sh t:=fun t=>by
  split
  ·rename_i e;subst e;exact p
  ·rename_i e;exact q t e
 refine⟨h.n,h.c,h.m,fun t i b m=>?_,fun t b=>?_,fun t b=>?_,fun t b=>?_,fun t b=>?_,fun t b=>?_,?_,h.ae.trans z.symm,?_,fun t i b m=>?_,fun t b=>?_,fun t b=>?_,?_⟩
 ·rw[f,qbg x d hs b m o,g];by_cases e:t=s
  ·subst e;rw[if_pos rfl];by_cases u:i=j
   ·subst u;rw[if_pos ⟨rfl,rfl⟩];exact Ay _ _ _
   ·rw[if_neg (by simp[u])];exact(AF u _).trans (h.nd t i b m)
  ·rw[if_neg e,if_neg (by simp[e])];exact h.nd t i b m
 ·rw[g];split
  ·rename_i e;subst e;exact h.ak t b
  ·exact h.ak t b
 ·rw[g];split
  ·rename_i e;subst e;exact h.ab t b
  ·exact h.ab t b
 ·show _=if t=1/\(x.set s j d).lk=T2 then Cb else _
  rw[E,g];split
  ·rename_i e;subst e;exact h.tab t b
  ·exact h.tab t b
 ·show _=if t=1/\(x.set s j d).st=T2 then Le else _
  rw[D,g];split
  ·rename_i e;subst e;exact h.sto t b
  ·exact h.sto t b
 ·have r:((x.set s j d).send ms).dn t=x.dn t:=by
   have e1:(x.set s j d).d0=x.d0/\(x.set s j d).d1=x.d1/\(x.set s j d).d2=x.d2:=by unfold Cs.set;split <;> exact⟨rfl,rfl,rfl⟩
   unfold Cs.dn Cs.send;split
   ·exact e1.1
   ·exact e1.2.1
   ·exact e1.2.2
  rw[r,g];split
  ·rename_i e;subst e;exact h.done t b
  ·exact h.done t b
 ·show Dh H.net ms=⟨(Dh ⟨(x.set s j d).net,fun _=>Jx⟩ ms).l,fun _=>Jx⟩;rw[h.net,J];have:=q2g ms ⟨x.net,fun _=>Jx⟩;cases A:Dh ⟨x.net,fun _=>Jx⟩ ms with
  | mk l dd=>rw[A] at this;simp only at this;rw[this]
 ·show H.tx 1=⟨(x.set s j d).state,_,_,fun k=>if k=1 then(x.set s j d).pl else B0,(x.set s j d).ae,[]⟩;rw[I,z,G];exact h.tx
 ·rw[f,qbg x d hs b m o];split
  ·rename_i e;obtain⟨rfl,rfl⟩:=e;rw[C];exact h.ids t i b m
  ·exact h.ids t i b m
 ·rw[f,qbg x d hs b (by omega) o];split
  ·rename_i e;obtain⟨rfl,rfl⟩:=e;rw[v];exact h.bF t b
  ·exact h.bF t b
 ·rw[f,qbg x d hs b (by omega) o];split
  ·rename_i e;obtain⟨rfl,rfl⟩:=e;rw[v];exact h.bP t b
  ·exact h.bP t b
 ·rw[f,qbg x d hs (by omega) (by omega) o];split
  ·rename_i e;exact B e.1.symm e.2.symm
  ·exact h.lgp
theorem RV:An (fun _=>B0) 1 kA 2=Cb:=by
 unfold An;rw[show Ac (fun _=>B0) kA=k0 from rfl,if_neg (by simp[k0,CC]),if_pos (Hk 1 2)];rfl
theorem GH:Cb kA=Bs ⟨Aj (fun _=>B0) 1 2,[]⟩:=by unfold Cb Ap;rw[if_pos rfl]
theorem M7 {y:Sx} (h:y≠kA):Cb y=B0:=by unfold Cb Ap;rw[if_neg h]
theorem LZ:An Cb 1 kA 2=Cb:=by
 have b:Ac Cb kA=⟨Aj (fun _=>B0) 1 2,[]⟩:=by unfold Ac;rw[GH];rfl
 have c:Ax (Aj (fun _=>B0) 1 2) 1=2:=by unfold Ax Aj AW;rw[if_pos rfl];rfl
 unfold An;rw[b,if_neg (by simp[CC]),if_pos (TA.2 (.inl (by rw[c];omega)))];have d:Aj (Aj (fun _=>B0) 1 2) 1 2=Aj (fun _=>B0) 1 2:=by
  funext o;show(if o=1 then Bs (max (Ax (Aj (fun _=>B0) 1 2) 1) 2) else Aj (fun _=>B0) 1 2 o)=_;rw[c];split
  ·rename_i e;subst e;unfold Aj AW;rw[if_pos rfl];rfl
  ·rfl
 rw[d];funext y;unfold Ap;split
 ·rename_i e;rw[e,GH]
 ·rfl
theorem Rc:Bh Cb 1=fun _=>B0:=by
 funext y;unfold Bh;by_cases e:y=kA
 ·rw[e,GH];show Eh _ 1=B0;unfold Eh;rw[if_pos];have hs:AW (Aj (fun _=>B0) 1 2) 1 B0=fun _=>B0:=by
   funext o;unfold AW Aj AW;split
   ·rfl
   ·rfl
  unfold BV qae;simp[AC,q2h,hs]
 ·rw[M7 e];rfl
theorem Re (tx:Int):Bh (fun _=>B0) tx=fun _=>B0:=by funext y;rfl
open Classical in
theorem Hf {T:Tb} {tx:Int} (H:Hs) (h:∀ o y,¬Ez T tx o y):H.granted T tx=H:=by
 unfold Hs.granted;have e:(fun i=>{ H.tx i with af:=(H.tx i).af.filter fun w=>!decide (Ez T tx i w.1) } : Nat->Bi)=H.tx:=by
  funext i;have:(H.tx i).af.filter (fun w=>!decide (Ez T tx i w.1))=(H.tx i).af:=by
   rw[List.filter_eq_self];intro w _;simp[h]
  rw[this]
 rw[e]
theorem Sd (tx:Int):∀ o y,¬Ez (fun _=>B0) tx o y:=fun o y=>by rintro ⟨k,_,h,_⟩;cases h
theorem Sc:∀ o y,¬Ez Cb 1 o y:=fun o y=>by
 rintro ⟨k,md,h,b⟩;by_cases e:y=kA
 ·rw[e,GH] at h;injection h with h;subst h;unfold BV at b;simp[AC,q2h] at b
 ·rw[M7 e] at h;cases h
end
def Dm {α β:Type} (f:α->Option (List β)):List α->Option (List β)
 | []=>Bs []
 | x::l=>match f x,Dm f l with
  | some a,Bs b=>Bs (a++b)
  | _,_=>B0
theorem q37 {α β:Type} {f:α->Option (List β)} : ∀ {l:List α} {L:List β},Dm f l=Bs L->∀ {x},x∈l->∃ a,f x=Bs a/\∀ y∈a,y∈L
 | [],_,_,_,c=>by cases c
 | z::l,L,h,x,c=>by
  unfold Dm at h;cases d:f z with
  | none=>rw[d] at h;simp at h
  | some a=>
   cases g:Dm f l with
   | none=>rw[d,g] at h;simp at h
   | some b=>
    rw[d,g] at h;injection h with h;rcases List.mem_cons.1 c with rfl|c
    ·exact⟨a,d,fun y e=>by rw[<- h];exact List.mem_append.2 (.inl e)⟩
    ·obtain⟨m,e1,j⟩:=q37 g c;exact⟨m,e1,fun y e=>by rw[<- h];exact List.mem_append.2 (.inr (j y e))⟩
def Cs.grow (x:Cs) (s:Nat) (c:Cm):Cs:=((x.set s 0 ((x.get s 0).grow c).1).send ((x.get s 0).grow c).2).aS s ((x.get s 0).log.length+1)
def Cs.ok (x:Cs) (s:Nat):Bool:=x.dn s == (x.get s 0).log.length && decide ((x.get s 0).log.length<500)
def Cs.len (x:Cs) (s:Nat):Nat:=(x.get s 0).log.length
def Cs.dh (x:Cs) (s:Nat):Int:=(x.get s 0).ao
def Nm (l:List Cm):Bool:=match l with
 | [c]=>c.ag == 2
 | _=>Jx
def EB (x:Cs):Option Cs:=
 if (place (x.get 1 0).log 3 1).isNone && (place (x.get 1 0).log 2 1).isSome then
  if x.ok 1 && x.lk && !x.st && x.ae == 1 && Nm (x.get 1 0).log then Bs { x.grow 1 ⟨3,1,x.ae,[]⟩ with lk:=Jx,st:=T2 } else B0
 else Bs x
def Hr (x:Cs):Option (List (Cs×Bool)):=(EB { x with state:=3 }).map fun y=>[(y,T2)]
def NG (x:Cs) (at_:Nat):Option (List (Cs×Bool)):=if x.dh 2<=at_ then Bs [(x,Jx)] else Hr x
def PQ (x:Cs) (b:Bool):Option (List (Cs×Bool)):=
 if b then
  match place (x.get 2 0).log 3 1 with
  | some p=>NG x p
  | none=>if x.ok 2 && (x.get 2 0).log.isEmpty && x.ae == 0 then
    Dm (fun at_:Nat=>NG (({ x with ae:=1 } : Cs).grow 2 ⟨3,1,1,[]⟩) at_) [0,1]
   else B0
 else Bs [(x,Jx)]
def q5s (x:Cs):Option (List (Cs×Bool)):=
 if x.state=2 then
  match place (x.get 1 0).log 2 1 with
  | some p=>PQ { x with pl:=Bs (p:Int) } (decide (x.dh 1 > p))
  | none=>if x.ae == 0 && x.pl == Bs (-1) && x.ok 1 && x.lk && (x.get 1 0).log.isEmpty then
    Dm (fun at_:Nat=>PQ { x.grow 1 prepC with pl:=Bs (at_:Int) } (decide ((x.grow 1 prepC).dh 1 > at_))) [0,1]
   else B0
 else if x.state=3 then(EB x).map fun y=>[(y,Jx)]
 else B0
def Ts:Nat->Cs->Option (List Cs)
 | 0,_=>B0
 | f+1,x=>match q5s x with
  | none=>B0
  | some l=>Dm (fun p=>if p.2 then Ts f p.1 else Bs [p.1]) l
def Kk (id:Int):Option (Nat×Nat):=if id=0 then Bs (0,0) else if id=1 then Bs (0,1) else if id=10 then Bs (1,0) else if id=11 then Bs (1,1) else if id=20 then Bs (2,0) else if id=21 then Bs (2,1) else B0
def q8k (x:Cs):Option (List Cs):=match x.net with
 | []=>Bs [x]
 | m::net=>match Kk m.a4 with
  | none=>Ts 5 { x with net:=net }
  | some (s,j)=>
   if ((({ x with net:=net } : Cs).set s j ((x.get s j).step m).1).send ((x.get s j).step m).2).dn s == ((({ x with net:=net } : Cs).set s j ((x.get s j).step m).1).send ((x.get s j).step m).2).len s
   then Ts 5 ((({ x with net:=net } : Cs).set s j ((x.get s j).step m).1).send ((x.get s j).step m).2) else B0
def Tq (x:Cs) (s j:Nat):Cs:=(x.set s j (x.get s j).tick.1).send (x.get s j).tick.2
def MD (x:Cs):Cs:=Tq (Tq (Tq (Tq (Tq (Tq x 0 0) 0 1) 1 0) 1 1) 2 0) 2 1
def qa7:Nat->Cs->Option (List Cs)
 | 0,x=>Bs [x]
 | f+1,x=>if x.net.isEmpty then Bs [x] else match q8k x with
  | none=>B0
  | some l=>Dm (qa7 f) l
def Kl:Nat->Cs->Option (List Cs)
 | 0,x=>Bs [x]
 | f+1,x=>match Ts 5 (MD x) with
  | none=>B0
  | some l=>match Dm (qa7 5000) l with
   | none=>B0
   | some b=>Dm (Kl f) b
section
variable {x:Cs} {H:Hs}
theorem q52 (x:Cs) (s n t j:Nat):(x.aS s n).get t j=x.get t j:=by
 unfold Cs.aS;split <;> (unfold Cs.get;split <;> rfl)
theorem Q4 (x:Cs) {s t:Nat} (n:Nat) (hs:s<3) (d:t<3):(x.aS s n).dn t=if t=s then n else x.dn t:=by
 have c:s=0\/s=1\/s=2:=by omega
 have b:t=0\/t=1\/t=2:=by omega
 rcases c with rfl|rfl|rfl <;> rcases b with rfl|rfl|rfl <;> rfl
theorem q80 (x:Cs) (s n:Nat):(x.aS s n).net=x.net/\(x.aS s n).state=x.state/\(x.aS s n).ae=x.ae/\(x.aS s n).pl=x.pl/\(x.aS s n).lk=x.lk/\(x.aS s n).st=x.st:=by
 unfold Cs.aS;split <;> exact⟨rfl,rfl,rfl,rfl,rfl,rfl⟩
theorem Ah.aS (h:Ah x H) {s:Nat} (hs:s<3) (n:Nat):Ah (x.aS s n) (H.al s { H.sh s with done:=n }):=by
 obtain⟨o,m,f,l,j,g⟩:=q80 x s n;have c:∀ (t:Nat),(H.al s { H.sh s with done:=n }).sh t=if t=s then { H.sh s with done:=n } else H.sh t:=fun t=>rfl
 refine⟨h.n,h.c,h.m,fun t i b d=>?_,fun t b=>?_,fun t b=>?_,fun t b=>?_,fun t b=>?_,fun t b=>?_,by rw[o];exact h.net,by rw[f];exact h.ae,by rw[m,f,l];exact h.tx,fun t i b d=>by rw[q52];exact h.ids t i b d,fun t b=>by rw[q52];exact h.bF t b,fun t b=>by rw[q52];exact h.bP t b,by rw[q52];exact h.lgp⟩
 ·rw[q52,c];split
  ·rename_i e;subst e;exact h.nd t i b d
  ·exact h.nd t i b d
 ·rw[c];split
  ·rename_i e;subst e;exact h.ak t b
  ·exact h.ak t b
 ·rw[c];split
  ·rename_i e;subst e;exact h.ab t b
  ·exact h.ab t b
 ·rw[j,c];split
  ·rename_i e;subst e;exact h.tab t b
  ·exact h.tab t b
 ·rw[g,c];split
  ·rename_i e;subst e;exact h.sto t b
  ·exact h.sto t b
 ·rw[Q4 x n hs b,c];split
  ·rfl
  ·exact h.done t b
theorem Ah.setT (h:Ah x H) (st b:Int) (pl:Option Int) (t:Bi) (H':Hs) (d:t=⟨st,[Et],AG (fun _=>B0) 1 1,fun k=>if k=1 then pl else B0,b,[]⟩) (e:H' = { H.aw 1 t with ae:=b }):Ah { x with state:=st,ae:=b,pl:=pl } H':=by
 subst e;exact⟨h.n,h.c,h.m,fun s j hs c=>(h.nd s j hs c).trans (by unfold Cs.get;split <;> rfl),h.ak,h.ab,h.tab,h.sto,fun s hs=>(h.done s hs).trans (by unfold Cs.dn;split <;> rfl),h.net,rfl,(show Ae H.tx 1 t 1=_ by rw[Ay];exact d),fun s j hs c=>(show({ x with state:=st,ae:=b,pl:=pl } : Cs).get s j=x.get s j by unfold Cs.get;split <;> rfl)▸h.ids s j hs c,fun s hs=>(show({ x with state:=st,ae:=b,pl:=pl } : Cs).get s 0=x.get s 0 by unfold Cs.get;split <;> rfl)▸h.bF s hs,fun s hs=>(show({ x with state:=st,ae:=b,pl:=pl } : Cs).get s 1=x.get s 1 by unfold Cs.get;split <;> rfl)▸h.bP s hs,h.lgp⟩
theorem Ah.ai (h:Ah x H):(H.tx 1).ai=[1]:=by
 rw[h.tx];unfold Bi.ai AG;simp
theorem Ah.grow (h:Ah x H) {s:Nat} (hs:s<3) (c:Cm) (b:Bool) (g:x.ok s=T2) (A:s=1->c.ag=2->c=prepC) :
  ∃ v,Ah ((x.set s 0 ((x.get s 0).grow c).1).send ((x.get s 0).grow c).2) v/\H.add s 0 c b=((if b then((x.get s 0).log.length:Int)+1 else(x.get s 0).log.length),v.taken s ((x.get s 0).log++[c]) (x.get s 0).log.length c):=by
 unfold Cs.ok at g;simp only[Wq,beq_iff_eq,decide_eq_true_eq] at g;obtain⟨z,B⟩:=g;have p:=h.nd s 0 hs (by omega);have q:(x.get s 0).head=T2:=by unfold Nd.head;rw[h.bF s hs];rfl
 have m:(x.get s 0).add c b=((x.get s 0).grow c,(if b then((x.get s 0).log.length:Int)+1 else(x.get s 0).log.length),0):=by
  unfold Nd.add;rw[q,if_neg (by simp),if_neg (by omega)]
 have f:((x.get s 0).grow c).1.id=(x.get s 0).id/\((x.get s 0).grow c).1.at_=(x.get s 0).at_:=by
  unfold Nd.grow;split
  ·exact⟨(E7 _).1,(E7 _).2.2.2.2⟩
  ·exact⟨rfl,rfl⟩
 have t:=h.node hs (show 0<2 by omega) (d:=((x.get s 0).grow c).1) (ms:=((x.get s 0).grow c).2) f.1 f.2 (fun e _ a j u=>by
  rw[q3o] at j;rcases List.mem_append.1 j with j|j
  ·subst e;exact h.lgp a j u
  ·rw[VW] at j;subst j;exact A e u)
 refine⟨_,t,?_⟩;have r:(((x.set s 0 ((x.get s 0).grow c).1).send ((x.get s 0).grow c).2).get s 0).log=(x.get s 0).log++[c]:=by
  have e:((x.set s 0 ((x.get s 0).grow c).1).send ((x.get s 0).grow c).2).get s 0=(x.set s 0 ((x.get s 0).grow c).1).get s 0:=by unfold Cs.get Cs.send;split <;> rfl
  rw[e,qbg x _ hs hs (by omega) (by omega),if_pos ⟨rfl,rfl⟩,q3o]
 have l:(((H.an s 0 ((x.get s 0).grow c).1).send ((x.get s 0).grow c).2).sh s).done=(x.get s 0).log.length:=by
  show((H.an s 0 _).sh s).done=_;rw[EX];show(H.sh s).done=_;rw[h.done s hs,z]
 unfold Hs.add;rw[p,m];rw[if_neg (by simp)];have o:((H.an s 0 ((x.get s 0).grow c).1).send ((x.get s 0).grow c).2).take s=((H.an s 0 ((x.get s 0).grow c).1).send ((x.get s 0).grow c).2).taken s ((x.get s 0).log++[c]) (x.get s 0).log.length c:=by
  unfold Hs.take;rw[t.head hs];simp only;rw[t.nd s 0 hs (by omega),r,l];rw[show((x.get s 0).log++[c]).length-(x.get s 0).log.length=0+1 by simp];rw[q46 l (c:=c) (by simp)];rfl
 simp only[o]
end
section
variable {x y:Cs} {H:Hs}
theorem Ah.time' (h:Ah x H):(H.tx 1).ae=x.ae:=by rw[h.tx]
theorem Ah.setS (h:Ah x H) {s:Nat} (hs:s<3) {T:Tb} {K:Kp} (n:Nat) (lk st:Bool) (r:T=if s=1/\lk=T2 then Cb else fun _=>B0) (u:K=if s=1/\st=T2 then Le else fun _=>[]) (p:s≠1->lk=x.lk/\st=x.st):Ah { x.aS s n with lk:=lk,st:=st } (H.al s { H.sh s with tab:=T,sto:=K,done:=n }):=by
 have d:=h.aS hs n;have f:∀ (t:Nat),(H.al s { H.sh s with tab:=T,sto:=K,done:=n }).sh t=if t=s then { H.sh s with tab:=T,sto:=K,done:=n } else H.sh t:=fun t=>rfl
 have c:∀ (t:Nat),(H.al s { H.sh s with done:=n }).sh t=if t=s then { H.sh s with done:=n } else H.sh t:=fun t=>rfl
 have g:∀ t j,({ x.aS s n with lk:=lk,st:=st } : Cs).get t j=(x.aS s n).get t j:=fun t j=>by unfold Cs.get;split <;> rfl
 have q:∀ t,({ x.aS s n with lk:=lk,st:=st } : Cs).dn t=(x.aS s n).dn t:=fun t=>by unfold Cs.dn;split <;> rfl
 obtain⟨D,C,B,A,z,v⟩:=q80 x s n;refine⟨d.n,d.c,d.m,fun t i b l=>?_,fun t b=>?_,fun t b=>?_,fun t b=>?_,fun t b=>?_,fun t b=>?_,d.net,d.ae,d.tx,fun t i b l=>by rw[g];exact d.ids t i b l,fun t b=>by rw[g];exact d.bF t b,fun t b=>by rw[g];exact d.bP t b,by rw[g];exact d.lgp⟩
 ·rw[g,f];have:=d.nd t i b l;rw[c] at this;(by_cases e:t=s <;> simp only[e,if_true,if_false] at this ⊢ <;> exact this)
 ·rw[f];have:=d.ak t b;rw[c] at this;(by_cases e:t=s <;> simp only[e,if_true,if_false] at this ⊢ <;> exact this)
 ·rw[f];have:=d.ab t b;rw[c] at this;(by_cases e:t=s <;> simp only[e,if_true,if_false] at this ⊢ <;> exact this)
 ·rw[f];split
  ·rename_i e;subst e;exact r
  ·rename_i e;by_cases e1:s=1
   ·have o:¬t=1:=fun m=>e (m.trans e1.symm)
    have:=h.tab t b;rw[if_neg (by simp[o])] at this ⊢;exact this
   ·rw[(p e1).1];exact h.tab t b
 ·rw[f];split
  ·rename_i e;subst e;exact u
  ·rename_i e;by_cases e1:s=1
   ·have o:¬t=1:=fun m=>e (m.trans e1.symm)
    have:=h.sto t b;rw[if_neg (by simp[o])] at this ⊢;exact this
   ·rw[(p e1).2];exact h.sto t b
 ·rw[q,f];have:=d.done t b;rw[c] at this;(by_cases e:t=s <;> simp only[e,if_true,if_false] at this ⊢ <;> exact this)
theorem taken2 {H:Hs} {s i:Nat} {l:List Cm} {c:Cm} (b:c.ag=2):H.taken s l i c=H.al s { H.sh s with tab:=Cd (H.sh s).tab c.tx c.aa,done:=i+1 }:=by
 unfold Hs.taken Hs.a9;rw[if_pos b,q2v,Cj]
theorem QL {H:Hs} {s i:Nat} {l:List Cm} {c:Cm} (b:c.ag=3) (d:∀ o y,¬Ez (H.sh s).tab c.tx o y):H.taken s l i c=H.al s { H.sh s with tab:=Bh (H.sh s).tab c.tx,sto:=Bc (H.sh s).sto (l.take i) c,done:=i+1 }:=by
 unfold Hs.taken Hs.a9;rw[if_neg (by omega),if_pos b];unfold Hs.rel;rw[Hf _ (by rw[Cj];exact d),q2v,Cj,q2v,Cj]
theorem Ah.a7 (h:Ah x H) (b:EB x=Bs y):Ah y (Hs.a7 1 3 H 1):=by
 have o:=h.nd 1 0 (by omega) (by omega);unfold Hs.a7;rw[h.head (by omega)];simp only;rw[o];unfold EB at b;by_cases e:place (x.get 1 0).log 3 1=B0/\place (x.get 1 0).log 2 1≠B0
 ·rw[if_pos (by simpa using e)];rw[if_pos (by simp[e.1,YR,e.2])] at b;split at b
  ·rename_i g;simp only[Wq,X7,beq_iff_eq] at g;obtain⟨⟨⟨⟨B,A⟩,z⟩,p⟩,m⟩:=g;injection b with b;rw[if_pos trivial,h.time',p];rw[p] at b;obtain⟨r,hs,u⟩:=h.grow (s:=1) (by omega) ⟨3,1,1,[]⟩ Jx B (fun _ e=>by simp at e);rw[show((1:Nat):Int)=1 from rfl,u];obtain⟨f,l⟩:∃ f,(x.get 1 0).log=[f]/\f.ag=2:=by
    unfold Nm at m;split at m
    ·rename_i f E;exact⟨f,E,by simpa using m⟩
    ·cases m
   obtain⟨l,t⟩:=l;have v:f=prepC:=h.lgp f (by rw[l];exact List.mem_singleton.2 rfl) t;subst v;obtain⟨K,J,I,G,D,C⟩:=q7h x 1 0 ((x.get 1 0).grow ⟨3,1,1,[]⟩).1;have d:(r.sh 1).tab=Cb:=by
    rw[hs.tab 1 (by omega),if_pos ⟨rfl,D.trans A⟩]
   have j:(r.sh 1).sto=fun _=>[]:=by
    rw[hs.sto 1 (by omega),if_neg];rintro ⟨_,q⟩;rw[show((x.set 1 0 ((x.get 1 0).grow ⟨3,1,1,[]⟩).1).send ((x.get 1 0).grow ⟨3,1,1,[]⟩).2).st=x.st from C,z] at q;cases q
   rw[QL (c:=⟨3,1,1,[]⟩) rfl (by rw[d];exact Sc),d,j];subst b;refine hs.setS (by omega) _ Jx T2 (by rw[if_neg (by simp)];exact Rc) ?_ (fun e=>absurd rfl e);rw[if_pos ⟨rfl,rfl⟩,l];rfl
  ·cases b
 ·rw[if_neg (by simpa using e)];rw[if_neg (by simpa [YR] using e)] at b;injection b with b;rw[<- b];exact h
theorem Ah.aM (h:Ah x H) (b:EB x=Bs y):Ah y (H.aM 1 3):=by
 unfold Hs.aM;rw[h.ai];exact h.a7 b
theorem Ah.setT' (h:Ah x H) (st:Int) (pl:Option Int) (t:Bi) (b:t=⟨st,[Et],AG (fun _=>B0) 1 1,fun k=>if k=1 then pl else B0,x.ae,[]⟩):Ah { x with state:=st,pl:=pl } (H.aw 1 t):=by
 have:=h.setT st x.ae pl t { H.aw 1 t with ae:=x.ae } b rfl;have e:({ H.aw 1 t with ae:=x.ae } : Hs)=H.aw 1 t:=by rw[<- h.ae];rfl
 rw[e] at this;exact this
theorem Ah.commit (h:Ah x H) {l:List (Cs×Bool)} (b:Hr x=Bs l):∃ p∈l,Ah p.1 (H.commit 1)/\p.2=T2:=by
 unfold Hr at b;cases c:EB { x with state:=3 } with
 | none=>rw[c] at b;cases b
 | some y=>
  rw[c] at b;injection b with b;subst b;refine⟨_,List.mem_singleton.2 rfl,?_,rfl⟩;have d:=h.setT' 3 x.pl { H.tx 1 with state:=3 } (by rw[h.tx]);exact d.aM c
theorem Ah.dec1 (h:Ah x H) (at_:Nat) {l:List (Cs×Bool)} (b:NG x at_=Bs l):∃ p∈l,Ah p.1 (if H.ao 2 0<=at_ then(H,Jx) else(H.commit 1,T2)).1/\p.2=(if H.ao 2 0<=at_ then(H,Jx) else(H.commit 1,T2)).2:=by
 unfold NG at b;have e:H.ao 2 0=x.dh 2:=by unfold Hs.ao Cs.dh;rw[h.nd 2 0 (by omega) (by omega)]
 rw[e];split at b
 ·rename_i g;rw[if_pos g];injection b with b;subst b;exact⟨_,List.mem_singleton.2 rfl,h,rfl⟩
 ·rename_i g;rw[if_neg g];exact h.commit b
theorem Ah.grow2 (h:Ah x H) (g:x.ok 2=T2) (j:(x.get 2 0).log=[]) (b:Bool):∃ at_∈[0,1],Ah (x.grow 2 ⟨3,1,1,[]⟩) (H.add 2 0 ⟨3,1,1,[]⟩ b).2/\(H.add 2 0 ⟨3,1,1,[]⟩ b).1=((at_:Nat):Int):=by
 obtain⟨m,hs,l⟩:=h.grow (s:=2) (by omega) ⟨3,1,1,[]⟩ b g (fun e _=>by omega);have d:(m.sh 2).tab=fun _=>B0:=by rw[hs.tab 2 (by omega),if_neg (by omega)]
 have f:(m.sh 2).sto=fun _=>[]:=by rw[hs.sto 2 (by omega),if_neg (by omega)]
 refine⟨if b then 1 else 0,by split <;> simp,?_,?_⟩
 ·rw[l];rw[QL (c:=⟨3,1,1,[]⟩) rfl (by rw[d];exact Sd _),d,f,Re,show Bc (fun _=>[]) (List.take (x.get 2 0).log.length ((x.get 2 0).log++[(⟨3,1,1,[]⟩:Cm)])) ⟨3,1,1,[]⟩=fun _=>[] by rw[j];rfl];exact hs.setS (s:=2) (by omega) ((x.get 2 0).log.length+1) x.lk x.st (by rw[if_neg (by omega)]) (by rw[if_neg (by omega)]) (fun _=>⟨rfl,rfl⟩)
 ·rw[l,j];cases b <;> rfl
theorem Ah.dec (h:Ah x H) {l:List (Cs×Bool)} (c:PQ x T2=Bs l) (b:Bool):∃ p∈l,Ah p.1 (H.aB 1 b).1/\p.2=(H.aB 1 b).2:=by
 unfold PQ at c;rw[if_pos rfl] at c;have f:=h.nd 2 0 (by omega) (by omega);unfold Hs.aB;rw[h.head (by omega)];simp only;rw[f];cases d:place (x.get 2 0).log 3 1 with
 | some p=>
  rw[d] at c;exact h.dec1 p c
 | none=>
  rw[d] at c;simp only at c ⊢;split at c
  ·rename_i g;simp only[Wq,beq_iff_eq,List.isEmpty_iff] at g;obtain⟨⟨z,v⟩,o⟩:=g;have q:H.timed 1 = { H.aw 1 { H.tx 1 with ae:=1 } with ae:=1 }:=by
    unfold Hs.timed;rw[h.time',if_pos o,h.ae,o,show Xa (0+1)=1 by unfold Xa;decide]
   have m:Ah { x with ae:=1 } (H.timed 1):=h.setT x.state 1 x.pl _ _ (by rw[h.tx]) q;have e:({ x with ae:=1 } : Cs).ok 2=T2:=z;obtain⟨at_,j,u,t⟩:=m.grow2 e v b;rw[m.time',show((1:Nat):Int)=1 from rfl];rw[t,if_neg (by omega)];obtain⟨a,s,r⟩:=q37 c j;obtain⟨p,d,hs⟩:=u.dec1 at_ s;refine⟨p,r p d,?_⟩;exact hs
  ·cases c
theorem Ah.grow1 (h:Ah x H) (f:x.ok 1=T2) (j:x.lk=T2) (p:(x.get 1 0).log=[]) (b:Bool):∃ at_∈[0,1],Ah (x.grow 1 prepC) (H.add 1 0 prepC b).2/\(H.add 1 0 prepC b).1=((at_:Nat):Int):=by
 obtain⟨g,hs,l⟩:=h.grow (s:=1) (by omega) prepC b f (fun _ _=>rfl);obtain⟨B,A,z,v,t,r⟩:=q7h x 1 0 ((x.get 1 0).grow prepC).1;have d:(g.sh 1).tab=Cb:=by rw[hs.tab 1 (by omega),if_pos ⟨rfl,t.trans j⟩]
 have o:Cd Cb prepC.tx prepC.aa=Cb:=LZ;refine⟨if b then 1 else 0,by split <;> simp,?_,?_⟩
 ·rw[l,taken2 (c:=prepC) rfl,d,o];have u:((x.set 1 0 ((x.get 1 0).grow prepC).1).send ((x.get 1 0).grow prepC).2).st=x.st:=r;have q:(g.sh 1).sto=if 1=1/\x.st=T2 then Le else fun _=>[]:=by rw[hs.sto 1 (by omega)];simp only[u]
  have m:=hs.setS (s:=1) (by omega) (T:=Cb) (K:=(g.sh 1).sto) ((x.get 1 0).log.length+1) x.lk x.st (by rw[j,if_pos ⟨rfl,rfl⟩]) q (fun e=>absurd rfl e);have e:({ ((x.set 1 0 ((x.get 1 0).grow prepC).1).send ((x.get 1 0).grow prepC).2).aS 1 ((x.get 1 0).log.length+1) with lk:=x.lk,st:=x.st } : Cs)=x.grow 1 prepC:=rfl;rw[e] at m;exact m
 ·rw[l,p];cases b <;> rfl
theorem Ah.place (h:Ah x H) (p:Int):Ah { x with pl:=Bs p } (H.aA 1 1 p):=by
 unfold Hs.aA;refine h.setT' x.state (Bs p) _ ?_;rw[h.tx];have e:AG (fun k=>if k=1 then x.pl else B0) 1 p=fun k=>if k=1 then Bs p else B0:=by
  funext k;unfold AG;by_cases e:k=1 <;> simp[e]
 show(⟨_,_,_,AG (fun k=>if k=1 then x.pl else B0) 1 p,_,_⟩:Bi)=_;rw[e]
theorem Ah.ar (h:Ah x H) {l:List (Cs×Bool)} (c:q5s x=Bs l) (b:Nat->Bool):∃ p∈l,Ah p.1 (H.ar 1 b).1/\p.2=(H.ar 1 b).2:=by
 unfold q5s at c;have q:(H.tx 1).state=x.state:=by rw[h.tx]
 unfold Hs.ar;rw[q];split at c
 ·rename_i g;rw[if_pos g];have j:∀ (y:Cs) (H2:Hs) (a:Bool),Ah y H2->∀ {l:List (Cs×Bool)},PQ y a=Bs l->∃ p∈l,Ah p.1 (match Bs (T2 && a) with|none=>(H2,T2)|some Jx=>(H2,Jx)|some T2=>H2.aB 1 (b 2)).1/\p.2=(match Bs (T2 && a) with|none=>(H2,T2)|some Jx=>(H2,Jx)|some T2=>H2.aB 1 (b 2)).2:=fun y H2 a A l c=>by
   cases a with
   | true=>exact A.dec c (b 2)
   | false=>
    unfold PQ at c;rw[if_neg (by simp)] at c;injection c with c;subst c;exact⟨_,List.mem_singleton.2 rfl,A,rfl⟩
  have d:=h.nd 1 0 (by omega) (by omega);unfold Hs.ends;rw[h.ai];unfold Hs.az Hs.aD;rw[h.head (s:=1) (by omega)];simp only;rw[d];cases m:Go.Proofs.YtccahlhdifadfaaGreatDoor.place (x.get 1 0).log 2 1 with
  | some p=>
   rw[m] at c;simp only at c ⊢;simp only[Hs.az];have e:H.ao 1 0=x.dh 1:=by unfold Hs.ao Cs.dh;rw[d]
   rw[e];exact j _ _ _ (h.place p) c
  | none=>
   rw[m] at c;simp only at c ⊢;split at c
   ·rename_i o;simp only[Wq,beq_iff_eq,List.isEmpty_iff] at o;obtain⟨⟨⟨⟨K,J⟩,I⟩,G⟩,E⟩:=o;have t:¬((H.tx 1).ae > 0\/((H.tx 1).ad ((1:Nat):Int)).getD 0≠(H.sh 1).ab\/((H.tx 1).places ((1:Nat):Int)).getD 0>=0):=by
     rw[h.tx,h.ab 1 (by omega)];simp[K,J,AG]
    have r:(H.tx 1).of 1=[Et]:=by rw[h.tx];rfl
    have f:H.add 1 0 ⟨2,((1:Nat):Int),0,(H.tx 1).of 1⟩ (b 1)=H.add 1 0 prepC (b 1):=by rw[r];rfl
    obtain⟨at_,u,z,D⟩:=h.grow1 I G E (b 1);obtain⟨a,C,B⟩:=q37 c u;have e:(H.add 1 0 prepC (b 1)).2.ao 1 0=(x.grow 1 prepC).dh 1:=by unfold Hs.ao Cs.dh;rw[z.nd 1 0 (by omega) (by omega)]
    obtain⟨p,m,hs⟩:=j _ _ _ (z.place at_) C;refine⟨p,B p m,?_⟩;simp only[if_neg t,f,D,e,show ¬((at_:Int)<0) by omega,if_false];simp only[Hs.az];exact hs
   ·cases c
 ·rename_i g;rw[if_neg g];split at c
  ·rename_i o;rw[if_pos o];cases v:EB x with
   | none=>rw[v] at c;cases c
   | some y=>
    rw[v] at c;injection c with c;subst c;exact⟨_,List.mem_singleton.2 rfl,h.aM v,rfl⟩
  ·cases c
theorem Ah.round (h:Ah x H) {l:List (Cs×Bool)} (b:q5s x=Bs l) (bs:Nat->Nat->Bool):∃ p∈l,Ah p.1 (Hs.round bs H.m 1 (H,Jx)).1/\p.2=(Hs.round bs H.m 1 (H,Jx)).2:=by
 rw[h.m];unfold Hs.round Hs.round;simp only[Bool.or_false];exact h.ar b (bs 1)
theorem Ah.settle {H':Hs} (r:EU H H'):∀ {f:Nat} {x:Cs} {L:List Cs},Ah x H->Ts f x=Bs L->∃ y∈L,Ah y H':=by
 induction r with
 | @stop H bs m=>
  intro f x L h b;cases f with
  | zero=>cases b
  | succ f=>
   unfold Ts at b;cases d:q5s x with
   | none=>rw[d] at b;cases b
   | some l=>
    rw[d] at b;obtain⟨p,j,hs,e⟩:=h.round d bs;obtain⟨a,c,o⟩:=q37 b j;rw[m] at e;rw[e,if_neg (by simp)] at c;injection c with c;exact⟨p.1,o _ (by rw[<- c];exact List.mem_singleton.2 rfl),hs⟩
 | @more H H' bs m _ q=>
  intro f x L h b;cases f with
  | zero=>cases b
  | succ f=>
   unfold Ts at b;cases d:q5s x with
   | none=>rw[d] at b;cases b
   | some l=>
    rw[d] at b;obtain⟨p,j,hs,e⟩:=h.round d bs;obtain⟨a,c,o⟩:=q37 b j;rw[m] at e;rw[e,if_pos rfl] at c;obtain⟨y,s,g⟩:=q hs c;exact⟨y,o y s,g⟩
theorem FM (d:Nd) (m:Ms):(d.step m).1.id=d.id/\(d.step m).1.at_=d.at_:=by
 have b:∀ c,(d.grow c).1.id=d.id/\(d.grow c).1.at_=d.at_:=fun c=>by
  unfold Nd.grow;split
  ·exact⟨(E7 _).1,(E7 _).2.2.2.2⟩
  ·exact⟨rfl,rfl⟩
 unfold Nd.step;simp only
 repeat' split
 all_goals first|exact⟨rfl,rfl⟩|exact b _
theorem LJ {d:Nd} (h:d.at_=0) (m:Ms):(d.step m).1.log=d.log:=by
 unfold Nd.step;simp only[h]
 repeat' split
 all_goals first|rfl|(rename_i g;simp at g)
theorem Ah.netT (h:Ah x H) (l:List Ms):Ah { x with net:=l } { H with net:=⟨l,fun _=>Jx⟩ }:=by
 have b:∀ s j,({ x with net:=l } : Cs).get s j=x.get s j:=fun s j=>by unfold Cs.get;split <;> rfl
 have d:∀ s,({ x with net:=l } : Cs).dn s=x.dn s:=fun s=>by unfold Cs.dn;split <;> rfl
 exact⟨h.n,h.c,h.m,fun s j hs c=>(h.nd s j hs c).trans (b s j).symm,h.ak,h.ab,h.tab,h.sto,fun s hs=>(h.done s hs).trans (d s).symm,rfl,h.ae,h.tx,
  fun s j hs c=>by rw[b];exact h.ids s j hs c,fun s hs=>by rw[b];exact h.bF s hs,fun s hs=>by rw[b];exact h.bP s hs,by rw[b];exact h.lgp⟩
theorem Ah.node_ (h:Ah x H) (id:Int):H.node id=Kk id:=by
 have e:([0,1,2].flatMap fun s=>((H.sh s).aj H.n).map fun j=>(s,j))=[(0,0),(0,1),(1,0),(1,1),(2,0),(2,1)]:=by
  simp only[VI,List.flatMap_nil];rw[h.live (s:=0) (by omega),h.live (s:=1) (by omega),h.live (s:=2) (by omega)];rfl
 have b:∀ s j,s<3->j<2->((H.sh s).nd j).id=10*s+j:=fun s j hs c=>by rw[h.nd s j hs c,h.ids s j hs c]
 have a0:((H.sh 0).nd 0).id=0:=(b 0 0 (by omega) (by omega)).trans (by decide);have a1:((H.sh 0).nd 1).id=1:=(b 0 1 (by omega) (by omega)).trans (by decide);have a2:((H.sh 1).nd 0).id=10:=(b 1 0 (by omega) (by omega)).trans (by decide);have g:((H.sh 1).nd 1).id=11:=(b 1 1 (by omega) (by omega)).trans (by decide);have f:((H.sh 2).nd 0).id=20:=(b 2 0 (by omega) (by omega)).trans (by decide);have d:((H.sh 2).nd 1).id=21:=(b 2 1 (by omega) (by omega)).trans (by decide);unfold Hs.node Kk;rw[e];simp only[List.find?_cons,List.find?_nil,a0,a1,a2,g,f,d]
 repeat' split
 all_goals first|rfl|(simp_all;done)|(exfalso;simp_all;omega)
theorem Ah.tick1 (h:Ah x H) {s j:Nat} (hs:s<3) (b:j<2):Ah (Tq x s j) (Hs.aO s H j):=by
 unfold Tq Hs.aO;rw[h.nd s j hs b];refine h.node hs b (E7 _).1 (E7 _).2.2.2.2 ?_;rw[(E7 _).2.1];rintro rfl rfl;exact h.lgp
theorem Ah.cO (h:Ah x H) {s:Nat} (hs:s<3):Ah (Tq (Tq x s 0) s 1) (H.aZ s):=by
 unfold Hs.aZ;rw[h.live hs];exact(h.tick1 hs (by omega)).tick1 hs (by omega)
theorem Ah.bn (h:Ah x H):Ah (MD x) H.bn:=((h.cO (s:=0) (by omega)).cO (s:=1) (by omega)).cO (s:=2) (by omega)
theorem Ah.deliver (h:Ah x H) {L:List Cs} (f:q8k x=Bs L) {H':Hs} (r:P0 H 0 H'):∃ y∈L,Ah y H':=by
 unfold q8k at f;cases r with
 | none z=>
  rw[h.net] at z;have:x.net=[]:=by cases o:x.net with
   | nil=>rfl
   | cons a b=>rw[o] at z;simp at z
  rw[this] at f;injection f with f;subst f;exact⟨x,List.mem_singleton.2 rfl,h⟩
 | @some m l _ r=>
  rw[h.net] at l;cases o:x.net with
  | nil=>rw[o] at l;simp at l
  | cons a net=>
   rw[o] at l f;simp only[D0,VN] at l;subst l;have t:=h.netT net;have e1:({ H with net:=takeS H.net 0 } : Hs) = { H with net:=⟨net,fun _=>Jx⟩ }:=by
    rw[h.net,o];rfl
   rw[e1] at r;unfold Hs.arrive at r;rw[t.node_] at r;simp only at f;cases e:Kk a.a4 with
   | none=>
    rw[e] at r f;exact t.settle r f
   | some q=>
    obtain⟨s,j⟩:=q;rw[e] at r f;simp only at r f;have v:s<3/\j<2:=by
     unfold Kk at e
     repeat' split at e
     all_goals first|(injection e with e;injection e with t u;omega)|cases e
    obtain⟨hs,B⟩:=v;have A:({ x with net:=net } : Cs).get s j=x.get s j:=by unfold Cs.get;split <;> rfl
    have C:=t.nd s j hs B;rw[A] at C;have u:=t.node hs B (d:=((x.get s j).step a).1) (ms:=((x.get s j).step a).2) (by rw[A];exact(FM _ _).1) (by rw[A];exact(FM _ _).2) (by
     rintro rfl rfl c p D;rw[LJ (h.bF 1 (by omega))] at p;exact h.lgp c p D)
    split at f
    ·rename_i g;have g:=beq_iff_eq.1 g;rw[<- C] at g f u;rw[u.take hs g] at r;exact u.settle r f
    ·cases f
theorem Ah.drain {k:Nat} {H':Hs} (r:Tp k H H'):∀ {x:Cs} {L:List Cs},Ah x H->qa7 k x=Bs L->∃ y∈L,Ah y H':=by
 induction r with
 | zero H=>
  intro x L h b;injection b with b;subst b;exact⟨x,List.mem_singleton.2 rfl,h⟩
 | @none k H c=>
  intro x L h b;rw[h.net] at c;have c:x.net=[]:=c;have:qa7 k x=Bs [x]:=by
   cases k with
   | zero=>rfl
   | succ k=>unfold qa7;rw[if_pos (by simp[c])]
  rw[this] at b;injection b with b;subst b;exact⟨x,List.mem_singleton.2 rfl,h⟩
 | @more k H q H' c d _ g=>
  intro x L h b;rw[h.net] at c;have c:x.net≠[]:=c;unfold qa7 at b;rw[if_neg (by simpa using c)] at b;cases f:q8k x with
  | none=>rw[f] at b;cases b
  | some l=>
   rw[f] at b;obtain⟨y,m,hs⟩:=h.deliver f d;obtain⟨a,p,o⟩:=q37 b m;obtain⟨z,j,e⟩:=g hs p;exact⟨z,o z j,e⟩
theorem Ah.calm {k:Nat} {H':Hs} (r:C6 k H H'):∀ {x:Cs} {L:List Cs},Ah x H->Kl k x=Bs L->∃ y∈L,Ah y H':=by
 induction r with
 | zero H=>
  intro x L h b;injection b with b;subst b;exact⟨x,List.mem_singleton.2 rfl,h⟩
 | @more k H C H2 H' t d _ o=>
  intro x L h b;unfold Kl at b;cases m:Ts 5 (MD x) with
  | none=>rw[m] at b;cases b
  | some l=>
   rw[m] at b;simp only at b;cases j:Dm (qa7 5000) l with
   | none=>rw[j] at b;cases b
   | some B=>
    rw[j] at b;simp only at b;obtain⟨y,q,hs⟩:=h.bn.settle t m;obtain⟨a,A,v⟩:=q37 j q;obtain⟨z,p,c⟩:=Ah.drain d hs A;obtain⟨a2,g,f⟩:=q37 b (v z p);obtain⟨u,s,e⟩:=o c g;exact⟨u,f u s,e⟩
end
def Ey (s:Nat):List Int:=[10*(s:Int)+((0:Nat):Int),10*(s:Int)+((1:Nat):Int)]
def n0 (s j:Nat):Nd×List Ms:=((nd0 (10*s+j)).join 1 (Ey s)).tick
def x0:Cs:=⟨(n0 0 0).1,(n0 0 1).1,(n0 1 0).1,(n0 1 1).1,(n0 2 0).1,(n0 2 1).1,
 (Dh ⟨[],fun _=>Jx⟩ ((n0 0 0).2++(n0 0 1).2++(n0 1 0).2++(n0 1 1).2++(n0 2 0).2++(n0 2 1).2)).l,2,0,Bs (-1),T2,Jx,0,0,0⟩
def Ka (z:Cs):Bool:=z.state == 3 && z.st && !z.lk
def qa9 (y:Cs):Bool:=y.state == 2 && match Kl 4 y with|none=>Jx|some l=>l.all Ka
def allOk:Bool:=match Ts 5 x0 with|none=>Jx|some l=>l.all qa9
theorem MN:allOk=T2:=by decide +kernel
def t1:Bi:={ Bm with ad:=AG (fun _=>B0) 1 1 }
theorem OK {H:Hs} (d:H.m=1) (c:H.tx 1=Bm) (f:H.head 1=Bs 0) (h:(H.sh 1).tab=fun _=>B0) (g:(H.sh 1).ab=1) :
  H.put 1 Et=(0,{ H with sh:=Ae H.sh 1 { H.sh 1 with tab:=Cb },tx:=Ae H.tx 1 ⟨1,[Et],AG (fun _=>B0) 1 1,fun _=>B0,0,[]⟩ }):=by
 have b:Ad (sx Et.key)=1:=rfl;unfold Hs.put;rw[if_neg (by decide)];have e:H.lock 1 (sx Et.key) 2=(0,{ H with sh:=Ae H.sh 1 { H.sh 1 with tab:=Cb },tx:=Ae H.tx 1 { Bm with ad:=AG (fun _=>B0) 1 1 } }):=by
  unfold Hs.lock;have e1:Int.toNat 1=1:=rfl;rw[if_neg (by rw[d];omega),e1,c,if_neg (by simp[Bm]),if_neg (by decide),b,if_neg (by rw[f];simp),if_neg (by simp[Bm]),g];simp only;have p:((H.aw 1 { Bm with ad:=AG Bm.ad ((1:Nat):Int) 1 }).tx 1)=t1:=Ay H.tx 1 t1;rw[p];rw[if_neg (by simp[t1,Bm,CM])];unfold Hs.aR;rw[b];simp only;have o:((H.aw 1 { Bm with ad:=AG Bm.ad ((1:Nat):Int) 1 }).sh 1).tab=fun _=>B0:=h
  rw[o];have m:Ac (fun _=>B0) (sx Et.key)=k0:=rfl;rw[m,if_neg (by simp[k0,CC]),if_pos (show As k0.h ((1:Nat):Int) 2 k0.ws=T2 from Hk 1 2)];have l:An (fun _=>B0) ((1:Nat):Int) (sx Et.key) 2=Cb:=RV;rw[l];rfl
 rw[e];simp only;rw[if_neg (by simp),show Int.toNat 1=1 from rfl,Ay];have j:BS Bm.aa ⟨Et.key,if Et.gone=T2 then⟨#[]⟩ else Et.val,Et.gone⟩=Bs [Et]:=rfl;rw[j];unfold Hs.aw;simp only[qbr];rfl
def Ug (s:Nat):Bg:=⟨Ae (Ae (CL s).nd 0 (n0 s 0).1) 1 (n0 s 1).1,fun _=>Jx,1,2,fun _=>B0,fun _=>[],0⟩
theorem RY {x:Bg} (h:x.ak=fun _=>Jx):x.aj 2=[0,1]:=by
 unfold Bg.aj;rw[h];rfl
theorem Oi {H:Hs} {s:Nat} (b:H.n=2) (d:(H.sh s).ak=fun _=>Jx) (f:((H.sh s).nd 0).log=[]) (e:((H.sh s).nd 0).at_=0):H.take s=H:=by
 have c:H.head s=Bs 0:=by
  unfold Hs.head Bg.bu;rw[b,RY d,Y9];unfold Nd.head;rw[e];rfl
 unfold Hs.take;rw[c];simp only;rw[f,Xu,Nat.zero_sub];rfl
theorem RQ (s j:Nat):(n0 s j).1.log=[]:=by unfold n0;rw[(E7 _).2.1];rfl
theorem n0_at (s:Nat):(n0 s 0).1.at_=0/\(n0 s 1).1.at_=1:=by
 unfold n0;rw[(E7 _).2.2.2.2,(E7 _).2.2.2.2];constructor
 ·show CP (10*(s:Int)+((0:Nat):Int)) (Ey s)=0;unfold CP Ey;simp[Y1]
 ·show CP (10*(s:Int)+((1:Nat):Int)) (Ey s)=1;unfold CP Ey;have h:¬(10*(s:Int)+1=10*s):=by omega
  simp[Y1,h]
theorem FY {H:Hs} {s:Nat} (ids:List Int) (j:Nat) {X:Bg} (b:H.sh s=X):Hs.ay s ids H j = { H with sh:=Ae H.sh s { X with nd:=Ae X.nd j ((X.nd j).join X.ab ids).tick.1 },net:=Dh H.net ((X.nd j).join X.ab ids).tick.2 }:=by subst b;rfl
def shY (s:Nat):Bg:=⟨(CL s).nd,fun _=>Jx,1,2,fun _=>B0,fun _=>[],0⟩
theorem more2 {H:Hs} (g:H.n=2) (e:H.sh H.c=CL H.c):H.more = { H with c:=H.c+1,sh:=Ae H.sh H.c (Ug H.c),net:=Dh (Dh H.net (n0 H.c 0).2) (n0 H.c 1).2 }:=by
 rw[q7q];have b:(H.cc.sh H.c).aj H.cc.n=[0,1]:=by
  show(H.sh H.c).aj H.n=_;rw[g,e];exact RY rfl
 unfold Hs.fix;rw[b,if_neg (by simp)];unfold Hs.aW;simp only;have d:(H.cc.sh H.c).ids H.cc.n=Ey H.c:=by
  unfold Bg.ids;rw[b];show [((H.sh H.c).nd 0).id,((H.sh H.c).nd 1).id]=_;rw[e];rfl
 rw[b,d];simp only[List.foldl_cons,List.foldl_nil];have m:H.cc.al H.c { H.cc.sh H.c with ab:=Xa ((H.cc.sh H.c).ab+1),size:=(([0,1]:List Nat).length:Int) } = { H.cc with sh:=Ae H.sh H.c (shY H.c) }:=by
  have:({ H.cc.sh H.c with ab:=Xa ((H.cc.sh H.c).ab+1),size:=(([0,1]:List Nat).length:Int) } : Bg)=shY H.c:=by
   show({ H.sh H.c with ab:=Xa ((H.sh H.c).ab+1),size:=(([0,1]:List Nat).length:Int) } : Bg)=shY H.c;rw[e];have j:Xa ((CL H.c).ab+1)=1:=by show Xa (0+1)=1;unfold Xa;decide
   rw[j];rfl
  rw[this];rfl
 rw[m];rw[FY (X:=shY H.c) (Ey H.c) 0 (Ay _ _ _)];have e1:((shY H.c).nd 0).join (shY H.c).ab (Ey H.c)=(nd0 (10*(H.c:Int)+((0:Nat):Int))).join 1 (Ey H.c):=rfl;rw[e1];rw[FY (Ey H.c) 1 (Ay _ _ _)];have l:(Ae (shY H.c).nd 0 ((nd0 (10*(H.c:Int)+((0:Nat):Int))).join 1 (Ey H.c)).tick.1) 1=nd0 (10*(H.c:Int)+((1:Nat):Int)):=AF (by omega) _;simp only[l,qbr];have f:({ H with c:=H.c+1,sh:=Ae H.sh H.c (Ug H.c),net:=Dh (Dh H.net (n0 H.c 0).2) (n0 H.c 1).2 } : Hs).sh H.c=Ug H.c:=Ay _ _ _;have h:(Ug H.c).nd 0=(n0 H.c 0).1:=by
  rfl
 refine Eq.trans (congrArg (fun K=>Hs.take K H.c) (?_:_=({ H with c:=H.c+1,sh:=Ae H.sh H.c (Ug H.c),net:=Dh (Dh H.net (n0 H.c 0).2) (n0 H.c 1).2 } : Hs))) (Oi g (by rw[f];rfl) (by rw[f,h];exact RQ _ _) (by rw[f,h];exact(n0_at _).1));unfold Hs.al;simp only[Ay,qbr];rfl
theorem RS {H:Hs} {c:Nat} (e:H.c=c) (b:H.n=2) (d:H.sh c=CL c):H.more=⟨2,c+1,Dh (Dh H.net (n0 c 0).2) (n0 c 1).2,Ae H.sh c (Ug c),H.m,H.tx,H.ae⟩:=by
 subst e;rw[more2 b d,b]
theorem hs0_2:(BD 2).n=2/\(BD 2).c=3/\(BD 2).m=0/\(BD 2).ae=0/\(BD 2).net=⟨x0.net,fun _=>Jx⟩/\∀ s,s<3->(BD 2).sh s=Ug s:=by
 have a1:=RS (H:=hsE 2) (c:=0) rfl rfl rfl;have a2:=RS (H:=(hsE 2).more) (c:=1) (by rw[a1]) (by rw[a1]) (by rw[a1];rfl);have f:=RS (H:=(hsE 2).more.more) (c:=2) (by rw[a2]) (by rw[a2]) (by rw[a2,a1];rfl);have e:BD 2=(hsE 2).more.more.more:=rfl;rw[e,f,a2,a1];refine⟨rfl,rfl,rfl,rfl,?_,fun s hs=>?_⟩
 ·show Dh (Dh (Dh (Dh (Dh (Dh ⟨[],fun _=>Jx⟩ _) _) _) _) _) _=_;have b:∀ S:Bk,S.ak=(fun _=>Jx)->S=⟨S.l,fun _=>Jx⟩:=fun S h=>by cases S;simp only at h;rw[h]
  refine(b _ (by simp only[q2g])).trans ?_;unfold x0 Dh;simp only[WS]
 ·have d:s=0\/s=1\/s=2:=by omega
  rcases d with rfl|rfl|rfl <;> rfl
def tP:Bi:=⟨1,[Et],AG (fun _=>B0) 1 1,fun _=>B0,0,[]⟩
noncomputable def hP:Hs:={ (BD 2).begin with sh:=Ae (BD 2).sh 1 { (BD 2).sh 1 with tab:=Cb },tx:=Ae (BD 2).begin.tx 1 ⟨1,[Et],AG (fun _=>B0) 1 1,fun _=>B0,0,[]⟩ }
theorem qbd:(BD 2).begin.put 1 Et=(0,hP):=by
 obtain⟨e,g,d,f,c,b⟩:=hs0_2;refine OK (H:=(BD 2).begin) (by show(BD 2).m+1=1;rw[d]) ?_ ?_ ?_ ?_
 ·show Ae (BD 2).tx ((BD 2).m+1) Bm 1=Bm;rw[d,Ay]
 ·show((BD 2).sh 1).bu (BD 2).n=Bs 0;rw[b 1 (by omega),e];unfold Bg.bu;rw[RY rfl,Y9];show((n0 1 0).1).head=T2;unfold Nd.head;rw[(n0_at 1).1];rfl
 ·show((BD 2).sh 1).tab=_;rw[b 1 (by omega)];rfl
 ·show((BD 2).sh 1).ab=_;rw[b 1 (by omega)];rfl
theorem qbc:Ah x0 (hP.ending 1)/\hP.m=1/\(hP.tx 1).state=1/\(hP.tx 1).af=[]:=by
 obtain⟨q,t,o,p,l,h⟩:=hs0_2;have f:hP.tx 1=⟨1,[Et],AG (fun _=>B0) 1 1,fun _=>B0,0,[]⟩:=Ay (BD 2).begin.tx 1 tP;have b:∀ s,s<3->(hP.ending 1).sh s=if s=1 then { Ug 1 with tab:=Cb } else Ug s:=fun s hs=>by
  show Ae (BD 2).sh 1 _ s=_;unfold Ae;split
  ·rw[h 1 (by omega)]
  ·exact h s hs
 have d:∀ s,s<3->s=0\/s=1\/s=2:=fun s hs=>by omega
 refine⟨⟨q,t,by show(BD 2).m+1=1;rw[o],fun s j hs r=>?_,fun s hs=>?_,fun s hs=>?_,fun s hs=>?_,fun s hs=>?_,fun s hs=>?_,l,p,?_,fun s j hs r=>?_,fun s hs=>?_,fun s hs=>?_,?_⟩,by show(BD 2).m+1=1;rw[o],by rw[f],by rw[f]⟩
 ·rw[b s hs];have g:j=0\/j=1:=by omega
  rcases d s hs with rfl|rfl|rfl <;> rcases g with rfl|rfl <;> rfl
 ·rw[b s hs];rcases d s hs with rfl|rfl|rfl <;> rfl
 ·rw[b s hs];rcases d s hs with rfl|rfl|rfl <;> rfl
 ·rw[b s hs];rcases d s hs with rfl|rfl|rfl <;> rfl
 ·rw[b s hs];rcases d s hs with rfl|rfl|rfl <;> rfl
 ·rw[b s hs];rcases d s hs with rfl|rfl|rfl <;> rfl
 ·have e1:(hP.ending 1).tx 1 = { hP.tx 1 with state:=2,places:=fun k=>if ((hP.tx 1).ad k).isSome then Bs (-1) else(hP.tx 1).places k }:=Ay hP.tx 1 _;rw[e1,f];have u:(fun k=>if (AG (fun _=>B0) 1 1 k).isSome then Bs (-1) else B0:Int->Option Int)=fun k=>if k=1 then x0.pl else B0:=by
   funext k;unfold AG;by_cases e:k=1 <;> simp[e,x0]
  show(⟨2,[Et],AG (fun _=>B0) 1 1,(fun k=>if (AG (fun _=>B0) 1 1 k).isSome then Bs (-1) else B0:Int->Option Int),0,[]⟩:Bi)=_;rw[u];rfl
 ·have g:j=0\/j=1:=by omega
  rcases d s hs with rfl|rfl|rfl <;> rcases g with rfl|rfl <;> rfl
 ·rcases d s hs with rfl|rfl|rfl <;> rfl
 ·rcases d s hs with rfl|rfl|rfl <;> rfl
 ·intro c m;rw[show(x0.get 1 0).log=[] from RQ 1 0] at m;cases m
theorem Mm {e:Int} {f:Hs} (r:Ie hP 1 e f):e=0/\∃ y,qa9 y=T2/\Ah y f:=by
 obtain⟨hs,m,p,o⟩:=qbc;have e1:Int.toNat 1=1:=rfl;cases r with
 | missing h=>rw[m] at h;omega
 | state h g=>rw[e1,p] at g;exact absurd rfl g
 | waits h _ g=>rw[e1,o] at g;exact absurd rfl g
 | ends _ _ _ r=>
  rw[e1] at r;refine⟨rfl,?_⟩;have b:=MN;unfold allOk at b;cases d:Ts 5 x0 with
  | none=>rw[d] at b;cases b
  | some l=>
   rw[d] at b;obtain⟨y,j,c⟩:=Ah.settle r hs d;exact⟨y,List.all_eq_true.1 b y j,c⟩
theorem He {y:Cs} {c:Hs} (b:qa9 y=T2) (h:Ah y c):c.state 1=2:=by
 unfold qa9 at b;simp only[Wq,beq_iff_eq] at b;unfold Hs.state;rw[h.m,if_neg (by omega)];show(c.tx 1).state=2;rw[h.tx];exact b.1
theorem JR {y:Cs} {g f:Hs} (c:qa9 y=T2) (h:Ah y g) (r:C6 4 g f):∃ z,Ka z=T2/\Ah z f:=by
 unfold qa9 at c;simp only[Wq] at c;have b:=c.2;cases e:Kl 4 y with
 | none=>rw[e] at b;cases b
 | some l=>
  rw[e] at b;obtain⟨z,j,d⟩:=Ah.calm r h e;exact⟨z,List.all_eq_true.1 b z j,d⟩
theorem Ml {z:Cs} {b:Hs} (d:Ka z=T2) (h:Ah z b):(b.begin.get 2 kA).1=(0,[120],T2)/\(b.begin.get 2 kA).2.state 1=3/\(b.begin.get 2 kA).2.state 2=1:=by
 unfold Ka at d;simp only[Wq,beq_iff_eq,X7] at d;obtain⟨⟨s,r⟩,q⟩:=d;have g:b.begin.m=2:=by show b.m+1=2;rw[h.m]
 have t:b.begin.tx 2=Bm:=by show Ae b.tx (b.m+1) Bm 2=_;rw[h.m];exact Ay _ _ _
 have e:b.begin.tx 1=b.tx 1:=by show Ae b.tx (b.m+1) Bm 1=_;rw[h.m];exact AF (by omega) _
 have v:b.begin.head 1=Bs 0:=h.head (by omega);have B:(b.begin.sh 1).tab=fun _=>B0:=by
  show(b.sh 1).tab=_;rw[h.tab 1 (by omega),q,if_neg (by simp)]
 have C:(b.begin.sh 1).sto=Le:=by
  show(b.sh 1).sto=_;rw[h.sto 1 (by omega),r,if_pos ⟨rfl,rfl⟩]
 have j:Ad kA=1:=rfl;have A:(b.begin.sh 1).ab=1:=h.ab 1 (by omega);have u:b.begin.lock 2 kA 1=(0,(b.begin.aw 2 t1).al 1 { b.begin.sh 1 with tab:=An (fun _=>B0) 2 kA 1 }):=by
  unfold Hs.lock;have e1:Int.toNat 2=2:=rfl;rw[if_neg (by rw[g];omega),e1,t,if_neg (by simp[Bm]),if_neg (by decide),j,if_neg (by rw[v];simp),if_neg (by simp[Bm]),A];simp only;have c:((b.begin.aw 2 { Bm with ad:=AG Bm.ad ((1:Nat):Int) 1 }).tx 2)=t1:=Ay b.begin.tx 2 t1;rw[c];rw[if_neg (by simp[t1,Bm,CM])];unfold Hs.aR;rw[j];simp only;have o:((b.begin.aw 2 { Bm with ad:=AG Bm.ad ((1:Nat):Int) 1 }).sh 1).tab=fun _=>B0:=B
  rw[o];have m:Ac (fun _=>B0) kA=k0:=rfl;rw[m,if_neg (by simp[k0,CC]),if_pos (show As k0.h ((2:Nat):Int) 1 k0.ws=T2 from Hk 2 1)];rfl
 unfold Hs.get;rw[u];simp only;rw[if_neg (by simp)];have e1:Int.toNat 2=2:=rfl;have c:((b.begin.aw 2 t1).al 1 { b.begin.sh 1 with tab:=An (fun _=>B0) 2 kA 1 }).tx 2=t1:=Ay b.begin.tx 2 t1;rw[e1,c,j];have o:t1.aa.reverse.find? (fun p=>sx p.key == kA)=B0:=rfl;rw[o];simp only;have m:(((b.begin.aw 2 t1).al 1 { b.begin.sh 1 with tab:=An (fun _=>B0) 2 kA 1 }).sh 1).sto=Le:=by
  rw[Cj];exact C
 rw[m];refine⟨?_,?_,?_⟩
 ·have l:BL (Cf (Le kA) 1099511627776)=([120],T2):=rfl;rw[l]
 ·unfold Hs.state;have l:((b.begin.aw 2 t1).al 1 { b.begin.sh 1 with tab:=An (fun _=>B0) 2 kA 1 }).tx 1=b.tx 1:=(AF (f:=b.begin.tx) (show(1:Nat)≠2 by omega) t1).trans e;rw[if_neg (by show ¬((1:Int)<1\/(b.begin.m:Int)<1);rw[g];omega),show Int.toNat 1=1 from rfl,l,h.tx];exact s
 ·unfold Hs.state;rw[if_neg (by show ¬((2:Int)<1\/(b.begin.m:Int)<2);rw[g];omega),e1,c];rfl
def prV (x:Pr):Hi:=.agg #[.string x.key,.string x.val,.bool x.gone]
theorem rflat:∀ (l:List (Pr)) (j:Nat) (x:Pr),l[j]? = Bs x->∀ i,i<3->(l.flatMap C9)[j*3+i]? = (C9 x)[i]?
 | [],j,p,h,i,b=>by simp at h
 | q::l,0,p,h,i,b=>by
  simp at h;subst h;rw[VI,Wc (by show _<3;omega)];simp
 | q::l,j+1,p,h,i,b=>by
  have d:l[j]? = Bs p:=by simpa using h
  have e:(j+1)*3+i=(j*3+i)+3:=by omega
  have c:(C9 q).length=3:=rfl;rw[e,VI,Wd (by rw[c];omega),c,Nat.add_sub_cancel];exact rflat l j p d i b
def Rg (w:B1) (g o:Nat) (x:Pr):Prop:=w.cell? ⟨g,o,B0⟩=Bs (.string x.key)/\w.cell? ⟨g,o+1,B0⟩=Bs (.string x.val)/\w.cell? ⟨g,o+2,B0⟩=Bs (.bool x.gone)
theorem rat {w:B1} {B n j:Nat} {A:Option Addr} {l:List (Pr)} (h:Rd w B 3 A n (l.flatMap C9)) (o:l.length=n) (p:j<n):∃ g b x,A=Bs ⟨g,b,B0⟩/\g<B/\l[j]? = Bs x/\Rg w g (b+j*3) x:=by
 obtain⟨g,b,e,m,d⟩:=h.2 (by omega);have f:l[j]? = Bs l[j]:=K0 (by omega);have c:=rflat l j _ f;exact⟨g,b,l[j],e,m,f,d (j*3) _ (c 0 (by omega)),d (j*3+1) _ (c 1 (by omega)),d (j*3+2) _ (c 2 (by omega))⟩
def rPred (F:Nat) (lb:Array Hi) (p:Pr->Bool) (g:Option Nat) (w:B1):Prop:=
 ∀ (W:B1) (x:Pr),Fr (fun k=>g=Bs k) w W->VX Tryz.prog F (#[prV x]++lb) W fun e w'=>e=.returned (.bool (p x))/\VJ W.heap.size W w'
def DB (p:Pr->Bool) (L:List (Pr)):Int:=match L.findIdx? p with|some i=>(i:Int)|none=>-1
theorem Ul (p:Pr->Bool) (L:List (Pr)):-1<=DB p L/\DB p L<=L.length:=by
 unfold DB;rcases h:L.findIdx? p with _|i
 ·simp only;omega
 ·rw[VR] at h;obtain⟨b,c,_⟩:=h;simp only;omega
def rIRel (p:Pr->Bool) (L:List (Pr)) (n:Nat) (w:B1) (v:Hi) (wr:B1):Prop:=∃ j:Nat,v=.int .i64 j/\j<=n/\(∀ x∈L.take j,p x=Jx)/\VJ w.heap.size w wr
theorem rbfr {g:Option Nat} {w W:B1} (b:VJ w.heap.size w W):Fr (fun k=>g=Bs k) w W:=⟨b.os,b.tape,b.output,b.size,fun k c _=>b.block k c⟩
theorem Lp (F:Nat) (lb:Array Hi) (p:Pr->Bool) (K:Option Nat) (A:Option Addr) (n k:Nat) (L:List (Pr)) (w:B1) (eg:∀ args w,(callFunc F args).run Tryz.prog w=.ok (.enter F args) w)
  (d:rPred F lb p K w) (D:Rd w w.heap.size 3 A n (L.flatMap C9)) (I:L.length=n) (U:n<=100000) :
  VX Tryz.prog 36 #[.slice A n k,.func (.func F) #[] lb] w fun e w'=>e=.returned (.int .i64 (DB p L))/\VJ w.heap.size w w':=by
 have N:=LH D;clear D;have O:=LH d;clear d;go_enter Tryz.func36,Tryz.ntmps36;go_wp2_with fail;go_loopw [8] (rIRel p L n w) (fun v _=>n-(intOf v).toNat)
 case atStart=>exact⟨0,rfl,VK _,(fun x o=>by simp at o),S2 _ _⟩
 case round=>
  obtain⟨j,rfl,V,f,c⟩:=hrel;by_cases G:(j:Int)<n
  ·obtain⟨M,T,x,rfl,C,o,Z,Y,X⟩:=rat (N.o.below c) I (j:=j) (by omega);have J:M<wr.heap.size:=VH C c.size;have b:=O.o wr x (rbfr c);have u:j<L.length:=by omega
   have m:p x=T2->DB p L=j:=fun d=>by
    have:L.findIdx? p=Bs j:=by
     rw[VR];refine⟨u,?_,fun i W=>?_⟩
     ·rw[<- Option.some.inj ((K0 u).symm.trans o)] at d;exact d
     ·simp only[Bool.not_eq_true];exact f _ (by rw[List.mem_take_iff_getElem];exact⟨i,by omega,rfl⟩)
    unfold DB;rw[this]
   have g:p x=Jx->∀ y∈L.take (j+1),p y=Jx:=fun d y q=>by
    rw[VV,o] at q;rcases List.mem_append.1 q with q|q
    ·exact f y q
    ·simp at q;rw[q];exact d
   have z:=LH m;clear m;have r:=LH g;clear g;have R:=LH f;clear f;have HX:=LH o;clear o;unfold prV at b;rcases d:p x with _|_
   ·rw[d] at b;have s:=LH d;clear d;have B:=LH b;clear b;go_wp2_with fail;refine B.o.mono ?_;rintro e E ⟨rfl,l⟩;clear B;have t:=LH (c.trans (l.mono c.size));clear l;go_wp2_with fail;go_roundw
    case rel=>exact⟨j+1,rfl,by omega,r.o s.o,t.o⟩
    case measure=>simp[intOf];omega
   ·rw[d] at b;have s:=LH d;clear d;have B:=LH b;clear b;go_wp2_with fail;refine B.o.mono ?_;rintro e E ⟨rfl,l⟩;clear B;have t:=LH (c.trans (l.mono c.size));clear l;go_wp2_with fail;go_ret;exact⟨by rw[z.o s.o];rfl,t.o⟩
  ·obtain rfl:j=n:=by omega
   have h:DB p L = -1:=by
    have:L.findIdx? p=B0:=by
     rw[List.findIdx?_eq_none_iff];intro x o;exact f x (by rw[List.take_of_length_le (by omega)];exact o)
    unfold DB;rw[this]
   have S:=LH h;clear h f;go_wp2_with fail;go_ret;rw[S.o];exact⟨rfl,c⟩
section
variable {H:Hs} {id:Int} {i:Nat} {k:Sx} {mode:Int}
theorem G9 (h:Wf H) (o:H.c=3) (g:1<=i) (f:i<=H.m) (e:k∈names) (m:CM (H.tx i).af k=Jx):Wf (H.aR i k mode).2/\Sz H (H.aR i k mode).2:=by
 have hs:Ad k<H.c:=by have:=KM k;omega
 have c:Wf (H.aX i (Ad k) k mode):=h.aX g f hs e;have s1:Sz H (H.aX i (Ad k) k mode):=⟨rfl,rfl,rfl⟩
 cases e1:CC (Ac (H.sh (Ad k)).tab k).ws i with
 | true=>rw[q3y e1];exact⟨c,s1⟩
 | false=>
  cases d:As (Ac (H.sh (Ad k)).tab k).h i mode (Ac (H.sh (Ad k)).tab k).ws with
  | true=>rw[q5o e1 d];exact⟨c,s1⟩
  | false=>
   by_cases j:(Ac (H.sh (Ad k)).tab k).ws.length=50
   ·rw[q4p e1 d j];exact⟨c,s1⟩
   ·rw[q3x e1 d j];have l:Wf ((H.aX i (Ad k) k mode).aN i k mode):=c.aN g f e m;exact⟨l.bo _ o,Sz.trans (b:=(H.aX i (Ad k) k mode).aN i k mode) ⟨rfl,rfl,rfl⟩ (q42 _ _)⟩
theorem q5n (h:Wf H) (o:H.c=3) (m:k∈names):Wf (H.lock id k mode).2/\Sz H (H.lock id k mode).2:=by
 by_cases p:id<1\/H.m<id
 ·rw[q1l p];exact⟨h,Sz.refl _⟩
 ·obtain⟨i,rfl⟩:∃ i:Nat,id=i:=⟨id.toNat,by omega⟩
  have e:1<=i:=by omega
  have d:i<=H.m:=by omega
  have c:=KJ m;by_cases s1:(H.tx i).state=1
  ·by_cases f:H.head (Ad k)=B0
   ·rw[q6v e d s1 c f];exact⟨h,Sz.refl _⟩
   ·by_cases j:Um H i (Ad k)
    ·rw[q5m e d s1 c f j];exact⟨h.abort o e d,(Nc H i).1.sz⟩
    ·have l:Wf (H.came i (Ad k)):=h.came e d (KM k);have s2:Sz H (H.came i (Ad k)):=⟨rfl,rfl,rfl⟩
     cases g:CM (H.tx i).af k with
     | true=>rw[q5k e d s1 c f j g];exact⟨l,s2⟩
     | false=>
      rw[qc9 e d s1 c f j g];obtain⟨a,b⟩:=G9 (mode:=mode) l o e (show i<=(H.came i (Ad k)).m from d) m (by unfold Hs.came;rw[Tx];exact g);exact⟨a,s2.trans b⟩
  ·rw[q5l e d s1];exact⟨h,Sz.refl _⟩
theorem FT (h:(H.lock id k mode).1=0):1<=id/\id<=H.m:=by
 by_cases b:id<1\/H.m<id
 ·rw[q1l b] at h;cases h
 ·omega
def Ex (k:ByteArray) (p:Pr):Bool:=p.key == k
theorem Rt (l:List Pr) (p:Pr):BS l p=if DB (Ex p.key) l<0 then(if l.length=20 then B0 else Bs (l++[p])) else Bs (l.set (DB (Ex p.key) l).toNat p):=by
 unfold BS DB Ex;cases l.findIdx? fun o=>o.key == p.key with
 | none=>rfl
 | some q=>simp only;rw[if_neg (by omega)];rfl
end
theorem Hu (a b:ByteArray):(a == b)=T2↔a=b:=by
 cases a with
 | mk x=>
  cases b with
  | mk y=>
   show(x == y)=T2↔_;rw[beq_iff_eq];exact⟨fun h=>by rw[h],fun h=>by injection h⟩
theorem qar (a b:ByteArray):(a.toList == b.toList)=(a == b):=by
 rw[Bool.eq_iff_iff,beq_iff_eq,Hu,q4z,q4z];exact⟨fun h=>by rw[<- Ju a,<- Ju b,h],fun h=>by rw[h]⟩
theorem Ru (c:Nat) (k:ByteArray) (w:B1) (h:w.cell? ⟨c,0,B0⟩=Bs (.string k)) :
  rPred 37 #[.pointer (Bs ⟨c,0,B0⟩)] (Ex k) B0 w:=by
 intro W x g;have b:=World.block_lt_of_cell? w _ h;have l:=(g.cell (p:=⟨c,0,B0⟩) b (fun e=>nomatch e)).trans h;have j:c<W.heap.size:=VH b g.size;have f:=LH (fun o=>(S2 W.heap.size W).alloc (L1 _) o);clear h b g;unfold prV;show VX _ _ #[_,_] _ fun e w'=>e=.returned (.bool (Ex k x))/\VJ W.heap.size W w'
 cases d:(x.key == k) with
 | true=>
  rw[show Ex k x=T2 from d];have d2:(x.key.toList == k.toList)=T2:=(qar _ _).trans d;go_enter Tryz.func37,Tryz.ntmps37;go_wp2_with fail;go_ret;exact⟨rfl,f.o _⟩
 | false=>
  rw[show Ex k x=Jx from d];have d2:(x.key.toList == k.toList)=Jx:=(qar _ _).trans d;go_enter Tryz.func37,Tryz.ntmps37;go_wp2_with fail;go_ret;exact⟨rfl,f.o _⟩
def SZ (P:Aw) (own b:Ai) (H:Hs) (e:Nat) (k:Sx) (d:ByteArray) (gone:Bool) (w:B1) (c:B1):Prop:=
 HI c b P H/\AA w own c b/\Ab c e 45 #[.string ⟨k.toArray⟩,.string (if gone then⟨#[]⟩ else d),.bool gone]
theorem put_no {H H2:Hs} {id:Int} {p:Pr} {b:Int} (d:p.val.size<=40) (h:H.lock id (sx p.key) 2=(b,H2)) (c:b≠0):H.put id p=(b,H2):=by
 unfold Hs.put;rw[if_neg (by omega)];simp only[h];rw[if_pos c]
theorem Uv {H H2:Hs} {id:Int} {p:Pr} (b:p.val.size<=40) (h:H.lock id (sx p.key) 2=(0,H2)):H.put id p=match BS (H2.tx id.toNat).aa ⟨p.key,if p.gone then⟨#[]⟩ else p.val,p.gone⟩ with
   | some l=>(0,H2.aw id.toNat { H2.tx id.toNat with aa:=l })
   | none=>(4,H2):=by
 unfold Hs.put;rw[if_neg (by omega)];simp only[h];rw[if_neg (by simp)];rfl
theorem Uk (p:Pr->Bool) (L:List Pr):DB p L<0\/DB p L<L.length:=by
 unfold DB;rcases b:L.findIdx? p with _|i
 ·exact .inl (by simp)
 ·rw[VR] at b;obtain⟨c,_⟩:=b;exact .inr (by simp only;omega)
section
variable {w w':B1} {own own':Ai} {P:Aw} {H:Hs}
theorem HI.fr0 {S:Nat->Prop} (h:HI w own P H) (d:Fr S w w') (m:∀ b,own b≠B0->¬S b):HI w' own P H:=by
 have hs:∀ b t,own b=Bs t->¬S b:=fun b t e=>m b (by rw[e];simp)
 refine⟨fun b c=>VH (h.lt b c) d.size,?_,fun s f=>?_,fun s j f o=>?_,fun i g p=>?_⟩
 ·obtain⟨v,h⟩:=h.hs;exact⟨v,h.nt.frF d (hs _ _ h.gt) (fun b c=>hs b _ (h.aV b c)),h.msgs,h.aV,h.bf,d.own h.shr (fun b c=>hs b _ (h.bm b c)),h.bm,d.own h.txr (fun b c=>hs b _ (h.bh b c)),h.bh,h.gt⟩
 ·obtain⟨v,h⟩:=h.sh s f;exact⟨v,d.own h.row (fun b c=>hs b _ (h.br b c)),h.br,h.dd.fr d (hs _ _ h.c5),h.c5,h.tab.fr d (hs _ _ h.gt) (fun b c=>hs b _ (h.bq b c)),h.bq,h.sto.fr d (fun b c=>c.elim (fun e=>e▸hs _ _ h.gt) (fun c=>hs b _ (h.b6 b c))),h.b6,h.gt⟩
 ·obtain⟨C,V,L,g,l⟩:=h.nd s j f o;exact⟨C,V,L,g.fr d (fun b c=>hs b _ (l b c)),l⟩
 ·obtain⟨v,h⟩:=h.tx i g p;exact⟨v,d.ah h.ah (hs _ _ h.gt),d.own h.aa (fun b c=>hs b _ (h.wt b c)),h.ad.fr d (h.st.elim (hs _ _) (hs _ _)),h.places.fr d (hs _ _ h.pt),d.own h.af (fun b c=>hs b _ (h.xt b c)),h.ne,h.gt,h.wt,h.st,h.pt,h.xt⟩
theorem JQ (h:HI w own P H) (wf:Wf H) (aS:El own) (hc:H.c=3) (id:Int) (k:Sx) (hk:k∈names) (g:ByteArray) (hv:g.size<=40) (gone:Bool):VX Tryz.prog 12 #[pw P.g,.int .i64 id,.agg #[.string ⟨k.toArray⟩,.string g,.bool gone]] w (Gt P own w (H.put id ⟨⟨k.toArray⟩,g,gone⟩)):=by
 have ah:VJ w.heap.size w (w.alloc (.cells #[.string ⟨k.toArray⟩,.string g,.bool gone] 45)):=(S2 w.heap.size w).alloc (L1 _) _;have K:Ab (w.alloc (.cells #[.string ⟨k.toArray⟩,.string g,.bool gone] 45)) w.heap.size 45 #[.string ⟨k.toArray⟩,.string g,.bool gone]:=Ab.new w _ _;have aE:=LH (HZ.below (Z:=BN) own ah);have aP:=LH K;have aX:=LH (show own w.heap.size=B0 from h.free (L1 _));have aK:=LH (Jy (h.below ah) wf aS hc id k hk 2 (.inr rfl));have aG:=LH (fun er H2 (e:H.lock id k 2=(er,H2)) he=>put_no (H:=H) (H2:=H2) (id:=id) (p:=⟨⟨k.toArray⟩,g,gone⟩) hv (by rw[Du];exact e) he);have a3:=LH (fun H2 (e:H.lock id k 2=(0,H2))=>Uv (H:=H) (H2:=H2) (id:=id) (p:=⟨⟨k.toArray⟩,g,gone⟩) hv (by rw[Du];exact e));have aJ:=LH (q5n (id:=id) (mode:=2) wf hc hk);have aI:=LH (fun e=>FT (H:=H) (id:=id) (k:=k) (mode:=2) e);have q0:=K.cell 0;have q1:=K.cell 1;have q2:=K.cell 2;have ql:=K.lt;simp only[Ft,D0,N2] at q0 q1 q2;have ba:¬(40:Int)<(g.size:Int):=by omega
 have b9:(g.size:Int)<=40:=by omega
 clear h ah K wf;unfold pw at *;go_enter Tryz.func12,Tryz.ntmps12;go_upto_region 1 with (fail)
 generalize (w.alloc _)=w1 at *;generalize ar:w.heap.size=r at *;have aZ:=LH ar;clear ar;go_wp2_with fail;refine aK.o.mono ?_;rintro e w2 ⟨rfl,t,a2,ai⟩;have ag:=Ik ai aP.o aX.o;have D:=LH ag.1;have aH:=LH ag.2;have O:=LH (aE.o.trans ai);have X:=aJ.o;have a7:=aI.o;rcases hr:H.lock id k 2 with ⟨er,H2⟩
 rw[hr] at a2 X a7;have af:=aG.o er H2 hr;clear ag ai q0 q1 q2 ql aE aP aK aJ aI aG;by_cases he:er=0
 ·subst he;obtain⟨aw,av⟩:=a7 rfl;have R:=a3.o H2 hr;obtain⟨i,rfl⟩:∃ i:Nat,id=i:=⟨id.toNat,by omega⟩
  have h1:1<=i:=by omega
  have hi:i<=H2.m:=by have:=X.2.m;show i<=H2.m;have e:H2.m=H.m:=this;omega
  rw[show lkV P i k 0=.tuple #[pw (P.gt i),pw (P.gs (Ad k)),.nilIface] from rfl];rw[show((i:Int)).toNat=i from rfl] at R;have aF:=LH R;have ao:=LH a2;have aW:=LH X.1;generalize H.put _ _=ae at *;unfold pw;clear hr X a7 aw av R a2 af a3;have b0:=D.o.cell 0;have b1:=D.o.cell 1;have b2:=D.o.cell 2;have bl:=D.o.lt;have bf:=D.o.frozen 1;simp only[Ft,D0,N2] at b0 b1 b2;go_upto_if 29 with (fail)
  go_cut [] (fun wx=>SZ P own t H2 r k g gone w wx)
  case first=>
   cases gone with
   | true=>
    have U:=Fr.ax r w2 1 (.string ⟨#[]⟩);have HP:=LH (show SZ P own t H2 r k g T2 w (w2.setCell ⟨r,1,B0⟩ (.string ⟨#[]⟩)) from⟨ao.o.fr0 U (fun b hb e=>hb (by rw[e];exact aH.o)),⟨O.o.ext,O.o.fr.trans' U (fun b hb (e:b=r)=>by have:=aZ.o;omega),O.o.sm⟩,D.o.aC 1 _⟩);clear U;go_wp2_with fail;go_meet;exact HP.o
   | false=>
    have HP:=LH (show SZ P own t H2 r k g Jx w w2 from⟨ao.o,O.o,D.o⟩);go_wp2_with fail;go_meet;exact HP.o
  case rest=>
   obtain⟨ak,aB,M⟩:=hcut;clear b0 b1 b2 bl bf;have b0:=M.cell 0;have b1:=M.cell 1;have b2:=M.cell 2;have bl:=M.lt;simp only[Ft,D0,N2] at b0 b1 b2;obtain⟨vt,S⟩:=ak.tx i h1 hi;obtain⟨_,_,m2,_,_,_,_,ml⟩:=S.cells;obtain⟨A5,c5,aj,_,_⟩:=AK S.aa;have V:=S.aa;rw[aj] at m2 V;have b6:=(aW.o.tx i h1 hi).bf;have au:=Lp 37 #[.pointer (Bs ⟨r,0,B0⟩)] (Ex ⟨k.toArray⟩) B0 A5 _ c5 (H2.tx i).aa wc (P9 Tryz.func37 (by kernel_rfl) rfl) (Ru r _ wc b0) (Rd.au V) rfl (by omega);have l:=aF.o;rw[Rt] at l;have be:=Ul (Ex ⟨k.toArray⟩) (H2.tx i).aa;have aY:=LH (Uk (Ex ⟨k.toArray⟩) (H2.tx i).aa);have b3:=LH au;have b4:=LH ak;have aV:=LH aB;have ac:=LH M;have bi:=LH S;have bh:=LH aj;clear au ak aB M S aj V aF ao O D;have am:=LH l;clear l b1 b2;go_wp2_with fail;refine b3.o.mono ?_;rintro e w4 ⟨rfl,L⟩;have ab:=LH (b4.o.below L);have al:=LH (aV.o.trans (HZ.below t L));have m4:=(L.cell (p:=⟨P.gt i,2,B0⟩) ml).trans m2;have aQ:=VH ml L.size;have aO:=LH L;clear m2 ml b0 bl L;generalize DB (Ex ⟨k.toArray⟩) (H2.tx i).aa=z at *;by_cases hz:z<0
   ·by_cases aa:(H2.tx i).aa.length=20
    ·have l:=am.o;rw[if_pos hz,if_pos aa] at l;have HR:=LH (show Gt P own w ae (.returned (.iface 79 (.int .i64 4))) w4 from by rw[l];exact⟨rfl,t,ab.o,al.o⟩);rw[aa] at m4;clear l aa;go_wp2_with fail;go_ret;exact HR.o
    ·have bb:(((H2.tx i).aa.length:Int) == 20)=Jx:=by simpa using (by omega:¬((H2.tx i).aa.length:Int)=20)
     have l:=am.o;rw[if_pos hz,if_neg aa] at l;have an:=LH l;generalize T:(if gone=T2 then(⟨#[]⟩:ByteArray) else g)=j at *;clear T l;have C:=(DV aO.o).ah ac.o (fun hs=>by have:=ac.o.lt;omega);have c:=LH C;clear C;go_upto_region 14 with (fail)
     refine nW ?_;refine CU (fun W=>W.cell? ⟨P.gt i,2,B0⟩=Bs (.slice A5 (H2.tx i).aa.length c5)/\W.cell? ⟨r,0,B0⟩=Bs (.string ⟨k.toArray⟩)/\W.cell? ⟨r,1,B0⟩=Bs (.string j)/\W.cell? ⟨r,2,B0⟩=Bs (.bool gone)/\r<W.heap.size) 8 (fun _ _ _ _ _ h=>h) (fun m=>?_);have d:w4.drew.cell? ⟨P.gt i,2,B0⟩=Bs (.slice A5 (H2.tx i).aa.length c5)/\w4.drew.cell? ⟨r,0,B0⟩=Bs (.string ⟨k.toArray⟩)/\w4.drew.cell? ⟨r,1,B0⟩=Bs (.string j)/\w4.drew.cell? ⟨r,2,B0⟩=Bs (.bool gone)/\r<w4.drew.heap.size:=
      ⟨m4,(show Ab w4.drew _ _ _ from c.o).cell 0,(show Ab w4.drew _ _ _ from c.o).cell 1,(show Ab w4.drew _ _ _ from c.o).cell 2,c.o.lt⟩
     refine nD 0 [8,9,10] m d ?_;refine nD 1 [2,3,4,7,8,9,10] m d ?_;refine nD 2 [3,4,7,8,9,10] m d ?_;refine nD 3 [4,7,8,9,10] m d ?_;refine nA 4 [7,8,9,10] rfl rfl m d (fun w' E=>by obtain⟨p0,p1,p2,p3,pl⟩:=E;go_simp;rfl) ?_;refine nA 5 [6,7,8,9,10] rfl rfl m d (fun w' E=>by obtain⟨p0,p1,p2,p3,pl⟩:=E;go_simp;rfl) ?_;have v:∀ o q p,q<w4.heap.size->(w4.alloc o).cell? ⟨q,p,B0⟩=w4.cell? ⟨q,p,B0⟩:=fun o q p hq=>WY w4 o ⟨q,p,B0⟩ hq
     refine nG 6 (fun N A=>?_);go_simp;refine A _ _ (fun _=>⟨(v _ _ _ aQ).trans d.1,(v _ _ _ c.o.lt).trans d.2.1,(v _ _ _ c.o.lt).trans d.2.2.1,(v _ _ _ c.o.lt).trans d.2.2.2.1,by have:=c.o.lt;simp;omega⟩) ?_;clear A N d v;refine nG 7 (fun N A=>?_);obtain⟨v4,u⟩:=ab.o.tx i h1 hi;have s:=u.cells.2.2.1;rw[m4] at s;injection s with s;have f:=u.aa;rw[<- s] at f;refine TE w4.drew w4.heap.size rfl _ (.tmp 57) (.tmp 59) 67 rfl 0 45 _ 3 40 Tryz.underlying67 Jb rfl (by decide) _ _ _ #[.string ⟨k.toArray⟩,.string j,.bool gone] rfl f 1 rfl _ rfl rfl (by simp[Wy]) (by unfold VZ;omega) (by omega) (VK _) ?_;intro V2 w6 G I;have J:Aq w4 w6 v4.Vw.ownBlock V2.ownBlock:=by rw[<- s];exact⟨⟨I.1.os,I.1.tape,I.1.output,I.1.size,I.1.block⟩,I.2⟩
     obtain⟨ap,a1,a0⟩:=ab.o.cG (i:=i) (x:=⟨⟨k.toArray⟩,j,gone⟩) u J G;have ax:¬Bs (P.gt i)=v4.Vw.ownBlock:=fun e=>u.aQ.1 e.symm
     have aq:¬Bs r=v4.Vw.ownBlock:=fun e=>by have:=u.wt r e.symm;rw[aH.o] at this;cases this
     have a8:=J.1.ah u.ah ax;have Y:=J.1.ah c.o aq;have y1:=a8.frozen 2;have yl:=a8.lt;have y0:=a8.cell 2;unfold OE at y0;simp only[Ft,D0,N2] at y0;rw[<- s] at y0;have aM:=LH (show w6.cell? ⟨P.gt i,2,B0⟩=Bs (.slice A5 (H2.tx i).aa.length c5)/\w6.cell? ⟨r,0,B0⟩=Bs (.string ⟨k.toArray⟩)/\w6.cell? ⟨r,1,B0⟩=Bs (.string j)/\w6.cell? ⟨r,2,B0⟩=Bs (.bool gone)/\r<w6.heap.size from⟨y0,Y.cell 0,Y.cell 1,Y.cell 2,Y.lt⟩);have HR:=LH (show Gt P own w ae (.returned .nilIface) (w6.setCell ⟨P.gt i,2,B0⟩ V2) from by rw[an.o];exact⟨rfl,ap,a1,al.o.trans a0⟩);obtain⟨A7,c7,aU,_,_⟩:=AK G;subst aU;clear I J ax aq a8 Y a1 a0 G f u s;go_simp;refine A _ _ (fun _=>aM.o) ?_;clear A N;refine nG 8 (fun N A=>?_);go_simp;refine A _ _ nZ ?_;clear A N;refine nG 9 (fun N A=>?_);go_simp;refine A _ _ nZ ?_;clear A N;refine nG 10 (fun N A=>?_);go_simp;refine A _ _ nZ ?_;clear A N;refine nX ?_;clear m y0 y1 yl aM;go_wp2_with fail;go_ret;exact HR.o
   ·have l:=am.o;rw[if_neg hz] at l;obtain⟨q,rfl⟩:∃ q:Nat,z=q:=⟨z.toNat,by omega⟩
    have ad:q<(H2.tx i).aa.length:=by have:=aY.o;omega
    have an:=LH l;generalize T:(if gone=T2 then(⟨#[]⟩:ByteArray) else g)=j at *;clear T l;have C:=(DV aO.o).ah ac.o (fun hs=>by have:=ac.o.lt;omega);have c:=LH C;clear C;go_upto_region 10 with (fail)
    refine nW ?_;refine CU (fun W=>W.cell? ⟨P.gt i,2,B0⟩=Bs (.slice A5 (H2.tx i).aa.length c5)/\W.cell? ⟨r,0,B0⟩=Bs (.string ⟨k.toArray⟩)/\W.cell? ⟨r,1,B0⟩=Bs (.string j)/\W.cell? ⟨r,2,B0⟩=Bs (.bool gone)/\r<W.heap.size) 6 (fun _ _ _ _ _ h=>h) (fun m=>?_);have d:w4.drew.cell? ⟨P.gt i,2,B0⟩=Bs (.slice A5 (H2.tx i).aa.length c5)/\w4.drew.cell? ⟨r,0,B0⟩=Bs (.string ⟨k.toArray⟩)/\w4.drew.cell? ⟨r,1,B0⟩=Bs (.string j)/\w4.drew.cell? ⟨r,2,B0⟩=Bs (.bool gone)/\r<w4.drew.heap.size:=
     ⟨m4,(show Ab w4.drew _ _ _ from c.o).cell 0,(show Ab w4.drew _ _ _ from c.o).cell 1,(show Ab w4.drew _ _ _ from c.o).cell 2,c.o.lt⟩
    refine nD 0 [1,2,3,6,7] m d ?_;refine nD 1 [2,3,6,7] m d ?_;refine nD 2 [3,6,7] m d ?_;refine nA 3 [6,7] rfl rfl m d (fun w' E=>by obtain⟨p0,p1,p2,p3,pl⟩:=E;go_simp;rfl) ?_;refine nD 4 [6,7] m d ?_;refine nA 5 [6,7] rfl rfl m d (fun w' E=>by obtain⟨p0,p1,p2,p3,pl⟩:=E;go_simp;rfl) ?_;have aN:=LH (show VJ w4.heap.size w4 w4.drew from⟨rfl,rfl,rfl,L1 _,fun _ _=>rfl⟩);have aL:=LH (ab.o.below aN.o);obtain⟨v4,u⟩:=aL.o.tx i h1 hi;have s:=u.cells.2.2.1;rw[show w4.drew.cell? ⟨P.gt i,2,B0⟩=_ from m4] at s;injection s with s;have f:=u.aa;rw[<- s] at f;obtain⟨g5,b5,x5,aC,bg,b8,a6,a5,a4⟩:=rat (Rd.au f) rfl ad;rcases f.2 with ⟨bd,bc⟩|⟨g6,b7,aD,aR,_,aT,_⟩
    ·omega
    have B:=aR;rw[aC] at B;injection B with B _ hs8;injection B with B;injection B with B hs9 _;subst B hs9 hs8 aC;have a9:∀ o,w4.frozen? ⟨g5,o,B0⟩=Jx:=fun o=>Ab.frozen (show Ab w4 g5 _ aD from aT) o
    have aA:=a9 (q*3);have az:=a9 (q*3+1);have ay:=a9 (q*3+2);rw[Nat.zero_add] at a6 a5 a4;replace a6:w4.cell? ⟨g5,q*3,B0⟩=Bs (.string x5.key):=a6;replace a5:w4.cell? ⟨g5,q*3+1,B0⟩=Bs (.string x5.val):=a5;replace a4:w4.cell? ⟨g5,q*3+2,B0⟩=Bs (.bool x5.gone):=a4;obtain⟨a1,a0⟩:=aL.o.cR h1 hi u s.symm ad ⟨⟨k.toArray⟩,j,gone⟩;have HR:=LH (show Gt P own w ae (.returned .nilIface) (Ea w4.drew g5 (q*3) ⟨⟨k.toArray⟩,j,gone⟩) from by rw[an.o];exact⟨rfl,t,a1,(al.o.trans (HZ.below t aN.o)).trans a0⟩);clear a1 a0 f u s a9;unfold Ea at HR;refine nG 6 (fun N A=>?_);go_simp;refine A _ _ (fun _=>d) ?_;clear A N;refine nG 7 (fun N A=>?_);go_simp;refine A _ _ nZ ?_;clear A N;refine nX ?_;clear m a6 a5 a4 aA az ay d;go_wp2_with fail;go_ret;exact HR.o
 ·have HR:=LH (show Gt P own w (H.put id ⟨⟨k.toArray⟩,g,gone⟩) (.returned (.iface 79 (.int .i64 er))) w2 from by rw[af he];exact⟨by unfold CX;rw[if_neg he],t,a2,O.o⟩);rw[show lkV P id k er=.tuple #[.pointer B0,.pointer B0,.iface 79 (.int .i64 er)] from by unfold lkV;rw[if_neg he]];clear hr X a7 af a2 he a3;go_wp2_with fail;go_ret;exact HR.o
end
section
open Go.RowKit Go.Shelf
attribute [local go_sem] Oper.semAt_some
def pr0:Pr:=⟨⟨#[]⟩,⟨#[]⟩,Jx⟩
def Qf (L:List Pr) (j:Nat):Int×Pr:=((L.length:Int)-1-j,L[L.length-1-j]?.getD pr0)
def Qe (L:List Pr) (k:Nat):List (Int×Pr):=(List.range k).map (Qf L)
theorem Kn (L:List Pr) (k:Nat):Qe L (k+1)=Qe L k++[Qf L k]:=by simp[Qe,List.range_succ]
theorem Vl (L:List Pr) (k:Nat):(Qe L k).length=k:=by simp[Qe]
def bwE (x:Int×Pr):Array Hi:=#[.int .i64 x.1,.agg #[.string x.2.key,.string x.2.val,.bool x.2.gone]]
def EI (L:List Pr) (W:B1) (b c:Nat):Prop:=∀ j x,L[j]? = Bs x->Rg W b (c+j*3) x
theorem bw1_in (F:Fence) (n:Nat) (hF:F.fn 71) (A:F.round=B0) (hn:1<=n) (l u s b d cap:Nat) (L:List Pr) (hL:L.length<=1000) (C:b<s) (J S:List (Int×Pr)->B1->Prop)
  (Z:∀ c x W,J c W->c.length<L.length->YieldAt F (n-1) Tryz.prog l (bwE x) W fun e g=>
   (e=.returned (.bool T2)/\J (c++[x]) g/\VJ s W g)\/(e=.returned (.bool Jx)/\S (c++[x]) g))
  (W:B1) (G:u<s) (E:W.cell? ⟨u,0,B0⟩=Bs (.slice (Bs ⟨b,d,B0⟩) L.length cap)) (Y:EI L W b d) (h0:J [] W) :
  CallsIn F n Tryz.prog 71 #[.func (.yield l) #[] #[],.pointer (Bs ⟨u,0,B0⟩)] W fun e g=>(∃ v,e=.returned v)/\
   ((∃ I,I=Qe L L.length/\J I g)\/(∃ c,(∃ k,k<L.length/\c=Qe L (k+1))/\S c g)):=by
 refine callsIn_of_wp Tryz.func71 rfl hF ?_ A;simp only[Tryz.ntmps71,Xn,WH,Xu,Nat.reduceAdd,Nat.reduceSub,YO,YN,Y7,YW,WL,XL];have V:IntKind.i64.wrap ((L.length:Int)-1)=(L.length:Int)-1:=V8 _ ⟨by omega,by omega⟩;gi_wp2
 gi_loopw [3] (fun i wr=>∃ k:Nat,k<=L.length/\i=.int .i64 ((L.length:Int)-1-k)/\J (Qe L k) wr/\VJ s W wr)
  (fun i _=>(intOf i+1).toNat)
 case atStart=>exact⟨0,VK _,by simp,h0,S2 _ _⟩
 case round=>
  obtain⟨k,hk,rfl,o,f⟩:=hrel;have a0:=(f.cell (p:=⟨u,0,B0⟩) G).trans E;by_cases j:k<L.length
  ·obtain⟨q,t⟩:∃ q:Nat,(L.length:Int)-1-k=q:=⟨L.length-1-k,by omega⟩
   have h:q=L.length-1-k:=by omega
   have X:q<L.length:=by omega
   have K:L[q]? = Bs (L[L.length-1-k]?.getD pr0):=by rw[h,K0 (by omega)];rfl
   have r:Qf L k=(((q:Nat):Int),L[L.length-1-k]?.getD pr0):=by unfold Qf;rw[t]
   obtain⟨fn,tmps,assign,body,z,M⟩:=Z _ (Qf L k) wr o (by rw[Vl];exact j);rw[<- Kn] at M;rw[r] at z;unfold bwE at z
   dsimp only at z
   generalize L[L.length-1-k]?.getD pr0=x at *;obtain⟨R,O,N⟩:=Y q x K;have c0:=(f.cell (p:=⟨b,d+q*3,B0⟩) C).trans R;have c1:=(f.cell (p:=⟨b,d+q*3+1,B0⟩) C).trans O;have c2:=(f.cell (p:=⟨b,d+q*3+2,B0⟩) C).trans N;have U:IntKind.i64.wrap ((q:Int)-1)=(q:Int)-1:=V8 _ ⟨by omega,by omega⟩;rw[t];have T:=LH t;clear R O N K h t r;gi_wp2;refine M.mono ?_;rintro e W3 (⟨rfl,D,B⟩|⟨rfl,m⟩)
   ·gi_wp2;go_roundw
    case rel=>exact⟨k+1,by omega,by have:=T.o;congr 1;omega,D,f.trans B⟩
    case measure=>have:=T.o;simp only[intOf];omega
   ·gi_wp2;refine bodyPost_ret (results_none rfl _ _ _) rfl ?_;exact⟨⟨_,rfl⟩,.inr ⟨_,⟨k,j,rfl⟩,m⟩⟩
  ·obtain rfl:k=L.length:=by omega
   gi_wp2
   go_end0
   exact⟨⟨_,rfl⟩,.inl ⟨_,rfl,o⟩⟩
theorem Vm (F:Fence) (n:Nat) (f:F.fn 71) (b:F.round=B0) (l d:Nat) (J:List (Int×Pr)->B1->Prop) (W:B1) (g:W.cell? ⟨d,0,B0⟩=Bs (.slice B0 0 0)) (h:J [] W) :
  CallsIn F n Tryz.prog 71 #[.func (.yield l) #[] #[],.pointer (Bs ⟨d,0,B0⟩)] W fun e j=>(∃ v,e=.returned v)/\J [] j:=by
 refine callsIn_of_wp Tryz.func71 rfl f ?_ b;simp only[Tryz.ntmps71,Xn,WH,Xu,Nat.reduceAdd,Nat.reduceSub,YO,YN,Y7,YW,WL,XL];gi_wp2
 gi_loopw [3] (fun i wr=>i=.int .i64 (-1)/\J [] wr) (fun _ _=>0)
 case atStart=>exact⟨by first|rfl|simp,h⟩
 case round=>
  obtain⟨rfl,c⟩:=hrel;gi_wp2
  go_end0
  exact⟨⟨_,rfl⟩,c⟩
theorem Vo (F:Fence) (n:Nat) (d:F.fn 41) (c:F.round=B0) (a:Option Addr) (b cap:Nat) (w:B1) :
  CallsIn F n Tryz.prog 41 #[.slice a b cap] w fun e w'=>e=.returned (.func (.func 71) #[] #[.pointer (Bs ⟨w.heap.size,0,B0⟩)])/\w'=w.alloc (.cells #[.slice a b cap] 67):=by
 refine callsIn_of_wp Tryz.func41 rfl d ?_ c;simp only[Tryz.ntmps41,Xn,WH,Xu,Nat.reduceAdd,Nat.reduceSub,YO,YN,Y7,YW,WL,XL];gi_wp2;go_ret;exact⟨rfl,rfl⟩
def RowB (d:Nat) (W:B1) (A:Option Addr) (L:List Pr) (cap:Nat):Prop:=(A=B0/\L=[]/\cap=0)\/∃ b c,A=Bs ⟨b,c,B0⟩/\b<d/\EI L W b c
theorem EI.below {e:Nat} {A B:B1} (h:VJ e A B) {L:List Pr} {b c:Nat} (d:b<e) (g:EI L A b c):EI L B b c:=fun j x f=>by
 obtain⟨o,m,l⟩:=g j x f;exact⟨(h.cell (p:=⟨b,c+j*3,B0⟩) d).trans o,(h.cell (p:=⟨b,c+j*3+1,B0⟩) d).trans m,(h.cell (p:=⟨b,c+j*3+2,B0⟩) d).trans l⟩
theorem SC (F:Fence) (n:Nat) (t:F.fn 71) (f:F.round=B0) (z:1<=n) (c d cap:Nat) (A:Option Addr) (L:List Pr) (I:L.length<=1000) (w:B1) (q:c<d) (m:d<=w.heap.size)
  (D:w.cell? ⟨c,0,B0⟩=Bs (.slice A L.length cap)) (G:RowB d w A L cap) :
  SeqStopsK F n Tryz.prog 71 #[.pointer (Bs ⟨c,0,B0⟩)] bwE (VJ d) (fun v=>v=Qe L L.length) (fun h=>∃ k,k<L.length/\h=Qe L (k+1)) L.length w:=fun l J K W s _ _ E u=>by
 have g:=(s.cell (p:=⟨c,0,B0⟩) (by show c<w.heap.size;omega)).trans D;rcases G with ⟨rfl,rfl,rfl⟩|⟨b,j,rfl,r,o⟩
 ·exact(Vm F n t f l c J W g u).mono fun e M ⟨C,B⟩=>⟨C,.inl ⟨_,rfl,B⟩⟩
 ·exact bw1_in F n t f z l c d b j cap L I r J K E W q g (o.below (s.mono m) r) u
theorem Vj {L:List Pr} {p:Pr->Bool} (h:∀ x∈Qe L L.length,p x.2=Jx):L.reverse.find? p=B0:=by
 rw[List.find?_eq_none];intro x b;rw[List.mem_reverse] at b;obtain⟨j,c,rfl⟩:=List.mem_iff_getElem.1 b;have:=h (Qf L (L.length-1-j)) (List.mem_map.2 ⟨L.length-1-j,List.mem_range.2 (by omega),rfl⟩);unfold Qf at this;rw[show L.length-1-(L.length-1-j)=j by omega,K0 c] at this;simp at this;simp[this]
theorem Vi {L:List Pr} {p:Pr->Bool} {k:Nat} (b:k<L.length) (h:∀ x∈Qe L k,p x.2=Jx) (e:p (Qf L k).2=T2):L.reverse.find? p=Bs (Qf L k).2:=by
 rw[List.find?_eq_some_iff_getElem];have d:∀ j,j<L.length->(Qf L j).2=L.reverse[j]?.getD pr0:=fun j c=>by
  unfold Qf;rw[List.getElem?_reverse c]
 refine⟨e,k,by simpa using b,?_,fun j c=>?_⟩
 ·rw[d k b,K0 (by simpa using b)];rfl
 ·have:=h (Qf L j) (List.mem_map.2 ⟨j,List.mem_range.2 c,rfl⟩);rw[d j (by omega),K0 (by simp;omega)] at this;simpa using this
end
section
variable {F:Fence} {n:Nat} {P:Program} {md:Region.Mode} {ops:Array Oper} {Q:Exit->Act->B1->Prop} {fuel:Nat} {listed:Array Bool} {a:Act} {w:B1}
theorem nU (i:Nat) {o:Oper} (h:∀ b:Act->B1->Prop,(∀ a w,wpAnyIn F n P md ops Q fuel (listed.setIfInBounds i T2) a w->b a w)->if Wo o (yielded ops a.tmps)=T2 then Oper.wpIn F n P o a w b Q else(∀ f,o.about P w a.eval=Bs f->F.fn f)/\b (a.put o.dst Yc) w)
  (d:ops[i]? = Bs o:=by rfl) (c:Wn md ops listed=[i]:=by kernel_rfl):wpAnyIn F n P md ops Q (fuel+1) listed a w:=wpAnyIn_ready c (by simp) (AllReadyIn.cons d h AllReadyIn.nil)
theorem nV (i j:Nat) {o p:Oper} (h:∀ b:Act->B1->Prop,(∀ a w,wpAnyIn F n P md ops Q fuel (listed.setIfInBounds i T2) a w->b a w)->if Wo o (yielded ops a.tmps)=T2 then Oper.wpIn F n P o a w b Q else(∀ f,o.about P w a.eval=Bs f->F.fn f)/\b (a.put o.dst Yc) w)
  (g:∀ b:Act->B1->Prop,(∀ a w,wpAnyIn F n P md ops Q fuel (listed.setIfInBounds j T2) a w->b a w)->if Wo p (yielded ops a.tmps)=T2 then Oper.wpIn F n P p a w b Q else(∀ f,p.about P w a.eval=Bs f->F.fn f)/\b (a.put p.dst Yc) w)
  (e:ops[i]? = Bs o:=by rfl) (d:ops[j]? = Bs p:=by rfl) (c:Wn md ops listed=[i,j]:=by kernel_rfl):wpAnyIn F n P md ops Q (fuel+1) listed a w:=wpAnyIn_ready c (by simp) (AllReadyIn.cons e h (AllReadyIn.cons d g AllReadyIn.nil))
end
section
open Go.RowKit Go.Shelf
attribute [local go_sem] Oper.semAt_some
theorem Hj {tmps:Array Hi} {w:B1} {a b c:Nat} {v1 e d:Hi} (j:tmps.getD 6 Yc=.pointer (Bs ⟨a,0,B0⟩)) (g:tmps.getD 7 Yc=.pointer (Bs ⟨b,0,B0⟩)) (f:tmps.getD 8 Yc=.pointer (Bs ⟨c,0,B0⟩))
  (o:w.cell? ⟨a,0,B0⟩=Bs v1) (m:w.cell? ⟨b,0,B0⟩=Bs e) (l:w.cell? ⟨c,0,B0⟩=Bs d):(results Tryz.f18 tmps).run Tryz.prog w=.ok (.tuple #[v1,e,d]) w:=by
 have h:(Tryz.f18).results=#[.cell 6 9,.cell 7 4,.cell 8 41]:=by kernel_rfl
 simp only[Array.getD_eq_getD_getElem?] at j g f;simp only[results,h];simp[j,g,f,loadVar,isAgg,underlying,Tryz.underlying9,Tryz.underlying4,Tryz.underlying41,o,m,l,Result.andThen,asAddr,go_sem]
def UE (Q:Exit->Act->B1->Prop) (e:Exit) (a:Act) (w:B1):Prop:=Q e a w/\∀ c,e≠.panic c
theorem KQ {P:Program} {c:Code} {Q:Exit->Act->B1->Prop} {a:Act} {w:B1} (h:c.wp P (UE Q) a w):c.wp P Q a w:=Code.wp_mono (fun _ _ _ h=>h.1) h
def GIx (k:Sx) (d:Nat) (f:B1) (e:List (Int×Pr)) (W:B1):Prop:=
 ∃ c x,e=c++[x]/\(∀ y∈c,(y.2.key.toList == k)=Jx)/\(x.2.key.toList == k)=T2/\Fr (fun b=>(d<b/\b<d+4)\/f.heap.size<=b) f W/\
  Ab W (d+1) 9 #[.string x.2.val]/\Ab W (d+2) 4 #[.bool (!x.2.gone)]/\Ab W (d+3) 41 #[.nilIface]
def PV (P:Aw) (own:Ai) (w:B1) (r:(Int×Sx×Bool)×Hs) (e:Ending) (w':B1):Prop:=e=.returned (.tuple #[.string ⟨r.1.2.1.toArray⟩,.bool r.1.2.2,CX r.1.1])/\Ch P own r.2 w w'
theorem get_no {H H2:Hs} {id:Int} {x:Sx} {b:Int} (h:H.lock id x 1=(b,H2)) (c:b≠0):H.get id x=((b,[],Jx),H2):=by
 unfold Hs.get;simp only[h];rw[if_pos c]
theorem UY {H H2:Hs} {id:Int} {x:Sx} {p:Pr} (h:H.lock id x 1=(0,H2)) (b:(H2.tx id.toNat).aa.reverse.find? (fun p=>sx p.key == x)=Bs p):H.get id x=((0,sx p.val,!p.gone),H2):=by
 unfold Hs.get;simp only[h];rw[if_neg (by simp),b]
theorem UX {H H2:Hs} {id:Int} {x:Sx} (h:H.lock id x 1=(0,H2)) (b:(H2.tx id.toNat).aa.reverse.find? (fun p=>sx p.key == x)=B0):H.get id x=((0,BL (Cf ((H2.sh (Ad x)).sto x) 1099511627776)),H2):=by
 unfold Hs.get;simp only[h];rw[if_neg (by simp),b]
section
variable {w w':B1} {own own':Ai} {P:Aw} {H:Hs}
theorem Sa {s:Nat} (h:HI w own P H) (hs:s<H.c) (k:Sx) (c:k.length<=20) :
  VX Tryz.prog 42 #[.pointer (Bs ⟨P.gs s,5,B0⟩),.string ⟨k.toArray⟩,.int .i64 1099511627776] w (qad (BL (Cf ((H.sh s).sto k) 1099511627776)) w):=by
 obtain⟨v,b⟩:=h.sh s hs;have:=U1 0 100 (P.gs s) 5 _ _ v.ms v.cY (H.sh s).sto 0 ⟨k.toArray⟩ 1099511627776 w b.sto (by omega) (by omega) (by show k.toArray.size<=VZ;simp;unfold VZ;omega) (by omega);rw[show sx ⟨k.toArray⟩=k from Du k] at this;exact this
theorem Ch.boxes {d W:B1} {c:Ai} {H2:Hs} {g:Nat} (hI:HI d c P H2) (f:AA w own d c) (m:∀ j,j<4->c (g+j)=B0) (p:w.heap.size<=g) (l:Fr (fun x=>(g<x/\x<g+4)\/d.heap.size<=x) d W):Ch P own H2 w W:=
 ⟨c,hI.fr0 l (fun b h e=>by
  rcases e with ⟨e1,o⟩|e
  ·exact h (by have:=m (b-g) (by omega);rwa [show g+(b-g)=b by omega] at this)
  ·have:=hI.lt b h;omega),f.ext,f.fr.trans' l (fun b h e=>by have:=f.fr.size;rcases e with ⟨e1,o⟩|e <;> omega),f.sm⟩
theorem JT (h:HI w own P H) (wf:Wf H) (aY:El own) (hc:H.c=3) (id:Int) (k:Sx) (hk:k∈names):VX Tryz.prog 18 #[pw P.g,.int .i64 id,.string ⟨k.toArray⟩] w (PV P own w (H.get id k)):=by
 have ay:VJ w.heap.size w ((((w.alloc (.cells #[.string ⟨k.toArray⟩] 9)).alloc (.cells #[.string ⟨#[]⟩] 9)).alloc (.cells #[.bool Jx] 4)).alloc (.cells #[.nilIface] 41)):=((((S2 w.heap.size w).alloc (L1 _) _).alloc (by simp) _).alloc (by simp;omega) _).alloc (by simp;omega) _;have C:Ab ((((w.alloc (.cells #[.string ⟨k.toArray⟩] 9)).alloc (.cells #[.string ⟨#[]⟩] 9)).alloc (.cells #[.bool Jx] 4)).alloc (.cells #[.nilIface] 41)) w.heap.size 9 #[.string ⟨k.toArray⟩]/\
   Ab ((((w.alloc (.cells #[.string ⟨k.toArray⟩] 9)).alloc (.cells #[.string ⟨#[]⟩] 9)).alloc (.cells #[.bool Jx] 4)).alloc (.cells #[.nilIface] 41)) (w.heap.size+1) 9 #[.string ⟨#[]⟩]/\
   Ab ((((w.alloc (.cells #[.string ⟨k.toArray⟩] 9)).alloc (.cells #[.string ⟨#[]⟩] 9)).alloc (.cells #[.bool Jx] 4)).alloc (.cells #[.nilIface] 41)) (w.heap.size+2) 4 #[.bool Jx]/\
   Ab ((((w.alloc (.cells #[.string ⟨k.toArray⟩] 9)).alloc (.cells #[.string ⟨#[]⟩] 9)).alloc (.cells #[.bool Jx] 4)).alloc (.cells #[.nilIface] 41)) (w.heap.size+3) 41 #[.nilIface]:=by
  have n0:=Ab.new w 9 #[.string ⟨k.toArray⟩];have n1:=Ab.new (w.alloc (.cells #[.string ⟨k.toArray⟩] 9)) 9 #[.string ⟨#[]⟩];have n2:=Ab.new ((w.alloc (.cells #[.string ⟨k.toArray⟩] 9)).alloc (.cells #[.string ⟨#[]⟩] 9)) 4 #[.bool Jx];have n3:=Ab.new (((w.alloc (.cells #[.string ⟨k.toArray⟩] 9)).alloc (.cells #[.string ⟨#[]⟩] 9)).alloc (.cells #[.bool Jx] 4)) 41 #[.nilIface];have fa:∀ (W:B1) (o:Obj),Fr (fun _=>False) W (W.alloc o):=fun W o=>(Fr.refl _ W).alloc o
  rw[show(w.alloc (.cells #[.string ⟨k.toArray⟩] 9)).heap.size=w.heap.size+1 by simp] at n1;rw[show((w.alloc (.cells #[.string ⟨k.toArray⟩] 9)).alloc (.cells #[.string ⟨#[]⟩] 9)).heap.size=w.heap.size+2 by simp] at n2;rw[show(((w.alloc (.cells #[.string ⟨k.toArray⟩] 9)).alloc (.cells #[.string ⟨#[]⟩] 9)).alloc (.cells #[.bool Jx] 4)).heap.size=w.heap.size+3 by simp] at n3;exact⟨(fa _ _).ah ((fa _ _).ah ((fa _ _).ah n0 (fun h=>h)) (fun h=>h)) (fun h=>h),(fa _ _).ah ((fa _ _).ah n1 (fun h=>h)) (fun h=>h),(fa _ _).ah n2 (fun h=>h),n3⟩
 have ad:=LH C;have aQ:=LH (HZ.below (Z:=BN) own ay);have ab:=LH (show ∀ j,own (w.heap.size+j)=B0 from fun j=>h.free (Nat.le_add_right _ _));have aT:=LH (Jy (h.below ay) wf aY hc id k hk 1 (.inl rfl));have an:=LH (fun Y H2 (e:H.lock id k 1=(Y,H2)) he=>get_no (H:=H) (H2:=H2) (id:=id) (x:=k) e he);have aa:=LH (fun H2 p (e:H.lock id k 1=(0,H2)) hp=>UY (H:=H) (H2:=H2) (id:=id) (x:=k) (p:=p) e hp);have a9:=LH (fun H2 (e:H.lock id k 1=(0,H2)) hp=>UX (H:=H) (H2:=H2) (id:=id) (x:=k) e hp);have aS:=LH (q5n (id:=id) (mode:=1) wf hc hk);have aR:=LH (fun e=>FT (H:=H) (id:=id) (k:=k) (mode:=1) e);have b0:=C.1.cell 0;have bl:=C.1.lt;simp only[Ft,D0] at b0;clear h ay C wf;unfold pw at *;refine(callsIn_wide (n:=9)).1 ?_;refine callsIn_of_wp_marks Tryz.func18 rfl trivial ?_ rfl;simp only[Tryz.ntmps18,Xn,WH,Xu,Nat.reduceAdd,Nat.reduceSub,YO,YN,Y7,YW,WL,XL];refine wpIn_wide.2 ?_;go_upto_region 1 with (fail)
 generalize (World.alloc _ _)=w1 at *;generalize aI:w.heap.size=f at *;have aC:=LH aI;clear aI;go_wp2_with fail;refine aT.o.mono ?_;rintro e q ⟨rfl,aE,az,X⟩;have k0:=Ik X ad.o.1 (by simpa using ab.o 0);have k1:=Ik X ad.o.2.1 (ab.o 1);have k2:=Ik X ad.o.2.2.1 (ab.o 2);have k3:=Ik X ad.o.2.2.2 (ab.o 3);have aB:=LH (aQ.o.trans X);have V:=aS.o;have ah:=aR.o;rcases hr:H.lock id k 1 with ⟨Y,H2⟩
 rw[hr] at az V ah;have au:=an.o Y H2 hr;have al:=LH k0;have a8:=LH k1;have a7:=LH k2;have a6:=LH k3;have d0:=k0.1.cell 0;have d1:=k1.1.cell 0;have d2:=k2.1.cell 0;have d3:=k3.1.cell 0;have e0:=k0.1.lt;have e1:=k1.1.lt;have e2:=k2.1.lt;have e3:=k3.1.lt;have f1:=k1.1.frozen 0;have f2:=k2.1.frozen 0;have f3:=k3.1.frozen 0;simp only[Ft,D0] at d0 d1 d2 d3;have ac:=LH az;clear az X k0 k1 k2 k3 b0 bl aQ ad ab aT aS aR an;by_cases he:Y=0
 ·subst he;obtain⟨aL,aK⟩:=ah rfl;obtain⟨i,rfl⟩:∃ i:Nat,id=i:=⟨id.toNat,by omega⟩
  have h1:1<=i:=by omega
  have hi:i<=H2.m:=by have e:H2.m=H.m:=V.2.m;omega
  have b3:H2.c=3:=V.2.c.trans hc;have ba:=LH (show ∀ p,(H2.tx i).aa.reverse.find? (fun p=>sx p.key == k)=Bs p->H.get i k=((0,sx p.val,!p.gone),H2) from fun p=>aa.o H2 p hr);have b6:=LH (show(H2.tx i).aa.reverse.find? (fun p=>sx p.key == k)=B0->H.get i k=((0,BL (Cf ((H2.sh (Ad k)).sto k) 1099511627776)),H2) from a9.o H2 hr);rw[show lkV P i k 0=.tuple #[pw (P.gt i),pw (P.gs (Ad k)),.nilIface] from rfl];obtain⟨vt,ag⟩:=ac.o.tx i h1 hi;obtain⟨_,_,m2,_,_,_,_,ml⟩:=ag.cells;obtain⟨A5,c5,aN,bm,aG⟩:=AK ag.aa;have a4:=ag.aa;rw[aN] at m2 a4;have bn:=(V.1.tx i h1 hi).bf;have am:=LH a4;have bj:=LH (callsIn_wide.1 (Vo XV 1 trivial rfl A5 (H2.tx i).aa.length c5 q));generalize (H2.tx i).aa=L at *;unfold pw;clear hr V ah au aa a9 aL aK aN ag a4 aG;go_wp2_with fail;refine bj.o.mono ?_;rintro e J ⟨rfl,rfl⟩;have aj:VJ q.heap.size q (q.alloc (.cells #[.slice A5 L.length c5] 67)):=(S2 _ _).alloc (L1 _) _;have ap:Ab (q.alloc (.cells #[.slice A5 L.length c5] 67)) q.heap.size 67 #[.slice A5 L.length c5]:=Ab.new q _ _;have a3:(q.alloc (.cells #[.slice A5 L.length c5] 67)).heap.size=q.heap.size+1:=by simp
  have ak:L.length<=1000:=by omega
  go_wp2_with fail;generalize hA:({ tmps:=_,defers:=[] } : Act)=a0;have HA:=LH hA;have aD:=LH aj;have ax:=ap.cell 0;simp only[Ft,D0] at ax;have ar:RowB (q.heap.size+1) (q.alloc (.cells #[.slice A5 L.length c5] 67)) A5 L c5:=by
   have aF:=(DV aj).own am.o (fun b O hs=>by have:=(am.o.lt b O).2;omega);rcases aF.2 with ⟨e,en⟩|⟨g,cap,bv,e,_,hg,hn,_,_,bo⟩
   ·injection e with e1 _ e3;exact .inl ⟨e1,List.eq_nil_of_length_eq_zero en,e3⟩
   ·injection e with e1 _ e3;refine .inr ⟨g,0,e1,?_,fun j x hx=>?_⟩
    ·have:=(am.o.lt g (by rw[e1];rfl)).2;omega
    ·obtain⟨hj,_⟩:=List.getElem?_eq_some_iff.1 hx;obtain⟨g',bp,x',eA,_,af,b2⟩:=rat (Rd.au aF) rfl hj;rw[e1] at eA;injection eA with eA;injection eA with eA eB _;subst eA eB;rw[hx] at af;injection af with af;subst af;exact b2
  have aA:=LH (show ∀ W,VJ (q.heap.size+1) (q.alloc (.cells #[.slice A5 L.length c5] 67)) W->(W.cell? ⟨f,0,B0⟩=Bs (.string ⟨k.toArray⟩)/\f<W.heap.size)/\Ab W (f+1) 9 #[.string ⟨#[]⟩]/\Ab W (f+2) 4 #[.bool Jx]/\Ab W (f+3) 41 #[.nilIface] from fun W hW=>by
   have M:=(DV (aj.trans (hW.mono (W5 _))))
   have g0:=M.ah al.o.1 (by omega);have c0:=g0.cell 0;simp only[Ft,D0] at c0;exact⟨⟨c0,g0.lt⟩,M.ah a8.o.1 (by omega),M.ah a7.o.1 (by omega),M.ah a6.o.1 (by omega)⟩)
  generalize aV:q.alloc (.cells #[.slice A5 L.length c5] 67)=J at *;rw[<- a3] at ar aA;have v:=LH a3;clear hA aV ap aj;refine(wpIn_wide (n:=9)).1 ?_;refine wpIn_rangeFunc_ownH (F:=XV) rfl (by omega) (gf:=71) (lb:=#[.pointer (Bs ⟨q.heap.size,0,B0⟩)]) (by rw[<- HA.o];rfl) trivial (enters_of Tryz.func71 (by kernel_rfl) rfl)
   (SC XV 8 trivial rfl (by omega) q.heap.size J.heap.size c5 A5 L ak J (by rw[a3];omega) (L1 _) ax ar) belowK_t (belowK_b (L1 _)) (S2 _ _) (fun _=>rfl)
   (fun G W=>(∀ x∈G,(x.2.key.toList == k)=Jx)/\VJ J.heap.size J W)
   (fun c G W=>c=Code.ret/\GIx k f J G W)
   ?hI ?hIx ⟨fun x hx=>(by cases hx),S2 _ _⟩
   (fun x a' W=>∃ Bx,J.heap.size<=Bx/\Ab W Bx 45 #[.string x.2.key,.string x.2.val,.bool x.2.gone]/\a' = { tmps:=((a0.tmps.setIfInBounds 30 (.int .i64 x.1)).setIfInBounds 31 (.agg #[.string x.2.key,.string x.2.val,.bool x.2.gone])).setIfInBounds 13 (.pointer (Bs ⟨Bx,0,B0⟩)),defers:=[] })
   ?hAx ?assign ?body ?done ?stop
  case hI=>exact OwnFrom.and (fun s A B aq hs hg hr=>hs) (ownFrom_below (L1 _) (L1 _))
  case hIx=>
   rintro c s A B aq ⟨rfl,ao,x,h1,h2,h3,h4,h5,h6,h7⟩ hg hr;have M:Fr (fun b=>J.heap.size<=b) A B:=Fr.aP hg (fun r e=>(hr r e).1);have av:f+3<J.heap.size:=by have:=v.o;omega
   exact⟨rfl,ao,x,h1,h2,h3,h4.trans' M (fun b _ e=>.inr e),M.ah h5 (by omega),M.ah h6 (by omega),M.ah h7 (by omega)⟩
  case hAx=>
   rintro x a' u A B aq ⟨Bx,h1,h2,h3⟩ hg hr;refine⟨Bx,h1,?_,h3⟩;have M:Fr (fun b=>aq=Bs b) A B:=Fr.aP hg (fun r e=>e);refine M.ah h2 (fun e=>?_);obtain⟨_,o,ho,hn⟩:=hr Bx e;rw[show A.heap[Bx]? = _ from h2] at ho;injection ho with ho;rw[<- ho] at hn;cases hn
  case assign=>
   rintro l G x W K ⟨hp,O⟩ d;rw[<- HA.o];unfold bwE;have aZ:=Ab.new W 45 #[.string x.2.key,.string x.2.val,.bool x.2.gone];rw[<- HA.o] at d;gi_wp2;exact d _ _ ((KeepsOthers.alloc _ _).from _) ((S2 _ W).alloc O.size _) ⟨hp,O.alloc O.size _⟩ ⟨W.heap.size,O.size,aZ,rfl⟩
  case body=>
   rintro l G x a' W hl bq ⟨hp,O⟩ ⟨Bx,bu,C,rfl⟩ bk;obtain⟨⟨ae,a2⟩,U,S,N⟩:=aA.o W O;have p0:=C.cell 0;have p1:=C.cell 1;have p2:=C.cell 2;have pl:=C.lt;simp only[Ft,D0,N2] at p0 p1 p2;rw[<- HA.o];cases aH:(x.2.key.toList == k) with
   | false=>
    gi_wp2;refine⟨(KeepsOthers.refl _).from _,S2 _ _,fun y hy=>?_,O⟩;rcases List.mem_append.1 hy with hy|hy
    ·exact hp y hy
    ·rw[List.mem_singleton.1 hy];exact aH
   | true=>
    have u1:=U.cell 0;have u2:=S.cell 0;have u3:=N.cell 0;have v1:=U.frozen 0;have v2:=S.frozen 0;have v3:=N.frozen 0;simp only[Ft,D0] at u1 u2 u3;have av:f+3<J.heap.size:=by have:=v.o;omega
    have m:=LH (show KeepsFrom J.heap.size W (((W.setCell ⟨f+1,0,B0⟩ (.string x.2.val)).setCell ⟨f+2,0,B0⟩ (.bool (!x.2.gone))).setCell ⟨f+3,0,B0⟩ .nilIface).drew/\Code.ret=Code.ret/\GIx k f J (G++[x]) (((W.setCell ⟨f+1,0,B0⟩ (.string x.2.val)).setCell ⟨f+2,0,B0⟩ (.bool (!x.2.gone))).setCell ⟨f+3,0,B0⟩ .nilIface).drew from by
     refine⟨((((KeepsOthers.setCell _ _ _).trans (KeepsOthers.setCell _ _ _)).trans (KeepsOthers.setCell _ _ _)).trans (KeepsOthers.drew _)).from _,rfl,G,x,rfl,hp,aH,?_,?_,?_,?_⟩
     ·exact(((((DV O).mono (T:=fun b=>(f<b/\b<f+4)\/J.heap.size<=b) (fun i _ h=>.inr h)).setCell (p:=⟨f+1,0,B0⟩) (.inl (.inl ⟨by show f<f+1;omega,by show f+1<f+4;omega⟩)) _).setCell (p:=⟨f+2,0,B0⟩) (.inl (.inl ⟨by show f<f+2;omega,by show f+2<f+4;omega⟩)) _).setCell (p:=⟨f+3,0,B0⟩) (.inl (.inl ⟨by show f<f+3;omega,by show f+3<f+4;omega⟩)) _).drew
     ·exact(Fr.ax (f+3) _ 0 _).ah ((Fr.ax (f+2) _ 0 _).ah (U.aC 0 (.string x.2.val)) (by omega)) (by omega)
     ·exact(Fr.ax (f+3) _ 0 _).ah (((Fr.ax (f+1) _ 0 _).ah S (by omega)).aC 0 (.bool (!x.2.gone))) (by omega)
     ·exact((Fr.ax (f+2) _ 0 _).ah ((Fr.ax (f+1) _ 0 _).ah N (by omega)) (by omega)).aC 0 .nilIface)
    gi_wp2;refine wpIn_region_any (by kernel_rfl) ?_;change wpAnyIn _ _ _ _ _ _ _ _ _ (World.drew _);refine nV 0 2 (fun K d=>?_) (fun K d=>?_)
    ·go_simp;refine d _ _ ?_;clear d K;refine nV 1 2 (fun K d=>?_) (fun K d=>?_)
     ·go_simp;refine d _ _ ?_;clear d K;refine nV 2 5 (fun K d=>?_) (fun K d=>?_)
      ·go_simp;refine d _ _ ?_;clear d K;refine nV 3 5 (fun K d=>?_) (fun K d=>?_)
       ·go_simp;refine d _ _ ?_;clear d K;refine nV 4 5 (fun K d=>?_) (fun K d=>?_)
        ·go_simp;refine d _ _ ?_;clear d K;refine nU 5 (fun K d=>?_);go_simp;refine d _ _ ?_;clear d K;refine nU 6 (fun K d=>?_);go_simp;refine d _ _ ?_;clear d K;refine nU 7 (fun K d=>?_);go_simp;refine d _ _ ?_;clear d K;refine WW (by kernel_rfl) ?_ _;gi_wp2;exact⟨m.o.1,rfl,m.o.2.2⟩
        ·go_simp;refine d _ _ ?_;clear d K;refine nU 4 (fun K d=>?_);go_simp;refine d _ _ ?_;clear d K;refine nU 6 (fun K d=>?_);go_simp;refine d _ _ ?_;clear d K;refine nU 7 (fun K d=>?_);go_simp;refine d _ _ ?_;clear d K;refine WW (by kernel_rfl) ?_ _;gi_wp2;exact⟨m.o.1,rfl,m.o.2.2⟩
       ·go_simp;refine d _ _ ?_;clear d K;refine nU 3 (fun K d=>?_);go_simp;refine d _ _ ?_;clear d K;refine nU 4 (fun K d=>?_);go_simp;refine d _ _ ?_;clear d K;refine nU 6 (fun K d=>?_);go_simp;refine d _ _ ?_;clear d K;refine nU 7 (fun K d=>?_);go_simp;refine d _ _ ?_;clear d K;refine WW (by kernel_rfl) ?_ _;gi_wp2;exact⟨m.o.1,rfl,m.o.2.2⟩
      ·go_simp;refine d _ _ ?_;clear d K;refine nU 2 (fun K d=>?_);go_simp;refine d _ _ ?_;clear d K;refine nU 3 (fun K d=>?_);go_simp;refine d _ _ ?_;clear d K;refine nU 4 (fun K d=>?_);go_simp;refine d _ _ ?_;clear d K;refine nU 6 (fun K d=>?_);go_simp;refine d _ _ ?_;clear d K;refine nU 7 (fun K d=>?_);go_simp;refine d _ _ ?_;clear d K;refine WW (by kernel_rfl) ?_ _;gi_wp2;exact⟨m.o.1,rfl,m.o.2.2⟩
     ·go_simp;refine d _ _ ?_;clear d K;refine nV 1 3 (fun K d=>?_) (fun K d=>?_)
      ·go_simp;refine d _ _ ?_;clear d K;refine nV 3 5 (fun K d=>?_) (fun K d=>?_)
       ·go_simp;refine d _ _ ?_;clear d K;refine nV 4 5 (fun K d=>?_) (fun K d=>?_)
        ·go_simp;refine d _ _ ?_;clear d K;refine nU 5 (fun K d=>?_);go_simp;refine d _ _ ?_;clear d K;refine nU 6 (fun K d=>?_);go_simp;refine d _ _ ?_;clear d K;refine nU 7 (fun K d=>?_);go_simp;refine d _ _ ?_;clear d K;refine WW (by kernel_rfl) ?_ _;gi_wp2;exact⟨m.o.1,rfl,m.o.2.2⟩
        ·go_simp;refine d _ _ ?_;clear d K;refine nU 4 (fun K d=>?_);go_simp;refine d _ _ ?_;clear d K;refine nU 6 (fun K d=>?_);go_simp;refine d _ _ ?_;clear d K;refine nU 7 (fun K d=>?_);go_simp;refine d _ _ ?_;clear d K;refine WW (by kernel_rfl) ?_ _;gi_wp2;exact⟨m.o.1,rfl,m.o.2.2⟩
       ·go_simp;refine d _ _ ?_;clear d K;refine nU 3 (fun K d=>?_);go_simp;refine d _ _ ?_;clear d K;refine nU 4 (fun K d=>?_);go_simp;refine d _ _ ?_;clear d K;refine nU 6 (fun K d=>?_);go_simp;refine d _ _ ?_;clear d K;refine nU 7 (fun K d=>?_);go_simp;refine d _ _ ?_;clear d K;refine WW (by kernel_rfl) ?_ _;gi_wp2;exact⟨m.o.1,rfl,m.o.2.2⟩
      ·go_simp;refine d _ _ ?_;clear d K;refine nV 1 4 (fun K d=>?_) (fun K d=>?_)
       ·go_simp;refine d _ _ ?_;clear d K;refine nV 4 5 (fun K d=>?_) (fun K d=>?_)
        ·go_simp;refine d _ _ ?_;clear d K;refine nU 5 (fun K d=>?_);go_simp;refine d _ _ ?_;clear d K;refine nU 6 (fun K d=>?_);go_simp;refine d _ _ ?_;clear d K;refine nU 7 (fun K d=>?_);go_simp;refine d _ _ ?_;clear d K;refine WW (by kernel_rfl) ?_ _;gi_wp2;exact⟨m.o.1,rfl,m.o.2.2⟩
        ·go_simp;refine d _ _ ?_;clear d K;refine nU 4 (fun K d=>?_);go_simp;refine d _ _ ?_;clear d K;refine nU 6 (fun K d=>?_);go_simp;refine d _ _ ?_;clear d K;refine nU 7 (fun K d=>?_);go_simp;refine d _ _ ?_;clear d K;refine WW (by kernel_rfl) ?_ _;gi_wp2;exact⟨m.o.1,rfl,m.o.2.2⟩
       ·go_simp;refine d _ _ ?_;clear d K;refine nU 1 (fun K d=>?_);go_simp;refine d _ _ ?_;clear d K;refine nU 5 (fun K d=>?_);go_simp;refine d _ _ ?_;clear d K;refine nU 6 (fun K d=>?_);go_simp;refine d _ _ ?_;clear d K;refine nU 7 (fun K d=>?_);go_simp;refine d _ _ ?_;clear d K;refine WW (by kernel_rfl) ?_ _;gi_wp2;exact⟨m.o.1,rfl,m.o.2.2⟩
    ·go_simp;refine d _ _ ?_;clear d K;refine nV 0 3 (fun K d=>?_) (fun K d=>?_)
     ·go_simp;refine d _ _ ?_;clear d K;refine nV 1 3 (fun K d=>?_) (fun K d=>?_)
      ·go_simp;refine d _ _ ?_;clear d K;refine nV 3 5 (fun K d=>?_) (fun K d=>?_)
       ·go_simp;refine d _ _ ?_;clear d K;refine nV 4 5 (fun K d=>?_) (fun K d=>?_)
        ·go_simp;refine d _ _ ?_;clear d K;refine nU 5 (fun K d=>?_);go_simp;refine d _ _ ?_;clear d K;refine nU 6 (fun K d=>?_);go_simp;refine d _ _ ?_;clear d K;refine nU 7 (fun K d=>?_);go_simp;refine d _ _ ?_;clear d K;refine WW (by kernel_rfl) ?_ _;gi_wp2;exact⟨m.o.1,rfl,m.o.2.2⟩
        ·go_simp;refine d _ _ ?_;clear d K;refine nU 4 (fun K d=>?_);go_simp;refine d _ _ ?_;clear d K;refine nU 6 (fun K d=>?_);go_simp;refine d _ _ ?_;clear d K;refine nU 7 (fun K d=>?_);go_simp;refine d _ _ ?_;clear d K;refine WW (by kernel_rfl) ?_ _;gi_wp2;exact⟨m.o.1,rfl,m.o.2.2⟩
       ·go_simp;refine d _ _ ?_;clear d K;refine nU 3 (fun K d=>?_);go_simp;refine d _ _ ?_;clear d K;refine nU 4 (fun K d=>?_);go_simp;refine d _ _ ?_;clear d K;refine nU 6 (fun K d=>?_);go_simp;refine d _ _ ?_;clear d K;refine nU 7 (fun K d=>?_);go_simp;refine d _ _ ?_;clear d K;refine WW (by kernel_rfl) ?_ _;gi_wp2;exact⟨m.o.1,rfl,m.o.2.2⟩
      ·go_simp;refine d _ _ ?_;clear d K;refine nV 1 4 (fun K d=>?_) (fun K d=>?_)
       ·go_simp;refine d _ _ ?_;clear d K;refine nV 4 5 (fun K d=>?_) (fun K d=>?_)
        ·go_simp;refine d _ _ ?_;clear d K;refine nU 5 (fun K d=>?_);go_simp;refine d _ _ ?_;clear d K;refine nU 6 (fun K d=>?_);go_simp;refine d _ _ ?_;clear d K;refine nU 7 (fun K d=>?_);go_simp;refine d _ _ ?_;clear d K;refine WW (by kernel_rfl) ?_ _;gi_wp2;exact⟨m.o.1,rfl,m.o.2.2⟩
        ·go_simp;refine d _ _ ?_;clear d K;refine nU 4 (fun K d=>?_);go_simp;refine d _ _ ?_;clear d K;refine nU 6 (fun K d=>?_);go_simp;refine d _ _ ?_;clear d K;refine nU 7 (fun K d=>?_);go_simp;refine d _ _ ?_;clear d K;refine WW (by kernel_rfl) ?_ _;gi_wp2;exact⟨m.o.1,rfl,m.o.2.2⟩
       ·go_simp;refine d _ _ ?_;clear d K;refine nU 1 (fun K d=>?_);go_simp;refine d _ _ ?_;clear d K;refine nU 5 (fun K d=>?_);go_simp;refine d _ _ ?_;clear d K;refine nU 6 (fun K d=>?_);go_simp;refine d _ _ ?_;clear d K;refine nU 7 (fun K d=>?_);go_simp;refine d _ _ ?_;clear d K;refine WW (by kernel_rfl) ?_ _;gi_wp2;exact⟨m.o.1,rfl,m.o.2.2⟩
     ·go_simp;refine d _ _ ?_;clear d K;refine nV 0 4 (fun K d=>?_) (fun K d=>?_)
      ·go_simp;refine d _ _ ?_;clear d K;refine nV 1 4 (fun K d=>?_) (fun K d=>?_)
       ·go_simp;refine d _ _ ?_;clear d K;refine nV 4 5 (fun K d=>?_) (fun K d=>?_)
        ·go_simp;refine d _ _ ?_;clear d K;refine nU 5 (fun K d=>?_);go_simp;refine d _ _ ?_;clear d K;refine nU 6 (fun K d=>?_);go_simp;refine d _ _ ?_;clear d K;refine nU 7 (fun K d=>?_);go_simp;refine d _ _ ?_;clear d K;refine WW (by kernel_rfl) ?_ _;gi_wp2;exact⟨m.o.1,rfl,m.o.2.2⟩
        ·go_simp;refine d _ _ ?_;clear d K;refine nU 4 (fun K d=>?_);go_simp;refine d _ _ ?_;clear d K;refine nU 6 (fun K d=>?_);go_simp;refine d _ _ ?_;clear d K;refine nU 7 (fun K d=>?_);go_simp;refine d _ _ ?_;clear d K;refine WW (by kernel_rfl) ?_ _;gi_wp2;exact⟨m.o.1,rfl,m.o.2.2⟩
       ·go_simp;refine d _ _ ?_;clear d K;refine nU 1 (fun K d=>?_);go_simp;refine d _ _ ?_;clear d K;refine nU 5 (fun K d=>?_);go_simp;refine d _ _ ?_;clear d K;refine nU 6 (fun K d=>?_);go_simp;refine d _ _ ?_;clear d K;refine nU 7 (fun K d=>?_);go_simp;refine d _ _ ?_;clear d K;refine WW (by kernel_rfl) ?_ _;gi_wp2;exact⟨m.o.1,rfl,m.o.2.2⟩
      ·go_simp;refine d _ _ ?_;clear d K;refine nU 0 (fun K d=>?_);go_simp;refine d _ _ ?_;clear d K;refine nU 1 (fun K d=>?_);go_simp;refine d _ _ ?_;clear d K;refine nU 5 (fun K d=>?_);go_simp;refine d _ _ ?_;clear d K;refine nU 6 (fun K d=>?_);go_simp;refine d _ _ ?_;clear d K;refine nU 7 (fun K d=>?_);go_simp;refine d _ _ ?_;clear d K;refine WW (by kernel_rfl) ?_ _;gi_wp2;exact⟨m.o.1,rfl,m.o.2.2⟩
  case stop=>
   rintro D c G W hD ⟨j,hj,rfl⟩ ⟨rfl,ao,x,e1,e2,e3,M,q1,q2,q3⟩ d;rw[Kn] at e1;obtain⟨e4,e5⟩:=List.append_inj' e1 rfl;injection e5 with e5;subst e4 e5;have ai:=Vi (p:=fun p=>sx p.key == k) hj (fun y hy=>by rw[<- q4z];exact e2 y hy) (by rw[<- q4z];exact e3);have HG:=LH (ba.o _ ai);have aw:W.heap.size > D:=(Array.getElem?_eq_some_iff.1 d).1;have t:Fr (fun b=>J.heap.size<=b) W (W.putObj D (.deferred B0)):=Fr.aP (grownBy_putObj' W D (.deferred B0)) (fun r e=>by cases e;exact hD);have b5:Fr (fun b=>(f<b/\b<f+4)\/q.heap.size<=b) q (W.putObj D (.deferred B0)):=by
    have a1:Fr (fun b=>(f<b/\b<f+4)\/q.heap.size<=b) q J:=(DV aD.o).mono (fun b _ h=>.inr h);exact(a1.trans' M (fun b _ h=>h.imp id (fun h=>by have:=v.o;omega))).trans' t (fun b _ h=>.inr (by have:=v.o;omega))
   have hG:=Ch.boxes (g:=f) ac.o aB.o (fun j hj=>by
    have:j=0\/j=1\/j=2\/j=3:=by omega
    rcases this with rfl|rfl|rfl|rfl
    ·exact al.o.2
    ·exact a8.o.2
    ·exact a7.o.2
    ·exact a6.o.2) (by have:=aC.o;omega) b5
   have av:f+3<J.heap.size:=by have:=v.o;omega
   have g1:=(t.ah q1 (by omega)).cell 0;have g2:=(t.ah q2 (by omega)).cell 0;have g3:=(t.ah q3 (by omega)).cell 0;rw[<- HA.o];gi_wp2;refine⟨by simp,.inl ⟨_,_,rfl,run_takeDeferred d,?_⟩⟩;refine⟨_,Hj rfl rfl rfl g1 g2 g3,?_⟩;unfold PV;rw[HG.o];exact⟨by show Ending.returned (Value.tuple #[.string _,.bool _,.nilIface])=Ending.returned (Value.tuple #[.string ⟨(sx _).toArray⟩,.bool _,CX 0]);rw[Ju];rfl,hG⟩
  case done=>
   rintro D ys W hD rfl ⟨hp,O⟩ d;have ai:=Vj (p:=fun p=>sx p.key == k) (fun y hy=>by rw[<- q4z];exact hp y hy);have HG:=LH (b6.o ai);have aw:W.heap.size > D:=(Array.getElem?_eq_some_iff.1 d).1;obtain⟨⟨ae,a2⟩,U,S,N⟩:=aA.o W O;rw[<- HA.o];have aO:HI W aE P H2:=ac.o.below (aD.o.trans (O.mono (by have:=v.o;omega)));have bg:=LH (Sa (aO.below (S2 W.heap.size W).drew) (s:=Ad k) (by rw[b3];have:=KM k;omega) k (KJ hk));have aP:Fr (fun b=>(f<b/\b<f+4)\/q.heap.size<=b) q W:=((DV aD.o).mono (T:=fun b=>(f<b/\b<f+4)\/q.heap.size<=b) (fun b _ h=>.inr h)).trans' (DV O) (fun b _ h=>.inr (by have:=v.o;omega));have aU:=LH aP;have bf:=LH U;have be:=LH S;have bd:=LH N;have av:f+3<W.heap.size:=N.lt;have b1:f+3<q.heap.size:=e3;have bc:=LH d;generalize aX:BL (Cf ((H2.sh (Ad k)).sto k) 1099511627776)=R at *;clear aO aP aX ai U S N d0 d1 d2 d3 e0 e1 e2 e3 f1 f2 f3 m2 ml hp O ax ar am d;go_upto_region 8 with (fail)
   refine KQ ?_;refine nW ?_;refine CU (fun W'=>W'.cell? ⟨f,0,B0⟩=Bs (.string ⟨k.toArray⟩)/\f<W'.heap.size) 8 (fun c _ _ _ _ h=>absurd rfl (h.2 c)) (fun I=>?_);have E:W.drew.cell? ⟨f,0,B0⟩=Bs (.string ⟨k.toArray⟩)/\f<W.drew.heap.size:=⟨ae,a2⟩
   refine nD 0 [1,2,4,5,6,7,8,9,10] I E ?_;refine nD 1 [2,4,5,6,7,8,9,10] I E ?_;refine nD 2 [4,5,6,7,8,9,10] I E ?_;refine nA 3 [4,5,6,7,8,9,10] rfl rfl I E (fun w' aW=>by obtain⟨p1,pl⟩:=aW;go_simp;rfl) ?_;refine nG 4 (fun KK d=>?_);go_simp;refine bg.o.mono ?_;rintro e w5 ⟨rfl,aM⟩;have z:VJ W.heap.size W w5:=(S2 W (B:=W.heap.size)).drew.trans aM;have a5:=DV z;have C5:=LH (show w5.cell? ⟨f,0,B0⟩=Bs (.string ⟨k.toArray⟩)/\f<w5.heap.size from⟨(z.cell (p:=⟨f,0,B0⟩) a2).trans ae,VH a2 z.size⟩);have g1:=a5.ah bf.o (by omega);have g2:=a5.ah be.o (by omega);have g3:=a5.ah bd.o (by omega);have u1:=g1.cell 0;have u2:=g2.cell 0;have u3:=g3.cell 0;have v1:=g1.frozen 0;have v2:=g2.frozen 0;have v3:=g3.frozen 0;simp only[Ft,D0] at u1 u2 u3;have l1:=g1.lt;have l2:=g2.lt;have l3:=g3.lt;have hS:Fr (fun b=>(f<b/\b<f+4)\/q.heap.size<=b) q (((w5.setCell ⟨f+1,0,B0⟩ (.string ⟨R.1.toArray⟩)).setCell ⟨f+2,0,B0⟩ (.bool R.2)).setCell ⟨f+3,0,B0⟩ .nilIface):=
    (((aU.o.trans' a5 (fun b br h=>absurd h (by have:=aU.o.size;omega))).setCell (p:=⟨f+1,0,B0⟩) (.inl (.inl ⟨by show f<f+1;omega,by show f+1<f+4;omega⟩)) _).setCell (p:=⟨f+2,0,B0⟩) (.inl (.inl ⟨by show f<f+2;omega,by show f+2<f+4;omega⟩)) _).setCell (p:=⟨f+3,0,B0⟩) (.inl (.inl ⟨by show f<f+3;omega,by show f+3<f+4;omega⟩)) _
   have r1:=(Fr.ax (f+3) _ 0 .nilIface).ah ((Fr.ax (f+2) _ 0 (.bool R.2)).ah (g1.aC 0 (.string ⟨R.1.toArray⟩)) (by omega)) (by omega);have r2:=(Fr.ax (f+3) _ 0 .nilIface).ah (((Fr.ax (f+1) _ 0 (.string ⟨R.1.toArray⟩)).ah g2 (by omega)).aC 0 (.bool R.2)) (by omega);have r3:=((Fr.ax (f+2) _ 0 (.bool R.2)).ah ((Fr.ax (f+1) _ 0 (.string ⟨R.1.toArray⟩)).ah g3 (by omega)) (by omega)).aC 0 .nilIface;have aJ:(((w5.setCell ⟨f+1,0,B0⟩ (.string ⟨R.1.toArray⟩)).setCell ⟨f+2,0,B0⟩ (.bool R.2)).setCell ⟨f+3,0,B0⟩ .nilIface).heap[D]? = Bs (.deferred (Bs [])):=by
    have b4:Fr (fun b=>f<b/\b<f+4) w5 (((w5.setCell ⟨f+1,0,B0⟩ (.string ⟨R.1.toArray⟩)).setCell ⟨f+2,0,B0⟩ (.bool R.2)).setCell ⟨f+3,0,B0⟩ .nilIface):=
     (((Fr.refl _ w5).setCell (p:=⟨f+1,0,B0⟩) (.inl ⟨by show f<f+1;omega,by show f+1<f+4;omega⟩) _).setCell (p:=⟨f+2,0,B0⟩) (.inl ⟨by show f<f+2;omega,by show f+2<f+4;omega⟩) _).setCell (p:=⟨f+3,0,B0⟩) (.inl ⟨by show f<f+3;omega,by show f+3<f+4;omega⟩) _
    rw[b4.block D (VH aw z.size) (by have:=v.o;omega),z.block D aw];exact bc.o
   have HS:=LH hS;have b9:=LH r1;have b8:=LH r2;have b7:=LH r3;have bb:=LH aJ;clear hS r1 r2 r3 aJ g1 g2 g3 a5 aM z;have E:w5.cell? ⟨f,0,B0⟩=Bs (.string ⟨k.toArray⟩)/\f<w5.heap.size:=C5.o;go_simp;refine d _ _ (fun _=>C5.o) ?_;clear d KK;refine nD 5 [8,9,10] I E ?_;refine nD 6 [8,9,10] I E ?_;refine nD 7 [8,9,10] I E ?_;refine nG 8 (fun KK d=>?_);go_simp;refine d _ _ nZ ?_;clear d KK;refine nG 9 (fun KK d=>?_);go_simp;refine d _ _ nZ ?_;clear d KK;refine nG 10 (fun KK d=>?_);go_simp;refine d _ _ nZ ?_;clear d KK;refine nX ?_;refine⟨?_,fun c h=>by cases h⟩;clear I u1 u2 u3 v1 v2 v3 l1 l2 l3 E ae a2;go_wp2_with fail;have t:Fr (fun b=>b=D) _ (World.putObj _ D (.deferred B0)):=Fr.aP (grownBy_putObj' (((w5.setCell ⟨f+1,0,B0⟩ (.string ⟨R.1.toArray⟩)).setCell ⟨f+2,0,B0⟩ (.bool R.2)).setCell ⟨f+3,0,B0⟩ .nilIface) D (.deferred B0)) (fun r e=>by cases e;rfl);have bt:f+3<D:=by have:=v.o;omega
   have hG:=Ch.boxes (g:=f) ac.o aB.o (fun j hj=>by
    have:j=0\/j=1\/j=2\/j=3:=by omega
    rcases this with rfl|rfl|rfl|rfl
    ·exact al.o.2
    ·exact a8.o.2
    ·exact a7.o.2
    ·exact a6.o.2) (by have:=aC.o;omega) (HS.o.trans' t (fun b _ (h:b=D)=>.inr (by have:=v.o;omega)))
   have g1:=(t.ah b9.o (by omega)).cell 0;have g2:=(t.ah b8.o (by omega)).cell 0;have g3:=(t.ah b7.o (by omega)).cell 0;refine⟨by simp,.inl ⟨_,_,rfl,run_takeDeferred bb.o,?_⟩⟩;refine⟨_,Hj rfl rfl rfl g1 g2 g3,?_⟩;unfold PV;rw[HG.o];exact⟨rfl,hG⟩
 ·rw[show lkV P id k Y=.tuple #[.pointer B0,.pointer B0,.iface 79 (.int .i64 Y)] from by unfold lkV;rw[if_neg he]];have M:Fr (fun x=>(f<x/\x<f+4)\/q.heap.size<=x) q (((q.setCell ⟨f+1,0,B0⟩ (.string ⟨#[]⟩)).setCell ⟨f+2,0,B0⟩ (.bool Jx)).setCell ⟨f+3,0,B0⟩ (.iface 79 (.int .i64 Y))):=
   (((Fr.refl _ q).setCell (p:=⟨f+1,0,B0⟩) (.inl (.inl ⟨by show f<f+1;omega,by show f+1<f+4;omega⟩)) _).setCell (p:=⟨f+2,0,B0⟩) (.inl (.inl ⟨by show f<f+2;omega,by show f+2<f+4;omega⟩)) _).setCell (p:=⟨f+3,0,B0⟩) (.inl (.inl ⟨by show f<f+3;omega,by show f+3<f+4;omega⟩)) _
  have hG:=Ch.boxes (g:=f) ac.o aB.o (fun j hj=>by
   have:j=0\/j=1\/j=2\/j=3:=by omega
   rcases this with rfl|rfl|rfl|rfl
   ·exact al.o.2
   ·exact a8.o.2
   ·exact a7.o.2
   ·exact a6.o.2) (by have:=aC.o;omega) M
  have bh:=LH hG;have q1:=((Fr.ax (f+3) _ 0 (.iface 79 (.int .i64 Y))).ah ((Fr.ax (f+2) _ 0 (.bool Jx)).ah (a8.o.1.aC 0 (.string ⟨#[]⟩)) (by omega)) (by omega)).cell 0;have q2:=((Fr.ax (f+3) _ 0 (.iface 79 (.int .i64 Y))).ah (((Fr.ax (f+1) _ 0 (.string ⟨#[]⟩)).ah a7.o.1 (by omega)).aC 0 (.bool Jx)) (by omega)).cell 0;have q3:=(((Fr.ax (f+2) _ 0 (.bool Jx)).ah ((Fr.ax (f+1) _ 0 (.string ⟨#[]⟩)).ah a6.o.1 (by omega)) (by omega)).aC 0 (.iface 79 (.int .i64 Y))).cell 0;have Q1:=LH q1;have Q2:=LH q2;have Q3:=LH q3;have an:=LH (au he);have bi:=LH (show CX Y=.iface 79 (.int .i64 Y) from by unfold CX;rw[if_neg he]);clear M hG q1 q2 q3 hr V ah au aa a9 he;go_wp2_with fail;refine⟨_,Hj rfl rfl rfl Q1.o Q2.o Q3.o,?_⟩;unfold PV;rw[an.o];exact⟨by rw[bi.o];rfl,bh.o⟩
end
end
section
variable {w w':B1} {own own':Ai} {P:Aw} {H:Hs}
theorem AD.none_ {base n g c:Nat} {d:TypeId} {f:Array Hi} (l:Ab w g d f) (m:f[c]? = Bs (.map B0)) (j:d≠168/\d≠166) (o:base<=w.heap.size) (e:Sx->Av) :
  AD w base n g c d f B0 e (fun _=>B0):=
 ⟨l,m,fun _=>rfl,fun x k h=>(by cases h),fun x y _ h=>absurd rfl h,fun x h=>absurd rfl h,j,fun b h=>(by cases h),fun x h=>absurd rfl h,o⟩
theorem B8.none_ {base n g c:Nat} {e:TypeId} {d:Array Hi} (m:Ab w g e d) (p:d[c]? = Bs (.map B0)) (o:d[c+1]? = Bs (.int .i64 0)) (j:e≠145) (l:base<=g) (f:Sx->Hi) :
  B8 w base n g c e d B0 f (fun _=>[]) 0:=
 ⟨m,p,o,j,fun _=>rfl,fun x h=>absurd rfl h,fun x y _ h=>absurd rfl h,fun x h=>absurd rfl h,fun x v h=>(by cases h),fun x=>Yj,fun x=>VK _,Xk _,by decide,fun b h=>(by cases h),l⟩
theorem D3.reset {n s g:Nat} {gn:Nat->Nat} {v:NO} {x:Bg} (h:D3 w own n s g gn v x) (f:Ab w' g 105 (FC { v with mt:=B0,ms:=B0 } { x with tab:=fun _=>B0,sto:=fun _=>[],done:=0 })) (l:Fr (fun k=>k=g) w w') :
  D3 w' own n s g gn { v with mt:=B0,ms:=B0 } { x with tab:=fun _=>B0,sto:=fun _=>[],done:=0 }:=by
 have c:=h.gt;have o:¬v.bd=g:=fun e=>by have:=h.c5;rw[e,c] at this;cases this
 have m:∀ b,v.Vn.ownBlock=Bs b->¬b=g:=fun b f e=>by have:=h.br b f;rw[e,c] at this;cases this
 refine⟨l.own h.row m,h.br,h.dd.fr l o,h.c5,AD.none_ f rfl ⟨by decide,by decide⟩ (VK _) _,fun b d=>?_,B8.none_ f rfl rfl (by decide) (VK _) _,fun b d=>?_,c⟩
 ·rcases d with h|⟨x,j,_⟩
  ·cases h
  ·exact absurd rfl j
 ·rcases d with h|⟨x,j,_⟩
  ·cases h
  ·exact absurd rfl j
theorem HI.cQ (h:HI w own P H) {s:Nat} {x':Bg} (d:x'.nd=(H.sh s).nd) {v:NO} (j:D3 w own H.n s (P.gs s) (P.gn s) v (H.sh s)) (f:Fr (fun k=>k=P.gs s) w w') {v':NO} (g:D3 w' own H.n s (P.gs s) (P.gn s) v' x') :
  HI w' own P (H.al s x')/\AA w own w' own:=by
 have c:Fr (OS own (Df s)) w w':=f.mono (fun b _ e=>⟨_,by rw[e];exact j.gt,.inl rfl⟩);exact⟨h.setSh' d c (Ext.refl own _) (fun b l=>VH (h.lt b l) f.size) ⟨v',g⟩,⟨Ext.refl own _,GR c (fun _=>Fo),fun _ _ h=>h⟩⟩
theorem HI.setEp (h:HI w own P H) {s:Nat} (hs:s<H.c) (e:Int):HI (w.setCell ⟨P.gs s,2,B0⟩ (.int .i64 e)) own P (H.al s { H.sh s with ab:=e })/\AA w own (w.setCell ⟨P.gs s,2,B0⟩ (.int .i64 e)) own:=by
 obtain⟨v,b⟩:=h.sh s hs;exact h.cQ rfl b (Fr.ax _ w 2 _) (v':=v) (b.bU (by simpa [FC] using b.tab.ah.aC 2 (.int .i64 e)) (Fr.ax _ w 2 _) rfl rfl rfl)
theorem HI.setSz (h:HI w own P H) {s:Nat} (hs:s<H.c) (e:Int):HI (w.setCell ⟨P.gs s,3,B0⟩ (.int .i64 e)) own P (H.al s { H.sh s with size:=e })/\AA w own (w.setCell ⟨P.gs s,3,B0⟩ (.int .i64 e)) own:=by
 obtain⟨v,b⟩:=h.sh s hs;exact h.cQ rfl b (Fr.ax _ w 3 _) (v':=v) (b.bU (by simpa [FC] using b.tab.ah.aC 3 (.int .i64 e)) (Fr.ax _ w 3 _) rfl rfl rfl)
def qb2 (w:B1) (g:Nat):B1:=(((w.setCell ⟨g,4,B0⟩ (.map B0)).setCell ⟨g,5,B0⟩ (.map B0)).setCell ⟨g,6,B0⟩ (.int .i64 0)).setCell ⟨g,7,B0⟩ (.int .i64 0)
theorem HI.reset (h:HI w own P H) {s:Nat} (hs:s<H.c):HI (qb2 w (P.gs s)) own P (H.al s { H.sh s with tab:=fun _=>B0,sto:=fun _=>[],done:=0 })/\AA w own (qb2 w (P.gs s)) own:=by
 obtain⟨v,b⟩:=h.sh s hs;have c:Fr (fun k=>k=P.gs s) w (qb2 w (P.gs s)):=(((Fr.ax (P.gs s) w 4 _).trans (Fr.ax (P.gs s) _ 5 _)).trans (Fr.ax (P.gs s) _ 6 _)).trans (Fr.ax (P.gs s) _ 7 _);exact h.cQ rfl b c (v':={ v with mt:=B0,ms:=B0 }) (b.reset (by simpa [FC,qb2] using (((b.tab.ah.aC 4 (.map B0)).aC 5 (.map B0)).aC 6 (.int .i64 0)).aC 7 (.int .i64 0)) c)
theorem HI.b8 (h:HI w own P H) {s:Nat} (hs:s<H.c):∃ v:NO,w.cell? ⟨P.gs s,2,B0⟩=Bs (.int .i64 (H.sh s).ab)/\w.cell? ⟨P.gs s,3,B0⟩=Bs (.int .i64 (H.sh s).size)/\w.cell? ⟨P.gs s,4,B0⟩=Bs (.map v.mt)/\w.cell? ⟨P.gs s,5,B0⟩=Bs (.map v.ms)/\w.cell? ⟨P.gs s,6,B0⟩=Bs (.int .i64 0)/\w.cell? ⟨P.gs s,7,B0⟩=Bs (.int .i64 (H.sh s).done)/\
  (∀ o,w.frozen? ⟨P.gs s,o,B0⟩=Jx)/\P.gs s<w.heap.size:=by
 obtain⟨v,l⟩:=h.sh s hs;have b:=l.tab.ah;have j:=b.cell 2;have g:=b.cell 3;have f:=b.cell 4;have e:=b.cell 5;have d:=b.cell 6;have c:=b.cell 7;unfold FC at j g f e d c;simp only[Ft,D0,N2] at j g f e d c;exact⟨v,j,g,f,e,d,c,b.frozen,b.lt⟩
end
def Tf (H:Hs) (s b:Nat) (l:List Nat) (e:Int) (w:B1) (v:Hi) (wr:B1):Prop:=
 ∃ (q:Nat) (V:Hi),v=.int .i64 q/\q<=l.length/\Ab wr b 148 #[.int .i64 e,V]/\wr.ownsRow (b+1) 3 1 V q ((l.take q).map fun j=>.int .i64 ((H.sh s).nd j).id)/\VJ b w wr
def FiB (P:Aw) (own:Ai) (H:Hs) (s:Nat) (ids:List Int) (l:List Nat) (w:B1) (v:Hi) (wr:B1):Prop:=
 ∃ q:Nat,v=.int .i64 q/\q<=l.length/\Ch P own ((l.take q).foldl (Hs.ay s ids) H) w wr
theorem Mh {s:Nat} {ids:List Int} {H:Hs} {l:List Nat} {q j:Nat} (h:l[q]? = Bs j):(l.take (q+1)).foldl (Hs.ay s ids) H=Hs.ay s ids ((l.take q).foldl (Hs.ay s ids) H) j:=by
 rw[VV,h,WS];rfl
theorem JK {s:Nat} {ids:List Int} : ∀ (l:List Nat) (H:Hs) {j:Nat},j ∉ l->((l.foldl (Hs.ay s ids) H).sh s).nd j=(H.sh s).nd j/\((l.foldl (Hs.ay s ids) H).sh s).ab=(H.sh s).ab
 | [],_,_,_=>⟨rfl,rfl⟩
 | a::l,H,j,hj=>by
  obtain⟨c,b⟩:=JK l (Hs.ay s ids H a) (fun h=>hj (VM _ h));have e:(Hs.ay s ids H a).sh s = { H.sh s with nd:=Ae (H.sh s).nd a (((H.sh s).nd a).join (H.sh s).ab ids).tick.1 }:=Ay _ _ _;refine⟨c.trans ?_,b.trans (by rw[e])⟩;rw[e];exact AF (fun e=>hj (by rw[e];exact VL)) _
theorem Po {H:Hs} (d:Wf H) {s:Nat} (hs:s<H.c):((H.sh s).ids H.n).Nodup:=by
 unfold Bg.ids List.Nodup;rw[List.pairwise_map];have h:((H.sh s).aj H.n).Nodup:=X1 _ List.nodup_range;refine List.Pairwise.imp_of_mem (fun {a b} g f c e=>c ?_) h;rw[(d.nd s a hs (q3w g)).id,(d.nd s b hs (q3w f)).id] at e;omega
def EL (H:Hs) (s:Nat) (e:Int) (n:Nat):Hs:=H.al s { H.sh s with ab:=e,size:=n }
theorem Sk (H:Hs) (s:Nat):H.aW s=(((((H.sh s).aj H.n).foldl (Hs.ay s ((H.sh s).ids H.n)) (EL H s (Xa ((H.sh s).ab+1)) ((H.sh s).aj H.n).length)).al s { (((H.sh s).aj H.n).foldl (Hs.ay s ((H.sh s).ids H.n)) (EL H s (Xa ((H.sh s).ab+1)) ((H.sh s).aj H.n).length)).sh s with tab:=fun _=>B0,sto:=fun _=>[],done:=0 })).take s:=rfl
section
variable {w w':B1} {own own':Ai} {P:Aw} {H:Hs}
theorem JU {s:Nat} (h:HI w own P H) (wf:Wf H) (hs:s<H.c) (he:∀ j∈(H.sh s).aj H.n,((H.sh s).nd j).ab<Xa ((H.sh s).ab+1)) :
  VX Tryz.prog 45 #[pw P.g,pw (P.gs s)] w fun e w'=>e=.returned (.tuple #[])/\Ch P own (H.fix s) w w':=by
 have HH:=LH h;have aI:=LH wf;have bK:=wf.n4;have bN:=wf.c3;have HL:=LH (q58 h wf hs);have bM:=q2m (H.sh s) H.n;have HM:=LH (fun j (hj:j∈(H.sh s).aj H.n)=>q3w hj);have bF:=LH (Sk H s);have bg:=LH (show(H.sh s).aj H.n=[]->H.fix s=H from fun e=>by unfold Hs.fix;rw[if_pos e]);have bf:=LH (show(H.sh s).aj H.n≠[]->H.fix s=H.aW s from fun e=>by unfold Hs.fix;rw[if_neg e]);have a9:=LH (wf.ids hs);have bx:=LH (Po wf hs);have aK:=LH (show(H.sh s).ids H.n=((H.sh s).aj H.n).map (fun j=>((H.sh s).nd j).id) from rfl);have bw:=LH (show((H.sh s).aj H.n).Nodup from X1 _ List.nodup_range);have HE:=LH he;unfold DS at HL;clear h wf he;generalize H.aW s=HR at *;generalize H.fix s=aL at *;generalize (H.sh s).ids H.n=ids at *;generalize (H.sh s).aj H.n=l at *;generalize bk:Xa ((H.sh s).ab+1)=d at *;unfold pw at *;go_enter Tryz.func45,Tryz.ntmps45;go_wp2_with fail;refine HL.o.mono ?_;rintro e w1 ⟨V,rfl,T,aG⟩;obtain⟨A,c,rfl,_,_⟩:=AK T;have ay:=LH T;have aN:=LH aG;have ai:=LH (HH.o.below aG);have t:=LH (fun b (hb:(Value.slice A l.length c).ownBlock=Bs b)=>HH.o.free (T.lt b hb).1);clear T aG HL;by_cases hl:l=[]
 ·have aB:l.length=0:=by rw[hl];rfl
  have aw:aL=H:=bg.o hl;have N:=LH (show Ch P own aL w w1 from by rw[aw];exact⟨own,ai.o,HZ.below own aN.o⟩);clear aw hl;rw[aB];go_wp2_with fail;refine bodyPost_ret (results_none rfl _ _ _) rfl ?_;exact⟨rfl,N.o⟩
 ·have aB:¬(l.length:Int)=0:=by cases l with|nil=>exact absurd rfl hl|cons a l=>simp;omega
  have bL:0<l.length:=by omega
  have bl:((l.length:Int) == 0)=Jx:=by simpa using aB
  have bD:=LH (bf.o hl);clear bg bf;obtain⟨vs,c2,c3,c4,c5,c6,c7,g,aa⟩:=ai.o.b8 hs;have f2:=g 2;have ac:=ai.o.setEp hs d;have a3:=LH ac.1;have b8:=LH ((HZ.below own aN.o).trans ac.2);have O:=LH (Qb ay.o t.o ac.2)

  clear ac c3 c4 c5 c6 c7 g hl;go_upto_region 3 with (fail)
  have aS:=a3.o.b8 hs;generalize (w1.setCell ⟨P.gs s,2,B0⟩ (.int .i64 d))=w2 at *;obtain⟨_,g2,_,_,_,_,_,_,bm⟩:=aS;rw[show((H.al s { H.sh s with ab:=d }).sh s).ab=d from by rw[Cj]] at g2;have ap:Ab (w2.alloc (.cells #[.int .i64 d,.slice B0 0 0] 148)) w2.heap.size 148 #[.int .i64 d,.slice B0 0 0]:=Ab.new w2 _ _;have bd:=LH (show own w2.heap.size=B0 from a3.o.free (L1 _));have bq:=LH (show Tf H s w2.heap.size l d w2 (.int .i64 0) (w2.alloc (.cells #[.int .i64 d,.slice B0 0 0] 148)) from
   ⟨0,_,rfl,VK _,ap,VY _ _ _ _,(S2 _ _).alloc (L1 _) _⟩)
  clear ap f2 aa c2 HH ai aN ay;go_wp2_with fail;clear g2 bm bk bl;generalize ao:w2.heap.size=E at *;have ah:=LH ao;clear ao;go_loopw [31] (Tf H s E l d w2) (fun v _=>l.length-(intOf v).toNat)
  case atStart=>exact bq.o
  case round=>
   obtain⟨q,Vc,rfl,hq,a1,z,J⟩:=hrel;by_cases bj:(q:Int)<l.length
   ·have I:q<l.length:=by omega
    have bi:q<=4:=by omega
    obtain⟨r,o,u,hA,hr,hu,aE⟩:=((Rd.au O.o).below (J.mono (by have:=ah.o;omega))).bQ (k:=q) I;have hx:l[q]? = Bs l[q]:=K0 I;rw[VT,hx] at hu;simp only[Wv,VN] at hu;subst hu hA;have bJ:r<wr.heap.size:=VH hr J.size;have aC:=HM.o l[q] (WE I);have af:=LH (show(l.take (q+1)).map (fun j=>Wi .i64 ((H.sh s).nd j).id)=(l.take q).map (fun j=>Wi .i64 ((H.sh s).nd j).id)++[Wi .i64 ((H.sh s).nd l[q]).id] from by rw[VV,hx,Xe];rfl);generalize l[q]=j at *;clear hx;obtain⟨C,V6,L,hN,_⟩:=(a3.o.below (J.mono (by have:=ah.o;omega)).drew).nd s j hs aC;have av:((((H.al s { H.sh s with ab:=d })).sh s).nd j).id=((H.sh s).nd j).id:=by rw[Cj]
    have a8:=Mj hN;rw[av] at a8;have bA:=LH a8;clear hN a8 av;obtain⟨A6,c6,rfl,_,_⟩:=AK z;have bb:=LH z;have bG:=LH J;have bc:=LH a1;have k1:=a1.cell 1;have kl:=a1.lt;simp only[Ft,D0,N2] at k1;clear z J a1;go_upto_region 7 with (fail)
    clear aE;refine nW ?_;refine CU (fun W=>W.cell? ⟨E,1,B0⟩=Bs (.slice A6 q c6)/\E<W.heap.size) 5 (fun _ _ _ _ _ h=>h) (fun ag=>?_);have S:wr.drew.cell? ⟨E,1,B0⟩=Bs (.slice A6 q c6)/\E<wr.drew.heap.size:=⟨k1,kl⟩
    refine nD 0 [1,5,6,7] ag S ?_;refine nA 1 [5,6,7] rfl rfl ag S (fun w' bh=>by obtain⟨p1,pl⟩:=bh;go_simp;rfl) ?_;refine nD 2 [3,4,5,6,7] ag S ?_;refine nG 3 (fun KK Y=>?_);go_simp;refine bA.o.mono ?_;rintro e w3 ⟨rfl,rfl⟩;go_simp;refine Y _ _ (fun _=>S) ?_;clear Y KK;refine nG 4 (fun KK Y=>?_);go_simp;refine Y _ _ (fun _=>⟨(WY wr _ ⟨E,1,B0⟩ kl).trans S.1,by have:=S.2;simp at this;simp;omega⟩) ?_;clear Y KK;refine nG 5 (fun KK Y=>?_);have al:E+1<=wr.drew.heap.size:=kl;have aT:q+1<=VZ/\(q+1)*8<=140737488355328:=⟨by unfold VZ;omega,by omega⟩
    refine TE wr.drew wr.heap.size rfl _ (.tmp 36) (.tmp 39) 26 rfl (E+1) 3 (.int .i64 0) 1 8 Tryz.underlying26 F7 rfl (by decide) _ _ _ #[.int .i64 ((H.sh s).nd j).id] rfl bb.o 1 rfl _ rfl rfl (by simp[Wy]) aT.1 aT.2 al ?_;intro V2 w8 p aV;have aF:VJ (E+1) wr w8:=(S2 wr (B:=E+1)).drew.trans (aV.below (fun b hb=>(bb.o.lt b hb).1) al);have D:Ab w8 E 148 #[.int .i64 d,.slice A6 q c6]:=(DV aF).ah bc.o (by omega);have y1:=D.cell 1;simp only[Ft,D0,N2] at y1;have yf:=D.frozen 1;have yl:=D.lt;have N:=LH (show Tf H s E l d w2 (.int .i64 ((q+1:Nat):Int)) (w8.setCell ⟨E,1,B0⟩ V2) from by
     have am:=Fr.ax E w8 1 V2;refine⟨q+1,V2,rfl,by omega,by simpa using D.aC 1 V2,?_,(bG.o.trans (aF.mono (W5 E))).trans (am.below (fun i (hi:i=E)=>by omega) (by omega))⟩;rw[af.o];exact am.own p (fun b hb e=>by have:=(p.lt b hb).1;omega))
    obtain⟨A9,c9,rfl,_,_⟩:=AK p;clear aF D p aV;go_simp;refine Y _ _ nZ ?_;clear Y KK;refine nG 6 (fun KK Y=>?_);go_simp;refine Y _ _ nZ ?_;clear Y KK;refine nG 7 (fun KK Y=>?_);go_simp;refine Y _ _ nZ ?_;clear Y KK;refine nX ?_;clear ag y1 yf yl k1 kl S;go_wp2_with fail;go_roundw
    ·exact N.o
    ·simp[intOf];omega
   ·obtain rfl:q=l.length:=by omega
    have ad:VJ w2.heap.size w2 wr:=J.mono (by have:=ah.o;omega);have aH:=a3.o.below ad;have b0:HZ BN w own wr own:=b8.o.trans (HZ.below own ad);have a5:=Qb O.o t.o (HZ.below (Z:=BN) own ad);rw[WR] at z;have ar:l.map (fun j=>Wi .i64 ((H.sh s).nd j).id)=ids.map (Wi .i64):=by rw[aK.o,List.map_map];rfl
    have au:ids.length=l.length:=by rw[aK.o,List.length_map]
    rw[ar] at z;have a6:=Lw (base':=0) z (VK _);have aD:∀ b,Vc.ownBlock=Bs b->own b=B0:=fun b hb=>a3.o.free (by have:=(z.lt b hb).1;have:=ah.o;omega)
    obtain⟨_,_,c3,_,_,_,_,g,aa⟩:=aH.b8 hs;rw[Cj] at c3;have f3:=g 3;have G:=aH.setSz hs (l.length:Nat);have b7:(H.al s { H.sh s with ab:=d }).al s { (H.al s { H.sh s with ab:=d }).sh s with size:=((l.length:Nat):Int) } = EL H s d l.length:=by rw[Cj,q2v];rfl
    rw[b7] at G;have bB:=LH G.1;have bo:=LH (b0.trans G.2);have bu:=LH (Qb a5 t.o G.2);have bt:=LH (Qb a6 aD G.2);have aZ:=Ik G.2 a1 bd.o;have bH:=LH aZ.1;have bC:=LH aD;have be:=LH au;obtain⟨A6,c6,rfl,_,_⟩:=AK a6;have aj:Wf (EL H s d l.length):=aI.o.ca rfl rfl (aI.o.tab s hs) (aI.o.sto s hs);have b9:=LH aj;have bv:=LH (show ∀ j,((EL H s d l.length).sh s).nd j=(H.sh s).nd j from fun j=>by unfold EL;rw[Cj]);have bE:=LH (show((EL H s d l.length).sh s).ab=d from by unfold EL;rw[Cj]);have aY:(EL H s d l.length).c=H.c/\(EL H s d l.length).n=H.n:=⟨rfl,rfl⟩
    have R:=LH aY;clear ad aH b0 a5 z ar au a6 aD g G b7 aZ aj aY a1 J a3 b8 O;generalize EL H s d l.length=HX at *;go_wp2_with fail;clear c3 f3 aa;generalize (wr.setCell ⟨P.gs s,3,B0⟩ (.int .i64 (l.length:Nat)))=w3 at *;go_loopw [50] (FiB P own HX s ids l w3) (fun v _=>l.length-(intOf v).toNat)
    case atStart=>exact⟨0,rfl,VK _,own,bB.o,HZ.refl _ _ _⟩
    case round=>
     obtain⟨q,rfl,hq,bI,a2,K⟩:=hrel;by_cases bj:(q:Int)<l.length
     ·have I:q<l.length:=by omega
      have bi:q<=4:=by omega
      obtain⟨r,c',hV,hr,u,hu,aE⟩:=Tw (Qb bu.o t.o K) (k:=q) I;injection hV with hA _ hcp;subst hA hcp;have hx:l[q]? = Bs l[q]:=K0 I;rw[VT,hx] at hu;simp only[Wv,VN] at hu;subst hu;have U:l[q]∈l:=WE I;have aC:=HM.o l[q] U;have br:=LH (Mh (s:=s) (ids:=ids) (H:=HX) hx);have aU:l[q] ∉ l.take q:=fun h=>by
       obtain⟨i,hi,e⟩:=List.mem_iff_getElem.1 h;rw[List.length_take] at hi;rw[List.getElem_take] at e;have:=(List.getElem_inj bw.o).1 e;omega
      have a7:=JK (s:=s) (ids:=ids) (l.take q) HX aU;have m:=q6w s ids (l.take q) HX;have f:Wf ((l.take q).foldl (Hs.ay s ids) HX):=Wf.bK a9.o (l.take q) b9.o (by rw[R.o.1];exact hs) (fun j hj=>by rw[R.o.2];exact HM.o j (List.mem_of_mem_take hj));have aq:((H.sh s).nd l[q]).id∈ids:=by rw[aK.o];exact List.mem_map.2 ⟨_,U,rfl⟩
      have aX:=HE.o l[q] U;generalize l[q]=j at *;generalize (l.take q).foldl (Hs.ay s ids) HX=H3 at *;have a0:s<H3.c:=by rw[m.2.1,R.o.1];exact hs
      have aW:j<H3.n:=by rw[m.1,R.o.2];exact aC
      have aA:(H3.sh s).nd j=(H.sh s).nd j:=a7.1.trans (bv.o j);have ax:(H3.sh s).ab=d:=a7.2.trans bE.o;have a4:=Qb bt.o bC.o K;have X:=(Ik K bH.o bd.o).1;have k0:=X.cell 0;have k1:=X.cell 1;have kl:=X.lt;simp only[Ft,D0,N2] at k0 k1;rw[<- be.o] at a4 k1;have aM:=LH (JV a2 a0 aW d ids A6 c6 a4 (by rw[aA];exact aX) (by have:=be.o;omega) bx.o (fun x hx=>FD (by have:=a9.o x hx;omega) (by have:=a9.o x hx;omega)) (by rw[aA];exact aq));have aQ:=q8s (M0 (f.nd s j a0 aW) d a9.o) (show s<3 by have:=f.c3;omega) (show j<4 by have:=f.n4;omega);have ba:=LH aQ;have bp:=LH f;have ae:=LH K;have bz:=LH (show Hs.ay s ids H3 j=(H3.an s j (((H3.sh s).nd j).join d ids).tick.1).send (((H3.sh s).nd j).join d ids).tick.2 from by unfold Hs.ay;rw[ax]);unfold pw at aM;clear hx U aU a7 m aq aX aA ax a4 X aQ f a2 K;go_wp2_with fail;refine aM.o.mono ?_;rintro e w5 ⟨V,rfl,ho,own4,b6,b3,an⟩;have aR:=q6y b6 ho (fun q hq=>by rcases an q hq with e|e <;> (rw[e];simp)) ba.o.2 (bp.o.an ba.o.1) (IM _);have aJ:=LH aR;have bn:=LH (ae.o.trans (b3.mono (fun _=>M8)));obtain⟨A7,kk,M,rfl,_⟩:=ho;unfold pw at aJ;clear aR an b6 b3 aM aE hr k0 k1 kl;go_wp2_with fail;refine aJ.o.mono ?_;rintro e w6 ⟨d6,aP,rfl,b5,b2⟩;have N:=LH (show FiB P own HX s ids l w3 (.int .i64 ((q+1:Nat):Int)) w6 from⟨q+1,rfl,by omega,aP,by rw[br.o,bz.o];exact b5,bn.o.trans (b2.mono (fun _=>q7z))⟩);clear b5 b2 aJ;go_wp2_with fail;go_roundw
      ·exact N.o
      ·simp[intOf];omega
     ·obtain rfl:q=l.length:=by omega
      rw[WR] at a2;have m:=q6w s ids l HX;have f:Wf (l.foldl (Hs.ay s ids) HX):=Wf.bK a9.o l b9.o (by rw[R.o.1];exact hs) (fun j hj=>by rw[R.o.2];exact HM.o j hj);generalize l.foldl (Hs.ay s ids) HX=H3 at *;have a0:s<H3.c:=by rw[m.2.1,R.o.1];exact hs
      obtain⟨v4,_,_,c4,c5,c6,c7,g,aa⟩:=a2.b8 a0;have f4:=g 4;have f5:=g 5;have f6:=g 6;have f7:=g 7;have az:=a2.reset a0;have ak:Wf (H3.al s { H3.sh s with tab:=fun _=>B0,sto:=fun _=>[],done:=0 }):=f.ca rfl rfl Dn.none_ Do.none_;have af:=LH (q9t az.1 ak a0);have ae:=LH ((bo.o.trans K).trans az.2);unfold pw qb2 at af;unfold qb2 at ae;clear m f g az ak a2 K;go_wp2_with fail;refine af.o.mono ?_;rintro e w9 ⟨rfl,aO,b4,b1⟩;have N:=LH (show Ch P own aL w w9 from⟨aO,by rw[bD.o,bF.o];exact b4,ae.o.trans (b1.mono (fun _=>QZ))⟩);clear b4 b1;go_wp2_with fail
      go_end0
      exact⟨rfl,N.o⟩
theorem HI.retag (h:HI w own P H) (c:Ai) (g:∀ b,c b≠B0->b<w.heap.size) (e:∀ b t,own b=Bs t->(∀ i,t≠.tx i/\t≠.sm i)->c b=Bs t)
  (f:∀ i,1<=i->i<=H.m->TH w c i (P.gt i) (H.tx i)):HI w c P H:=by
 refine⟨g,?_,fun s hs=>?_,fun s j hs l=>?_,f⟩
 ·obtain⟨v,h⟩:=h.hs;exact⟨v,h.nt,h.msgs,fun b d=>e b _ (h.aV b d) (fun i=>⟨by simp,by simp⟩),h.bf,h.shr,fun b d=>e b _ (h.bm b d) (fun i=>⟨by simp,by simp⟩),h.txr,fun b d=>e b _ (h.bh b d) (fun i=>⟨by simp,by simp⟩),e _ _ h.gt (fun i=>⟨by simp,by simp⟩)⟩
 ·obtain⟨v,h⟩:=h.sh s hs;exact⟨v,h.row,fun b d=>e b _ (h.br b d) (fun i=>⟨by simp,by simp⟩),h.dd,e _ _ h.c5 (fun i=>⟨by simp,by simp⟩),h.tab,fun b d=>e b _ (h.bq b d) (fun i=>⟨by simp,by simp⟩),h.sto,fun b d=>e b _ (h.b6 b d) (fun i=>⟨by simp,by simp⟩),e _ _ h.gt (fun i=>⟨by simp,by simp⟩)⟩
 ·obtain⟨C,V,L,o,m⟩:=h.nd s j hs l;exact⟨C,V,L,o,fun b d=>e b _ (m b d) (fun i=>⟨by simp,by simp⟩)⟩
def smOn (own:Ai) (c i:Nat):Ai:=fun b=>if b=c then Bs (.sm i) else own b
def smOff (own:Ai) (i:Nat):Ai:=fun b=>if own b=Bs (.sm i) then Bs (.tx i) else own b
theorem HI.b7 (h:HI w own P H) {i:Nat} (I:1<=i) (G:i<=H.m) {v:KN} (d:Cx w own i (P.gt i) v (H.tx i)):HI w (Go.Proofs.YtccahlhdifadfaaGreatDoor.smOn own v.bs i) P H:=by
 have m:∀ b t,own b=Bs t->t≠.tx i->t≠.sm i->Go.Proofs.YtccahlhdifadfaaGreatDoor.smOn own v.bs i b=Bs t:=fun b t e q n2=>by
  unfold Go.Proofs.YtccahlhdifadfaaGreatDoor.smOn;rw[if_neg]
  ·exact e
  ·rintro rfl;rcases d.st with o|o <;> (rw[e] at o;injection o with o)
   ·exact q o
   ·exact n2 o
 obtain⟨q,n2,z,E,s,D,r,C⟩:=d.aQ;have c:∀ b,b≠v.bs->Go.Proofs.YtccahlhdifadfaaGreatDoor.smOn own v.bs i b=own b:=fun b f=>by unfold Go.Proofs.YtccahlhdifadfaaGreatDoor.smOn;rw[if_neg f]
 refine h.retag _ (fun b f=>?_) (fun b t e l=>m b t e (l i).1 (l i).2) (fun j B A=>?_)
 ·by_cases e:b=v.bs
  ·rw[e];exact d.ad.lt
  ·rw[c b e] at f;exact h.lt b f
 ·by_cases e:j=i
  ·subst e;exact⟨v,d.ah,d.aa,d.ad,d.places,d.af,d.ne,by rw[c _ (fun e=>z e.symm)];exact d.gt,fun b f=>by rw[c _ (fun e=>s (by rw[f,e]))];exact d.wt b f,
    .inr (by unfold Go.Proofs.YtccahlhdifadfaaGreatDoor.smOn;rw[if_pos rfl]),by rw[c _ (fun e=>d.ne e.symm)];exact d.pt,fun b f=>by rw[c _ (fun e=>r (by rw[f,e]))];exact d.xt b f⟩
  ·obtain⟨u,g⟩:=h.tx j B A;have l:∀ b,own b=Bs (.tx j)->Go.Proofs.YtccahlhdifadfaaGreatDoor.smOn own v.bs i b=Bs (.tx j):=fun b p=>m b _ p (by simp[e]) (by simp)
   exact⟨u,g.ah,g.aa,g.ad,g.places,g.af,g.ne,l _ g.gt,fun b f=>l b (g.wt b f),g.st.imp (l _) (fun p=>m _ _ p (by simp) (by simp[e])),l _ g.pt,fun b f=>l b (g.xt b f)⟩
theorem HI.bc (h:HI w own P H) (i:Nat):HI w (Go.Proofs.YtccahlhdifadfaaGreatDoor.smOff own i) P H:=by
 have g:∀ b t,own b=Bs t->t≠.sm i->Go.Proofs.YtccahlhdifadfaaGreatDoor.smOff own i b=Bs t:=fun b t e n=>by
  unfold Go.Proofs.YtccahlhdifadfaaGreatDoor.smOff;rw[if_neg,e];rw[e];intro h;injection h with h;exact n h
 refine h.retag _ (fun b f=>?_) (fun b t e d=>g b t e (d i).2) (fun j o m=>?_)
 ·unfold Go.Proofs.YtccahlhdifadfaaGreatDoor.smOff at f;split at f
  ·rename_i e;exact h.lt b (by rw[e];simp)
  ·exact h.lt b f
 ·obtain⟨u,c⟩:=h.tx j o m;have d:∀ b,own b=Bs (.tx j)->Go.Proofs.YtccahlhdifadfaaGreatDoor.smOff own i b=Bs (.tx j):=fun b p=>g b _ p (by simp)
  refine⟨u,c.ah,c.aa,c.ad,c.places,c.af,c.ne,d _ c.gt,fun b f=>d b (c.wt b f),?_,d _ c.pt,fun b f=>d b (c.xt b f)⟩;rcases c.st with e|e
  ·exact .inl (d _ e)
  ·by_cases l:j=i
   ·subst l;exact .inl (by unfold Go.Proofs.YtccahlhdifadfaaGreatDoor.smOff;rw[if_pos e])
   ·exact .inr (g _ _ e (by simp[l]))
theorem AA.bc {c i:Nat} (p:El own) (r:own c=Bs (.tx i)) {f:Ai} (h:AA w (Go.Proofs.YtccahlhdifadfaaGreatDoor.smOn own c i) w' f) (q:c<w.heap.size):AA w own w' (Go.Proofs.YtccahlhdifadfaaGreatDoor.smOff f i):=by
 have d:∀ b,b≠c->Go.Proofs.YtccahlhdifadfaaGreatDoor.smOn own c i b=own b:=fun b m=>by unfold Go.Proofs.YtccahlhdifadfaaGreatDoor.smOn;rw[if_neg m]
 have g:Go.Proofs.YtccahlhdifadfaaGreatDoor.smOn own c i c=Bs (.sm i):=by unfold Go.Proofs.YtccahlhdifadfaaGreatDoor.smOn;rw[if_pos rfl]
 refine⟨fun b m=>?_,h.fr.mono (fun b _ ⟨t,e,o⟩=>?_),fun b j e=>?_⟩
 ·unfold Go.Proofs.YtccahlhdifadfaaGreatDoor.smOff;rw[h.ext b m];by_cases e:b=c
  ·subst e;rw[g,if_pos rfl,r]
  ·rw[d b e,if_neg (p b i)]
 ·by_cases l:b=c
  ·subst l;rw[g] at e;injection e with e;subst e;exact absurd rfl (o.2.2 i)
  ·rw[d b l] at e;exact⟨t,e,o⟩
 ·exfalso;unfold Go.Proofs.YtccahlhdifadfaaGreatDoor.smOff at e;split at e
  ·cases e
  ·rename_i s;have:=h.sm b j e;by_cases l:b=c
   ·subst l;rw[g] at this;injection this with this;injection this with this;subst this;exact s e
   ·rw[d b l] at this;exact p b j this
theorem Ot {s:Nat} (h:HI w own P H) (hs:s<H.c):VX Tryz.prog 59 #[pw (P.gs s)] w fun e w'=>e=.returned (.int .i64 (H.sh s).size)/\w=w':=by
 obtain⟨v,_,c,_,_,_,_,_,b⟩:=h.b8 hs;clear h;unfold pw;go_enter Tryz.func59,Tryz.ntmps59;go_wp2_with fail;go_ret;exact⟨rfl,rfl⟩
end
def Ks (H:Hs) (i:Nat):Prop:=∃ k∈(H.tx i).ai,(H.tx i).ad k≠Bs (H.sh k).ab
theorem Lg {H:Hs} {i:Nat} (c:(H.tx i).state=1) (b:Ks H i):H.a5 i=H.abort i:=by unfold Hs.a5;rw[if_pos ⟨c,b⟩]
theorem Om {H:Hs} {i:Nat} (h:¬((H.tx i).state=1/\Ks H i)):H.a5 i=H:=by unfold Ks at h;unfold Hs.a5;rw[if_neg h]
theorem q91 (H:Hs) (q:Nat):(WG 1 (q+1)).foldl Hs.a5 H=((WG 1 q).foldl Hs.a5 H).a5 (q+1):=by
 rw[List.range'_1_concat,WS];show Hs.a5 _ (1+q)=_;rw[Nat.add_comm 1 q]
theorem SM (H:Hs) (i s:Nat):((H.abort i).sh s).ab=(H.sh s).ab:=by
 have d:∀ (ks:List Nat) (H:Hs),((telld H i 4 ks).sh s).ab=(H.sh s).ab:=by
  intro ks;induction ks with
  | nil=>intro H;rfl
  | cons k ks b=>
   intro H;refine(b (H.a7 i 4 k)).trans ?_;cases c:H.head k with
   | none=>rw[TC c]
   | some j=>
    rw[TD c];split
    ·unfold Hs.add;split
     ·rfl
     ·have h:=BF.take ((H.an k j (((H.sh k).nd j).add (tellC H i 4) Jx).1.1).send (((H.sh k).nd j).add (tellC H i 4) Jx).1.2) k;by_cases e:s=k
      ·subst e;rw[h.ab];show((Ae H.sh s _ s)).ab=_;rw[Ay]
      ·rw[h.sh s e];show((Ae H.sh k _ s)).ab=_;rw[AF e]
    ·rfl
 have f:∀ (ks:List Nat) (H:Hs),((reld H i ks).sh s).ab=(H.sh s).ab:=by
  intro ks;induction ks with
  | nil=>intro H;rfl
  | cons k ks b=>
   intro H;refine(b (H.rel k i)).trans ?_;show(Ae H.sh k _ s).ab=_;by_cases e:s=k
   ·subst e;rw[Ay]
   ·rw[AF e]
 rw[Tu];exact(d _ _).trans (f _ _)
end Go.Proofs.YtccahlhdifadfaaGreatDoor
