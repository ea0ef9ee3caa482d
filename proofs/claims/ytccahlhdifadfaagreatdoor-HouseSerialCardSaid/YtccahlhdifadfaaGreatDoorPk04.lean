/- Part 5 of the texts that the claim rests on (of 9): HsS, Pc1, Pc2, Pc3, HfF, HfG, HfH, HfI, HfJ, HfK, HfL, HfM, HfN, HfP, HfQ, Pd1, Pd2, Pe1, Pf1, HfR. -/
import Derived.Test.YtccahlhdifadfaaGreatDoorPk03
import Derived.StillTailTactics
namespace Go.Proofs.YtccahlhdifadfaaGreatDoor
open Go.RowKit
open _root_.And renaming intro → Wm
open _root_.Bool renaming false → Jx, true → T2, and_eq_true → Wq, eq_iff_iff → XI, false_eq_true → XY, not_eq_true' → X7, false_or → YE, or_eq_false_iff → YM, eq_false_iff → Zd
open _root_.Go renaming World → B1, Value → Hi, Calls → VX, maxLen → VZ, Ending → WA, wp_region_still_tail → XM
open _root_.Go.Act renaming eval → Xg
open _root_.Go.IntWalk renaming wrap64_in → Xq
open _root_.Go.RowKit renaming Below → VJ, wrap64 → Xa
open _root_.Go.RowKit.Below renaming refl → S2
open _root_.Go.Value renaming int → Wi, oneCell' → Wy
open _root_.Go.World renaming block_lt_of_cell? → V0, cell?_alloc_lt → WY, drew → Ym
open _root_.Iff renaming rfl → Yr
open _root_.Int renaming le_refl → Xk
open _root_.List renaming getElem?_cons_zero → D0, getElem?_toArray → Ft, getElem?_eq_getElem → K0, getElem?_cons_succ → N2, mem_of_getElem? → O0, mem_cons_self → VL, mem_cons_of_mem → VM, length_append → VP, findIdx?_eq_some_iff_getElem → VR, prefix_refl → VS, getElem?_map → VT, take_add_one → VV, mem_singleton → VW, getElem?_append_left → Wc, getElem?_append_right → Wd, length_map → Wh, findIdx?_eq_none_iff → Wk, take_append_of_le_length → Wp, mem_of_mem_take → WB, getElem_mem → WE, range' → WG, take_length → WR, foldl_append → WS, mem_of_find?_eq_some → WT, take_succ_cons → WU, drop_succ_cons → Xd, map_append → Xe, map_cons → Xt, drop_eq_getElem_cons → Xz, mem_of_mem_eraseIdx → XF, take_zero → XN, mem_range'_1 → X2, filter_congr → X3, eraseIdx_eq_take_drop_succ → Yo, drop_zero → Yt, nodup_cons → YZ
open _root_.List.Pairwise renaming filter → X1, nil → Yj
open _root_.Nat renaming le_refl → L1, lt_of_lt_of_le → VH, zero_le → VK, le_trans → VO, le_of_lt → Yh
open _root_.Option renaming some → Bs, none → B0, map_some → Wv
open _root_.Option.some renaming injEq → VN
set_option linter.all false
set_option maxRecDepth 100000
set_option maxHeartbeats 16000000
structure Sm (H H':Hs):Prop where
 n:H'.n=H.n
 c:H'.c=H.c
 m:H'.m=H.m
theorem Sm.refl (H:Hs):Sm H H:=⟨rfl,rfl,rfl⟩
theorem Sm.trans {A B C:Hs} (h:Sm A B) (k:Sm B C):Sm A C:=⟨k.n.trans h.n,k.c.trans h.c,k.m.trans h.m⟩
theorem Sm.add (H:Hs) (s j:Nat) (c:Cm) (b:Bool):Sm H (H.add s j c b).2:=⟨(EW H s j c b).1,(EW H s j c b).2.1,(EW H s j c b).2.2.1⟩
theorem Sm.aM (H:Hs) (i:Nat) (kind:Int):Sm H (H.aM i kind):=⟨(Uu i kind _ H).1,(Uu i kind _ H).2.1,(Uu i kind _ H).2.2.1⟩
theorem Nc (H:Hs) (i:Nat):Sm H (H.abort i)/\(H.abort i).ae=H.ae/\∀ a,((H.abort i).tx a).state=(if a=i then 4 else(H.tx a).state)/\((H.abort i).tx a).aa=(H.tx a).aa/\((H.abort i).tx a).ad=(H.tx a).ad/\((H.abort i).tx a).places=(H.tx a).places/\((H.abort i).tx a).ae=(H.tx a).ae:=by
 rw[Tu];obtain⟨a1,a2,v,u,t⟩:=Rm i (H.tx i).ai (H.aq i);obtain⟨b1,b2,r,q,p⟩:=Uu i 4 ((reld (H.aq i) i (H.tx i).ai).tx i).ai (reld (H.aq i) i (H.tx i).ai);refine⟨⟨b1.trans a2,b2.trans a1,r.trans v⟩,q.trans u,fun a=>?_⟩;obtain⟨n,m,l,g,f⟩:=t a;obtain⟨d1,d2,d,c,b⟩:=p a;have o:∀ a,((H.aq i).tx a)=if a=i then { H.tx i with state:=4,af:=[] } else H.tx a:=fun a=>rfl
 have e:=o a;by_cases h:a=i
 ·subst h;rw[if_pos rfl] at e;rw[if_pos rfl];exact⟨d1.trans (n.trans (by rw[e])),d2.trans (m.trans (by rw[e])),d.trans (l.trans (by rw[e])),c.trans (g.trans (by rw[e])),b.trans (f.trans (by rw[e]))⟩
 ·rw[if_neg h] at e;rw[if_neg h];exact⟨d1.trans (n.trans (by rw[e])),d2.trans (m.trans (by rw[e])),d.trans (l.trans (by rw[e])),c.trans (g.trans (by rw[e])),b.trans (f.trans (by rw[e]))⟩
theorem q1v (H:Hs) (i k:Nat) (a:Int) (x:Nat):((H.aA i k a).tx x).state=(H.tx x).state:=by
 show(Ae H.tx i _ x).state=_;by_cases e:x=i
 ·subst e;rw[Ay]
 ·rw[AF e]
structure E1 (H:Hs) (i:Nat) (r:Hs×Option Bool):Prop where
 sm:Sm H r.1
 other:∀ a,a≠i->(r.1.tx a).state=(H.tx a).state
 o:r.2=B0->(r.1.tx i).state=4
 on:r.2≠B0->(r.1.tx i).state=(H.tx i).state
theorem q7v (H:Hs) (i k:Nat) (b:Bool):E1 H i (H.aD i k b):=by
 have l:∀ c:Hs,Sm H c->(∀ a,(c.tx a).state=(H.tx a).state)->E1 H i (c.abort i,B0):=fun c q o=>by
  obtain⟨u,_,t⟩:=Nc c i;refine⟨q.trans u,fun a n=>?_,fun _=>?_,fun h=>absurd rfl h⟩
  ·show((c.abort i).tx a).state=_;rw[(t a).1,if_neg n,o]
  ·show((c.abort i).tx i).state=4;rw[(t i).1,if_pos rfl]
 have d:∀ (c:Hs) (x:Bool),Sm H c->(∀ a,(c.tx a).state=(H.tx a).state)->E1 H i (c,Bs x):=fun c x q o=>⟨q,fun a _=>o a,fun h=>(by cases h),fun _=>o i⟩
 cases f:H.head k with
 | none=>rw[q76 f];exact d H Jx (Sm.refl H) (fun _=>rfl)
 | some j=>
  cases g:place ((H.sh k).nd j).log 2 i with
  | some p=>rw[q5r f g];exact d _ _ ⟨rfl,rfl,rfl⟩ (q1v H i k p)
  | none=>
   by_cases m:DF H i k
   ·by_cases r:(H.tx i).ae=0
    ·rw[q79 f g m r];exact l H (Sm.refl H) (fun _=>rfl)
    ·rw[q78 f g m r];exact d H Jx (Sm.refl H) (fun _=>rfl)
   ·have hs:=EW H k j ⟨2,i,0,(H.tx i).of k⟩ b;by_cases n:(H.add k j ⟨2,i,0,(H.tx i).of k⟩ b).1<0
    ·rw[q77 f g m n];exact l _ (Sm.add _ _ _ _ _) (fun a=>(hs.2.2.2.2 a).1)
    ·rw[q8i f g m n];exact d _ _ ((Sm.add H k j _ b).trans ⟨rfl,rfl,rfl⟩) (fun a=>(q1v _ i k _ a).trans (hs.2.2.2.2 a).1)
theorem Wf.aD {H:Hs} (h:Wf H) (o:H.c=3) {i k:Nat} (f:1<=i) (d:i<=H.m) (n:k<2) (b:Bool):Wf (H.aD i k b).1:=by
 cases a:H.head k with
 | none=>rw[q76 a];exact h
 | some j=>
  cases c:place ((H.sh k).nd j).log 2 i with
  | some p=>rw[q5r a c];exact h.aA f d n p
  | none=>
   by_cases g:DF H i k
   ·by_cases m:(H.tx i).ae=0
    ·rw[q79 a c g m];exact h.abort o f d
    ·rw[q78 a c g m];exact h
   ·have hs:=EW H k j ⟨2,i,0,(H.tx i).of k⟩ b;have l:=h.add (s:=k) (by omega) (q59 a) (h.bX f d k) b;by_cases q:(H.add k j ⟨2,i,0,(H.tx i).of k⟩ b).1<0
    ·rw[q77 a c g q];exact l.abort (by rw[hs.2.1];exact o) f (by rw[hs.2.2.1];exact d)
    ·rw[q8i a c g q];exact l.aA f (by rw[hs.2.2.1];exact d) n _
theorem q4t (i:Nat) (b:Nat->Bool):∀ (ks:List Nat) (H:Hs) (c:Bool),E1 H i (Hs.az i b ks H c)
 | [],H,c=>⟨Sm.refl H,fun _ _=>rfl,fun h=>(by cases h),fun _=>rfl⟩
 | k::ks,H,c=>by
  have d:=q7v H i k (b k);show E1 H i (match (H.aD i k (b k)).2 with|none=>((H.aD i k (b k)).1,B0)|some a=>Hs.az i b ks (H.aD i k (b k)).1 (c && a));cases e:(H.aD i k (b k)).2 with
  | none=>exact⟨d.sm,d.other,fun _=>d.o e,fun h=>absurd rfl h⟩
  | some a=>
   have f:=q4t i b ks (H.aD i k (b k)).1 (c && a);exact⟨d.sm.trans f.sm,fun x g=>(f.other x g).trans (d.other x g),f.o,fun h=>(f.on h).trans (d.on (by rw[e];simp))⟩
theorem Wf.az {i:Nat} {b:Nat->Bool} (f:1<=i):∀ (ks:List Nat) {H:Hs} (c:Bool),Wf H->H.c=3->i<=H.m->(∀ k∈ks,k<2)->Wf (Hs.az i b ks H c).1
 | [],H,c,h,_,_,_=>h
 | k::ks,H,c,h,hc,hi,hk=>by
  have g:=q7v H i k (b k);have d:=h.aD hc f hi (hk k (VL ..)) (b k);show Wf (match (H.aD i k (b k)).2 with|none=>((H.aD i k (b k)).1,B0)|some a=>Hs.az i b ks (H.aD i k (b k)).1 (c && a)).1;cases e:(H.aD i k (b k)).2 with
  | none=>exact d
  | some a=>exact Wf.az f ks _ d (g.sm.c.trans hc) (by rw[g.sm.m];exact hi) (fun x l=>hk x (VM _ l))
theorem q4f (H:Hs) (i a:Nat):((H.timed i).tx a).state=(H.tx a).state:=by
 unfold Hs.timed;split
 ·show(Ae H.tx i _ a).state=_;by_cases e:a=i
  ·subst e;rw[Ay]
  ·rw[AF e]
 ·rfl
theorem q85 (H:Hs) (i a:Nat):((H.commit i).tx a).state=if a=i then 3 else(H.tx a).state:=by
 have h:=((Uu i 3 ((H.a3 i 3).tx i).ai (H.a3 i 3)).2.2.2.2 a).1;show((telld (H.a3 i 3) i 3 ((H.a3 i 3).tx i).ai).tx a).state=_;rw[h];show(Ae H.tx i _ a).state=_;by_cases e:a=i
 ·subst e;rw[Ay,if_pos rfl]
 ·rw[AF e,if_neg e]
theorem Sm.commit (H:Hs) (i:Nat):Sm H (H.commit i):=(⟨rfl,rfl,rfl⟩:Sm H (H.a3 i 3)).trans (Sm.aM _ _ _)
structure D1 (H:Hs) (i:Nat) (r:Hs×Bool):Prop where
 sm:Sm H r.1
 other:∀ a,a≠i->(r.1.tx a).state=(H.tx a).state
 yes:r.2=T2->(r.1.tx i).state≠2
 no:r.2=Jx->(r.1.tx i).state=(H.tx i).state
theorem qck (H:Hs) (i:Nat) (b:Bool):D1 H i (H.aB i b):=by
 have d:∀ c:Hs,Sm H c->(∀ a,(c.tx a).state=(H.tx a).state)->D1 H i (c,Jx):=fun c q m=>⟨q,fun a _=>m a,fun h=>(by cases h),fun _=>m i⟩
 have l:∀ c:Hs,Sm H c->(∀ a,(c.tx a).state=(H.tx a).state)->D1 H i (c.commit i,T2):=fun c q m=>by
  refine⟨q.trans (Sm.commit c i),fun a t=>?_,fun _=>?_,fun h=>(by cases h)⟩
  ·show((c.commit i).tx a).state=_;rw[q85,if_neg t,m]
  ·show((c.commit i).tx i).state≠2;rw[q85,if_pos rfl];decide
 cases o:H.head 2 with
 | none=>rw[q7a o];exact d H (Sm.refl H) (fun _=>rfl)
 | some j=>
  cases r:place ((H.sh 2).nd j).log 3 i with
  | some p=>
   rw[q8j o r];split
   ·exact d H (Sm.refl H) (fun _=>rfl)
   ·exact l H (Sm.refl H) (fun _=>rfl)
  | none=>
   rw[qcl o r];have n:=Ro H i;have hs:=EW (H.timed i) 2 j ⟨3,i,((H.timed i).tx i).ae,[]⟩ b;have g:Sm H ((H.timed i).add 2 j ⟨3,i,((H.timed i).tx i).ae,[]⟩ b).2:=(⟨n.1,n.2.1,n.2.2.1⟩:Sm H (H.timed i)).trans (Sm.add _ _ _ _ _);have f:∀ a,(((H.timed i).add 2 j ⟨3,i,((H.timed i).tx i).ae,[]⟩ b).2.tx a).state=(H.tx a).state:=fun a=>((hs.2.2.2.2 a).1).trans (q4f H i a)
   split
   ·exact d _ g f
   ·split
    ·exact d _ g f
    ·exact l _ g f
theorem Wf.aB {H:Hs} (h:Wf H) (n:H.c=3) {i:Nat} (d:1<=i) (c:i<=H.m) (b:Bool):Wf (H.aB i b).1:=by
 cases f:H.head 2 with
 | none=>rw[q7a f];exact h
 | some j=>
  cases m:place ((H.sh 2).nd j).log 3 i with
  | some p=>
   rw[q8j f m];split
   ·exact h
   ·exact h.commit n d c
  | none=>
   rw[qcl f m];have a:=Ro H i;have l:=q59 f;have g:=(h.timed d c).add (s:=2) (j:=j) (by rw[a.2.1];omega) (by rw[a.1];exact l) ((h.timed d c).de d (by rw[a.2.2.1];exact c)) b;have hs:=EW (H.timed i) 2 j ⟨3,i,((H.timed i).tx i).ae,[]⟩ b;split
   ·exact g
   ·split
    ·exact g
    ·exact g.commit (by rw[hs.2.1,a.2.1];exact n) d (by rw[hs.2.2.1,a.2.2.1];exact c)
theorem MA (H:Hs) (i:Nat) (b:Nat->Bool) (d:(H.tx i).state=2):D1 H i (H.ends i b):=by
 have f:=q4t i b (H.tx i).ai H T2;cases e:(Hs.az i b (H.tx i).ai H T2).2 with
 | none=>
  rw[q75 (show _=((Hs.az i b (H.tx i).ai H T2).1,B0) from by rw[<- e])];exact⟨f.sm,f.other,fun _=>by show(((Hs.az i b (H.tx i).ai H T2).1).tx i).state≠2;rw[f.o e];decide,fun h=>(by cases h)⟩
 | some a=>
  cases a with
  | false=>
   rw[q5p (show _=((Hs.az i b (H.tx i).ai H T2).1,Bs Jx) from by rw[<- e])];exact⟨f.sm,f.other,fun h=>(by cases h),fun _=>f.on (by rw[e];simp)⟩
  | true=>
   rw[q74 (show _=((Hs.az i b (H.tx i).ai H T2).1,Bs T2) from by rw[<- e])];have g:=qck (Hs.az i b (H.tx i).ai H T2).1 i (b 2);exact⟨f.sm.trans g.sm,fun x c=>(g.other x c).trans (f.other x c),g.yes,fun h=>(g.no h).trans (f.on (by rw[e];simp))⟩
theorem Wf.ends {H:Hs} (h:Wf H) (g:H.c=3) {i:Nat} (l:1<=i) (d:i<=H.m) (b:Nat->Bool):Wf (H.ends i b).1:=by
 have f:=q4t i b (H.tx i).ai H T2;have c:=Wf.az (b:=b) l (H.tx i).ai T2 h g d (fun k m=>DI m);cases e:(Hs.az i b (H.tx i).ai H T2).2 with
 | none=>rw[q75 (show _=((Hs.az i b (H.tx i).ai H T2).1,B0) from by rw[<- e])];exact c
 | some a=>
  cases a with
  | false=>rw[q5p (show _=((Hs.az i b (H.tx i).ai H T2).1,Bs Jx) from by rw[<- e])];exact c
  | true=>
   rw[q74 (show _=((Hs.az i b (H.tx i).ai H T2).1,Bs T2) from by rw[<- e])];exact c.aB (f.sm.c.trans g) l (by rw[f.sm.m];exact d) _
theorem q3d (H:Hs) (i:Nat) (b:Nat->Bool):D1 H i (H.ar i b)/\((H.ar i b).2=T2->(H.tx i).state=2):=by
 unfold Hs.ar;have c:∀ kind,D1 H i (H.aM i kind,Jx):=fun kind=>⟨Sm.aM H i kind,fun a _=>((Uu i kind _ H).2.2.2.2 a).1,fun h=>(by cases h),fun _=>((Uu i kind _ H).2.2.2.2 i).1⟩
 split
 ·rename_i d;exact⟨MA H i b d,fun _=>d⟩
 ·split
  ·exact⟨c 3,fun h=>(by cases h)⟩
  ·split
   ·exact⟨c 4,fun h=>(by cases h)⟩
   ·exact⟨⟨Sm.refl H,fun _ _=>rfl,fun h=>(by cases h),fun _=>rfl⟩,fun h=>(by cases h)⟩
theorem Wf.ar {H:Hs} (h:Wf H) (c:H.c=3) {i:Nat} (d:1<=i) (a:i<=H.m) (b:Nat->Bool):Wf (H.ar i b).1:=by
 unfold Hs.ar;split
 ·exact h.ends c d a b
 ·split
  ·exact h.aM c d a 3
  ·split
   ·exact h.aM c d a 4
   ·exact h
def OA (H:Hs):Nat:=((WG 1 H.m).filter fun a=>decide ((H.tx a).state=2)).length
theorem I2 (H:Hs) {i:Nat} (c:1<=i) (d:i<=H.m) (b:Nat->Bool):((H.ar i b).2=Jx->OA (H.ar i b).1=OA H)/\((H.ar i b).2=T2->OA (H.ar i b).1+1=OA H):=by
 obtain⟨f,g⟩:=q3d H i b;unfold OA;rw[f.sm.m];constructor
 ·intro h;congr 1;apply X3;intro a _;by_cases e:a=i
  ·subst e;rw[f.no h]
  ·rw[f.other a e]
 ·intro h;refine(q7t (i:=i) (by simp[f.yes h]) (by simp[g h]) List.nodup_range' (List.mem_range'_1.2 ⟨c,by omega⟩) (fun k _ e=>by rw[f.other k e])).symm
theorem qb1 (bs:Nat->Nat->Bool):∀ (k i:Nat) (r:Hs×Bool),Hs.round bs (k+1) i r=(((Hs.round bs k i r).1.ar (i+k) (bs (i+k))).1,((Hs.round bs k i r).1.ar (i+k) (bs (i+k))).2 || (Hs.round bs k i r).2)
 | 0,i,r=>rfl
 | k+1,i,r=>by
  have:=qb1 bs k (i+1) ((r.1.ar i (bs i)).1,(r.1.ar i (bs i)).2 || r.2);show Hs.round bs (k+1) (i+1) _=_;rw[this,show i+1+k=i+(k+1) by omega];rfl
theorem q97 {bs bs':Nat->Nat->Bool} : ∀ (k i:Nat) (r:Hs×Bool),(∀ a,i<=a->a<i+k->bs a=bs' a)->Hs.round bs k i r=Hs.round bs' k i r
 | 0,_,_,_=>rfl
 | k+1,i,r,h=>by
  show Hs.round bs k (i+1) ((r.1.ar i (bs i)).1,_)=Hs.round bs' k (i+1) ((r.1.ar i (bs' i)).1,_);rw[h i (L1 _) (by omega)];exact q97 k (i+1) _ (fun a c b=>h a (by omega) (by omega))
def Lv (H:Hs) (s j:Nat):Prop:=j<H.n/\(H.sh s).ak ((H.sh s).nd j).id=Jx
theorem q2l {H:Hs} {s j:Nat} : j∈(H.sh s).aj H.n↔Lv H s j:=by simp[Bg.aj,Lv]
def Cv (s j:Nat):Int:=10*s+j
def lg (H:Hs) (s j:Nat):List Cm:=((H.sh s).nd j).log
structure Cfg (H:Hs) (s:Nat) (L:List Nat):Prop where
 sorted:L.Pairwise (· < ·)
 lt:∀ j∈L,j<H.n
 mem:∀ j,Lv H s j->j∈L
 nd:∀ j,Lv H s j->((H.sh s).nd j).ab=(H.sh s).ab/\((H.sh s).nd j).nodes=L.map (Cv s)/\∃ p,L[p]? = Bs j/\((H.sh s).nd j).at_=(p:Nat)
structure VA (H:Hs) (s j:Nat) (m:Ms):Prop where
 ep:m.ab<=(H.sh s).ab
 fwd:m.ab=(H.sh s).ab->m.ag=3->∃ k:Nat,m.n=k/\(lg H s j)[k]? = Bs m.cmd
 st:m.ab=(H.sh s).ab->m.ag=4->∀ i,Lv H s i->m.n<=(lg H s i).length
structure BQ (H:Hs):Prop where
 n4:H.n<=4
 ids:∀ s j,s<H.c->j<H.n->((H.sh s).nd j).id=Cv s j
 cfg:∀ s,s<H.c->∃ L,Cfg H s L
 pre:∀ s,s<H.c->∀ i j,i<=j->Lv H s i->Lv H s j->lg H s j <+: lg H s i
 st:∀ s,s<H.c->∀ i j,Lv H s i->Lv H s j->((H.sh s).nd i).ao<=(lg H s j).length
 dn:∀ s j,s<H.c->j<H.n->H.net.ak (Cv s j)=(H.sh s).ak (Cv s j)
 ms:∀ m∈H.net.l,H.net.ak m.from_=Jx/\H.net.ak m.a4=Jx/\∃ s j,s<H.c/\j<H.n/\m.from_=Cv s j/\VA H s j m
theorem Hc {s j t i:Nat} (a:j<10) (b:i<10) (h:Cv s j=Cv t i):s=t/\j=i:=by unfold Cv at h;omega
structure Bf (H H':Hs):Prop where
 n:H'.n=H.n
 c:H'.c=H.c
 net:H'.net=H.net
 nd:∀ s,(H'.sh s).nd=(H.sh s).nd
 ak:∀ s,(H'.sh s).ak=(H.sh s).ak
 ab:∀ s,(H'.sh s).ab=(H.sh s).ab
theorem Bf.refl (H:Hs):Bf H H:=⟨rfl,rfl,rfl,fun _=>rfl,fun _=>rfl,fun _=>rfl⟩
theorem Bf.trans {A B C:Hs} (h:Bf A B) (k:Bf B C):Bf A C:=
 ⟨k.n.trans h.n,k.c.trans h.c,k.net.trans h.net,fun s=>(k.nd s).trans (h.nd s),fun s=>(k.ak s).trans (h.ak s),fun s=>(k.ab s).trans (h.ab s)⟩
section
variable {H H':Hs}
theorem Bf.lv (h:Bf H H') {s j:Nat} : Lv H' s j↔Lv H s j:=by unfold Lv;rw[h.n,h.ak,h.nd]
theorem Bf.lg (h:Bf H H') (s j:Nat):lg H' s j=lg H s j:=by unfold Go.Proofs.YtccahlhdifadfaaGreatDoor.lg;rw[h.nd]
theorem Bf.cfg (h:Bf H H') {s:Nat} {L:List Nat} (k:Cfg H s L):Cfg H' s L:=
 ⟨k.sorted,by rw[h.n];exact k.lt,fun j a=>k.mem j (h.lv.1 a),fun j a=>by rw[h.nd,h.ab];exact k.nd j (h.lv.1 a)⟩
theorem Bf.msI (h:Bf H H') {s j:Nat} {m:Ms} (k:VA H s j m):VA H' s j m:=
 ⟨by rw[h.ab];exact k.ep,by rw[h.ab,h.lg];exact k.fwd,by rw[h.ab];exact fun e b i a=>by rw[h.lg];exact k.st e b i (h.lv.1 a)⟩
theorem BQ.same (h:BQ H) (k:Bf H H'):BQ H':=
 ⟨by rw[k.n];exact h.n4,by rw[k.n,k.c];exact fun s j hs a=>by rw[k.nd];exact h.ids s j hs a,by rw[k.c];exact fun s hs=>(h.cfg s hs).imp fun _ g=>k.cfg g,
  by rw[k.c];exact fun s hs i j b c a=>by rw[k.lg,k.lg];exact h.pre s hs i j b (k.lv.1 c) (k.lv.1 a),
  by rw[k.c];exact fun s hs i j c a=>by rw[k.lg,k.nd];exact h.st s hs i j (k.lv.1 c) (k.lv.1 a),
  by rw[k.c,k.n,k.net];exact fun s j hs a=>by rw[k.ak];exact h.dn s j hs a,
  by rw[k.c,k.n,k.net];exact fun m d=>by obtain⟨n,l,s,j,hs,a,f,hI⟩:=h.ms m d;exact⟨n,l,s,j,hs,a,f,k.msI hI⟩⟩
theorem Bf.take (H:Hs) (s:Nat):Bf H (H.take s):=by
 have h:=BF.take H s;have hs:∀ k,((H.take s).sh k).nd=(H.sh k).nd/\((H.take s).sh k).ak=(H.sh k).ak/\((H.take s).sh k).ab=(H.sh k).ab:=fun k=>by
  by_cases e:k=s
  ·subst e;exact⟨h.nd,h.ak,h.ab⟩
  ·rw[h.sh k e];exact⟨rfl,rfl,rfl⟩
 exact⟨h.n,h.c,h.net,fun k=>(hs k).1,fun k=>(hs k).2.1,fun k=>(hs k).2.2⟩
theorem Bf.aw (H:Hs) (i:Nat) (t:Bi):Bf H (H.aw i t):=⟨rfl,rfl,rfl,fun _=>rfl,fun _=>rfl,fun _=>rfl⟩
theorem Bf.granted (H:Hs) (T:Tb) (tx:Int):Bf H (H.granted T tx):=⟨rfl,rfl,rfl,fun _=>rfl,fun _=>rfl,fun _=>rfl⟩
theorem Bf.al {H:Hs} {s:Nat} {x:Bg} (c:x.nd=(H.sh s).nd) (b:x.ak=(H.sh s).ak) (a:x.ab=(H.sh s).ab):Bf H (H.al s x):=by
 have hs:∀ k,((H.al s x).sh k).nd=(H.sh k).nd/\((H.al s x).sh k).ak=(H.sh k).ak/\((H.al s x).sh k).ab=(H.sh k).ab:=fun k=>by
  by_cases e:k=s
  ·subst e;rw[Cj];exact⟨c,b,a⟩
  ·rw[show(H.al s x).sh k=H.sh k from AF e _];exact⟨rfl,rfl,rfl⟩
 exact⟨rfl,rfl,rfl,fun k=>(hs k).1,fun k=>(hs k).2.1,fun k=>(hs k).2.2⟩
theorem Bf.rel (H:Hs) (s:Nat) (tx:Int):Bf H (H.rel s tx):=(Bf.al (x:={ H.sh s with tab:=Bh (H.sh s).tab tx }) rfl rfl rfl).trans (Bf.granted _ _ _)
theorem Fw {s:Bk} {m x:Ms} (h:x∈(BA s m).l):x∈s.l\/(x=m/\s.ak m.from_=Jx/\s.ak m.a4=Jx):=by
 unfold BA at h;split at h
 ·exact .inl h
 ·rename_i a;unfold CS at a;simp only[Bool.or_eq_true,not_or,Bool.not_eq_true] at a;rcases List.mem_append.1 h with h|h
  ·exact .inl h
  ·exact .inr ⟨List.mem_singleton.1 h,a.1.1,a.1.2⟩
theorem q95:∀ (ms:List Ms) {s:Bk} {x:Ms},x∈(Dh s ms).l->x∈s.l\/(x∈ms/\s.ak x.from_=Jx/\s.ak x.a4=Jx)
 | [],_,_,h=>.inl h
 | m::ms,s,x,h=>by
  have d:x∈(Dh (BA s m) ms).l:=h;rcases q95 ms d with b|⟨b,c⟩
  ·rcases Fw b with a|⟨rfl,a⟩
   ·exact .inl a
   ·exact .inr ⟨VL,a⟩
  ·rw[q7j] at c;exact .inr ⟨VM _ b,c⟩
theorem BQ.cU (h:BQ H) {l:List Ms} (b:∀ m∈l,m∈H.net.l):BQ { H with net:=⟨l,H.net.ak⟩ }:=
 ⟨h.n4,h.ids,fun s hs=>(h.cfg s hs).imp fun _ g=>⟨g.sorted,g.lt,g.mem,g.nd⟩,h.pre,h.st,h.dn,fun m a=>by
  obtain⟨n,f,s,j,hs,c,d,hI⟩:=h.ms m (b m a);exact⟨n,f,s,j,hs,c,d,hI.ep,hI.fwd,hI.st⟩⟩
theorem EX (H:Hs) (s j:Nat) (d:Nd):(H.an s j d).sh s = { H.sh s with nd:=Ae (H.sh s).nd j d }:=Cj _ _ _
theorem Nb (H:Hs) {s k:Nat} (j:Nat) (d:Nd) (h:k≠s):(H.an s j d).sh k=H.sh k:=AF h _
theorem q5j {s j:Nat} {d:Nd} (a:d.id=((H.sh s).nd j).id) {t i:Nat} : Lv (H.an s j d) t i↔Lv H t i:=by
 unfold Lv;by_cases e:t=s
 ·subst e;rw[EX];by_cases b:i=j
  ·subst b;simp only[Ay,a];exact Yr
  ·simp only[AF b];exact Yr
 ·rw[Nb H j d e];exact Yr
theorem q4q (H:Hs) (s j:Nat) (d:Nd) (t i:Nat):lg (H.an s j d) t i=if t=s/\i=j then d.log else lg H t i:=by
 unfold lg;by_cases e:t=s
 ·subst e;rw[EX];by_cases a:i=j
  ·subst a;simp[Ay]
  ·simp[AF a,a]
 ·rw[Nb H j d e];simp[e]
structure NdT (H:Hs) (s j:Nat) (d:Nd) (ms:List Ms):Prop where
 id:d.id=((H.sh s).nd j).id
 ab:d.ab=((H.sh s).nd j).ab
 nodes:d.nodes=((H.sh s).nd j).nodes
 at_:d.at_=((H.sh s).nd j).at_
 grows:lg H s j <+: d.log
 lo:∀ i,i<j->Lv H s i->d.log <+: lg H s i
 st:d.ao<=d.log.length/\∀ i,i≠j->Lv H s i->d.ao<=(lg H s i).length
 ms:∀ m∈ms,m.from_=d.id/\m.ab=d.ab/\(m.ag=3->∃ k:Nat,m.n=k/\d.log[k]? = Bs m.cmd)/\(m.ag=4->m.n<=d.ao)
theorem getElem?_prefix {α:Type} {l l':List α} (h:l <+: l') {k:Nat} {a:α} (b:l[k]? = Bs a):l'[k]? = Bs a:=by
 obtain⟨t,rfl⟩:=h;rw[Wc (List.getElem?_eq_some_iff.1 b).1];exact b
theorem BQ.node (h:BQ H) {s j:Nat} (hs:s<H.c) (E:Lv H s j) {d:Nd} {ms:List Ms} (t:NdT H s j d ms):BQ ((H.an s j d).send ms):=by
 have f:∀ {a i},Lv ((H.an s j d).send ms) a i↔Lv H a i:=fun {a i}=>q5j (H:=H) t.id
 have o:∀ a i,lg ((H.an s j d).send ms) a i=if a=s/\i=j then d.log else lg H a i:=q4q H s j d
 have n:∀ a,((H.an s j d).send ms).sh a=(H.an s j d).sh a:=fun a=>rfl
 have q:∀ a,(((H.an s j d).send ms).sh a).ab=(H.sh a).ab:=fun a=>by
  rw[n];by_cases e:a=s
  ·subst e;rw[EX]
  ·rw[Nb H j d e]
 have y:∀ a i,lg H a i <+: lg ((H.an s j d).send ms) a i:=fun a i=>by
  rw[o];split
  ·rename_i e;obtain⟨rfl,rfl⟩:=e;exact t.grows
  ·exact VS _
 have r:((H.an s j d).send ms).net.ak=H.net.ak:=q2g _ _;refine⟨h.n4,fun a i p l=>?_,fun a p=>?_,fun a p i k F l z=>?_,fun a p i k l z=>?_,fun a i p l=>?_,fun m A=>?_⟩
 ·rw[n];by_cases e:a=s
  ·subst e;rw[EX];by_cases b:i=j
   ·subst b;simp only[Ay,t.id];exact h.ids a i p l
   ·simp only[AF b];exact h.ids a i p l
  ·rw[Nb H j d e];exact h.ids a i p l
 ·obtain⟨L,g⟩:=h.cfg a p;refine⟨L,g.sorted,g.lt,fun i l=>g.mem i (f.1 l),fun i l=>?_⟩;have J:=g.nd i (f.1 l);rw[q,n];by_cases e:a=s
  ·subst e;rw[EX];by_cases b:i=j
   ·subst b;simp only[Ay,t.ab,t.nodes,t.at_];exact J
   ·simp only[AF b];exact J
  ·rw[Nb H j d e];exact J
 ·have v:=f.1 l;have u:=f.1 z;have C:=h.pre a p i k F v u;rw[o,o];by_cases e:a=s
  ·subst e;by_cases e1:i=j
   ·subst e1;by_cases b:k=i
    ·subst b;exact VS _
    ·rw[if_neg (by simp[b]),if_pos ⟨rfl,rfl⟩];exact C.trans t.grows
   ·rw[if_neg (c:=a=a/\i=j) (by simp[e1])];by_cases b:k=j
    ·subst b;rw[if_pos ⟨rfl,rfl⟩];exact t.lo i (by omega) v
    ·rw[if_neg (by simp[b])];exact C
  ·rw[if_neg (by simp[e]),if_neg (by simp[e])];exact C
 ·have v:=f.1 l;have u:=f.1 z;have R:=h.st a p i k v u;have K:=(y a k).length_le;by_cases e:a=s/\i=j
  ·obtain⟨rfl,rfl⟩:=e;rw[n,EX];simp only[Ay];by_cases e:k=i
   ·subst e;rw[o,if_pos ⟨rfl,rfl⟩];exact t.st.1
   ·have:=t.st.2 k e u;omega
  ·have U:(((H.an s j d).send ms).sh a).nd i=(H.sh a).nd i:=by
    rw[n];by_cases e1:a=s
    ·subst e1;rw[EX];exact AF (fun b=>e ⟨rfl,b⟩) _
    ·rw[Nb H j d e1]
   rw[U];omega
 ·rw[r];have:=h.dn a i p l;rw[n];by_cases e:a=s
  ·subst e;rw[EX];exact this
  ·rw[Nb H j d e];exact this
 ·rw[r];have B:∀ {a i:Nat} {x:Ms},VA H a i x->VA ((H.an s j d).send ms) a i x:=fun {a i x} g=>
   ⟨by rw[q];exact g.ep,by rw[q];exact fun e1 b=>(g.fwd e1 b).imp fun k z=>⟨z.1,getElem?_prefix (y a i) z.2⟩,
    by rw[q];exact fun e1 b k z=>Int.le_trans (g.st e1 b k (f.1 z)) (by have:=(y a k).length_le;omega)⟩
  rcases q95 ms A with A|⟨A,I,G⟩
  ·obtain⟨I,G,a,i,p,l,S,hI⟩:=h.ms m A;exact⟨I,G,a,i,p,l,S,B hI⟩
  ·obtain⟨Q,O,N,M⟩:=t.ms m A;obtain⟨L,g⟩:=h.cfg s hs;have T:d.ab=(H.sh s).ab:=t.ab.trans (g.nd j E).1;refine⟨I,G,s,j,hs,E.1,by rw[Q,t.id];exact h.ids s j hs E.1,by rw[q,O,T];exact Xk _,fun _ b=>?_,fun _ b i l=>?_⟩
   ·rw[o,if_pos ⟨rfl,rfl⟩];exact N b
   ·have:=M b;by_cases e:i=j
    ·subst e;rw[o,if_pos ⟨rfl,rfl⟩];have:=t.st.1;omega
    ·have V:=t.st.2 i e (f.1 l);have:=(y s i).length_le;omega
end
theorem q3j {L:List Nat} (hs:L.Pairwise (· < ·)) {p q i j:Nat} (c:L[p]? = Bs i) (b:L[q]? = Bs j):(p<q->i<j)/\(p<=q->i<=j):=by
 rw[List.getElem?_eq_some_iff] at c b;obtain⟨f,e1⟩:=c;obtain⟨d,g⟩:=b;have h:=List.pairwise_iff_getElem.1 hs;refine⟨fun a=>by have:=h p q f d a;omega,fun a=>?_⟩;by_cases e:p=q
 ·subst e;omega
 ·have:=h p q f d (by omega);omega
theorem Lh {L:List Nat} (hs:L.Pairwise (· < ·)) {p q i j:Nat} (c:L[p]? = Bs i) (b:L[q]? = Bs j) (h:i<j):p<q:=by
 rcases Nat.lt_or_ge p q with a|a
 ·exact a
 ·have:=(q3j hs b c).2 a;omega
section
variable {H:Hs} {s j:Nat}
structure At (H:Hs) (s j:Nat) (L:List Nat) (p:Nat):Prop where
 cfg:Cfg H s L
 ix:L[p]? = Bs j
 at_:((H.sh s).nd j).at_=(p:Nat)
 nodes:((H.sh s).nd j).nodes=L.map (Cv s)
 ab:((H.sh s).nd j).ab=(H.sh s).ab
theorem BQ.at_ (h:BQ H) (hs:s<H.c) (a:Lv H s j):∃ L p,At H s j L p:=by
 obtain⟨L,g⟩:=h.cfg s hs;obtain⟨f,d,p,c,b⟩:=g.nd j a;exact⟨L,p,g,c,b,d,f⟩
theorem At.tail {L:List Nat} {p:Nat} (a:At H s j L p):((H.sh s).nd j).tail=decide (p+1=L.length):=by
 unfold Nd.tail;rw[a.at_,a.nodes,Wh];have:=(List.getElem?_eq_some_iff.1 a.ix).1;rw[XI];simp only[ge_iff_le,Wq,decide_eq_true_eq,beq_iff_eq];omega
theorem At.head {L:List Nat} {p:Nat} (a:At H s j L p):((H.sh s).nd j).head=decide (p=0):=by
 unfold Nd.head;rw[a.at_,XI];simp only[beq_iff_eq,decide_eq_true_eq];omega
theorem At.last {L:List Nat} {p:Nat} (a:At H s j L p) (d:p+1=L.length) {i:Nat} (c:Lv H s i):i<=j:=by
 obtain⟨q,b⟩:=List.mem_iff_getElem?.1 (a.cfg.mem i c);have:=(List.getElem?_eq_some_iff.1 b).1;exact(q3j a.cfg.sorted b a.ix).2 (by omega)
theorem At.first {L:List Nat} (a:At H s j L 0) {i:Nat} (c:Lv H s i):j<=i:=by
 obtain⟨q,b⟩:=List.mem_iff_getElem?.1 (a.cfg.mem i c);exact(q3j a.cfg.sorted a.ix b).2 (by omega)
theorem At.a4 {L:List Nat} {p:Nat} (a:At H s j L p) {b:Int} {q i:Nat} (d:(p:Int)+b=q) (c:L[q]? = Bs i):((H.sh s).nd j).a4 b=Cv s i:=by
 unfold Nd.a4;rw[a.at_,a.nodes,d];simp[c]
theorem q8f (h:BQ H) (hs:s<H.c) (a:Lv H s j) {ms:List Ms} (d:∀ m∈ms,m.from_=((H.sh s).nd j).id/\m.ab=((H.sh s).nd j).ab/\(m.ag=3->∃ k:Nat,m.n=k/\((H.sh s).nd j).log[k]? = Bs m.cmd)/\(m.ag=4->m.n<=((H.sh s).nd j).ao)):NdT H s j ((H.sh s).nd j) ms:=
 ⟨rfl,rfl,rfl,rfl,VS _,fun i c b=>h.pre s hs i j (Yh c) b a,⟨h.st s hs j j a a,fun i _ c=>h.st s hs j i a c⟩,d⟩
theorem RN (h:BQ H) (hs:s<H.c) (c:Lv H s j):NdT H s j ((H.sh s).nd j).tick.1 ((H.sh s).nd j).tick.2:=by
 obtain⟨L,p,a⟩:=h.at_ hs c;unfold Nd.tick;rw[if_neg (by rw[a.at_];omega),a.tail];by_cases f:p+1=L.length
 ·rw[decide_eq_true f,if_pos rfl];refine⟨rfl,rfl,rfl,rfl,VS _,fun i d g=>h.pre s hs i j (Yh d) g c,⟨Xk _,fun i _ d=>?_⟩,fun m b=>?_⟩
  ·have:=(h.pre s hs i j (a.last f d) d c).length_le;show((lg H s j).length:Int)<=_;omega
  ·simp only at b;split at b
   ·rw[VW] at b;subst b;exact⟨rfl,rfl,fun e=>(by simp[Nd.msg,Nd.forward] at e),fun _=>Xk _⟩
   ·cases b
 ·rw[decide_eq_false f,if_neg (by simp)];refine q8f h hs c (fun m b=>?_);rw[VW] at b;subst b;exact⟨rfl,rfl,fun e=>(by simp[Nd.msg,Nd.forward] at e),fun e=>(by simp[Nd.msg,Nd.forward] at e)⟩
theorem Jr (h:BQ H) (hs:s<H.c) (g:Lv H s j) (c:Cm) (n:∀ i,i<j->Lv H s i->lg H s j++[c] <+: lg H s i):NdT H s j (((H.sh s).nd j).grow c).1 (((H.sh s).nd j).grow c).2:=by
 obtain⟨L,p,a⟩:=h.at_ hs g;have d:lg H s j <+: lg H s j++[c]:=List.prefix_append _ _;have o:=h.st s hs j j g g;unfold Nd.grow;rw[a.tail];by_cases f:p+1=L.length
 ·rw[decide_eq_true f,if_pos rfl];unfold Nd.tick;rw[if_neg (by show ¬((H.sh s).nd j).at_<0;rw[a.at_];omega),show(((H.sh s).nd j).push c).tail=T2 from(show _=((H.sh s).nd j).tail from rfl).trans (by rw[a.tail,decide_eq_true f]),if_pos rfl];refine⟨rfl,rfl,rfl,rfl,d,n,⟨Xk _,fun i q l=>?_⟩,fun m b=>?_⟩
  ·have:=(n i (by have:=a.last f l;omega) l).length_le;show((lg H s j++[c]).length:Int)<=_;omega
  ·simp only at b;split at b
   ·rw[VW] at b;subst b;exact⟨rfl,rfl,fun e=>(by simp[Nd.msg,Nd.forward] at e),fun _=>Xk _⟩
   ·cases b
 ·rw[decide_eq_false f,if_neg (by simp)];refine⟨rfl,rfl,rfl,rfl,d,n,⟨?_,fun i _ l=>h.st s hs j i g l⟩,fun m b=>?_⟩
  ·show _<=((lg H s j++[c]).length:Int);rw[VP];show((H.sh s).nd j).ao<=_;omega
  ·rw[VW] at b;subst b;refine⟨rfl,rfl,fun _=>⟨((H.sh s).nd j).log.length,rfl,?_⟩,fun e=>(by simp[Nd.msg,Nd.forward] at e)⟩;show(((H.sh s).nd j).log++[c])[((H.sh s).nd j).log.length]? = Bs ((((((H.sh s).nd j).log++[c])[((H.sh s).nd j).log.length]?)).getD cm0);simp
theorem BQ.cy (h:BQ H) {m:Ms} (f:m∈H.net.l) (hs:s<H.c) {i:Nat} (a:i<H.n) (c:m.from_=Cv s i):Lv H s i/\VA H s i m:=by
 obtain⟨l,_,s2,n,d,g,b,hI⟩:=h.ms m f;have o:=h.n4;obtain⟨rfl,rfl⟩:=Hc (by omega) (by omega) (c.symm.trans b);refine⟨⟨a,?_⟩,hI⟩;rw[h.ids s i hs a,<- h.dn s i hs a,<- c];exact l
theorem qc6 (h:BQ H) (hs:s<H.c) (d:Lv H s j) {m:Ms} (z:m∈H.net.l):NdT H s j (((H.sh s).nd j).step m).1 (((H.sh s).nd j).step m).2:=by
 have v:NdT H s j ((H.sh s).nd j) []:=q8f h hs d (fun m z=>by cases z);obtain⟨L,p,a⟩:=h.at_ hs d;unfold Nd.step;split
 ·exact v
 ·rename_i U;simp only[not_or] at U;obtain⟨_,g,_⟩:=U;have g:m.ab=(H.sh s).ab:=(Classical.not_not.1 g).trans a.ab;have l:(decide (((H.sh s).nd j).at_ > 0) && m.from_ == ((H.sh s).nd j).a4 (-1))=T2->∃ i,L[p-1]? = Bs i/\0<p/\Lv H s i/\VA H s i m:=fun e=>by
   simp only[Wq,decide_eq_true_eq,beq_iff_eq] at e;obtain⟨e1,R⟩:=e;rw[a.at_] at e1;have y:p-1<L.length:=by have:=(List.getElem?_eq_some_iff.1 a.ix).1;omega
   obtain⟨i,f⟩:∃ i,L[p-1]? = Bs i:=⟨_,K0 y⟩
   have M:=a.cfg.lt i (O0 f);obtain⟨X,W⟩:=h.cy z hs M (R.trans (a.a4 (by omega) f));exact⟨i,f,by omega,X,W⟩
  have n:(!((H.sh s).nd j).tail && m.from_ == ((H.sh s).nd j).a4 1)=T2->∃ i,Lv H s i/\VA H s i m:=fun e=>by
   simp only[Wq,beq_iff_eq,X7] at e;obtain⟨e1,R⟩:=e;rw[a.tail,decide_eq_false_iff_not] at e1;have y:p+1<L.length:=by have:=(List.getElem?_eq_some_iff.1 a.ix).1;omega
   obtain⟨i,f⟩:∃ i,L[p+1]? = Bs i:=⟨_,K0 y⟩
   exact⟨i,h.cy z hs (a.cfg.lt i (O0 f)) (R.trans (a.a4 (by omega) f))⟩
  simp only;split
  ·refine q8f h hs d (fun x c=>?_);rw[VW] at c;subst c;exact⟨rfl,rfl,fun e=>(by simp[Nd.msg,Nd.forward] at e),fun e=>(by simp[Nd.msg,Nd.forward] at e)⟩
  ·split
   ·refine q8f h hs d (fun x c=>?_);obtain⟨k,u,rfl⟩:=List.mem_map.1 c;rw[X2] at u;refine⟨rfl,rfl,fun _=>⟨k,rfl,?_⟩,fun e=>(by simp[Nd.msg,Nd.forward] at e)⟩;show((H.sh s).nd j).log[k]? = Bs ((((H.sh s).nd j).log[k]?).getD cm0);rw[K0 (by omega)];rfl
   ·split
    ·rename_i u;obtain⟨K,Q,V,_⟩:=u;obtain⟨i,f,y,o,hI⟩:=l Q;obtain⟨k,u,A⟩:=hI.fwd g K;have I:k=(lg H s j).length:=by have Y:(k:Int)=((lg H s j).length:Nat):=u.symm.trans V;omega
     subst I;have N:i<j:=(q3j a.cfg.sorted f a.ix).1 (by omega);have E:=h.pre s hs i j (Yh N) o d;have O:lg H s j++[m.cmd] <+: lg H s i:=by
      obtain⟨t,S⟩:=E;rw[<- S,Wd (L1 _),Nat.sub_self] at A;cases t with
      | nil=>simp at A
      | cons x t=>
       simp only[D0,VN] at A;subst A;exact⟨t,by rw[<- S];simp⟩
     refine Jr h hs d m.cmd (fun q C b=>?_);obtain⟨r,T⟩:=List.mem_iff_getElem?.1 (a.cfg.mem q b);have Z:=Lh a.cfg.sorted T a.ix C;exact O.trans (h.pre s hs q i ((q3j a.cfg.sorted T f).2 (by omega)) b o)
    ·split
     ·rename_i u;obtain⟨J,F,h0,G⟩:=u;obtain⟨i,o,hI⟩:=n F;have B:=hI.st g J;refine⟨rfl,rfl,rfl,rfl,VS _,fun q C b=>h.pre s hs q j (Yh C) b d,⟨?_,fun q _ b=>?_⟩,fun x c=>?_⟩
      ·exact Int.max_le.2 ⟨h.st s hs j j d d,G⟩
      ·exact Int.max_le.2 ⟨h.st s hs j q d b,B q b⟩
      ·simp only at c;split at c
       ·rw[VW] at c;subst c;exact⟨rfl,rfl,fun e=>(by simp[Nd.msg,Nd.forward] at e),fun _=>Xk _⟩
       ·cases c
     ·exact v
theorem EY {j:Nat} (h:H.head s=Bs j):Lv H s j/\((H.sh s).nd j).head=T2:=by
 have b:=WT h;have a:=List.find?_some h;exact⟨q2l.1 b,a⟩
theorem BQ.aO (h:BQ H) (hs:s<H.c) (a:Lv H s j):BQ (Hs.aO s H j):=h.node hs a (RN h hs a)
theorem BQ.add (h:BQ H) (hs:s<H.c) (n:H.head s=Bs j) (c:Cm) (b:Bool):BQ (H.add s j c b).2:=by
 obtain⟨f,g⟩:=EY n;unfold Hs.add;split
 ·exact h
 ·rename_i l;have e:(((H.sh s).nd j).add c b).1=((H.sh s).nd j).grow c:=by
   unfold Nd.add at *;rw[g] at *;simp only[Bool.not_true,XY,if_false] at *;split
   ·rename_i o;rw[if_pos o] at l;simp at l
   ·rfl
  simp only[e];obtain⟨L,p,a⟩:=h.at_ hs f;rw[a.head] at g;have m:p=0:=by simpa using g
  subst m;exact(h.node hs f (Jr h hs f c (fun i q d=>absurd (a.first d) (by omega)))).same (Bf.take _ _)
theorem q6q {id:Int} {q:Nat×Nat} (c:H.c=3) (h:H.node id=Bs q):q.1<H.c/\Lv H q.1 q.2/\((H.sh q.1).nd q.2).id=id:=by
 have a:=WT h;have d:=List.find?_some h;rw[List.mem_flatMap] at a;obtain⟨s,hs,a⟩:=a;obtain⟨j,b,rfl⟩:=List.mem_map.1 a;refine⟨?_,q2l.1 b,by simpa using d⟩;rw[c];simp at hs;show s<3;omega
theorem BQ.bL (h:BQ H) (k:Nat):BQ { H with net:=Go.Proofs.YtccahlhdifadfaaGreatDoor.takeS H.net k }:=h.cU (fun _ a=>XF a)
theorem BQ.arrive (h:BQ H) (f:H.c=3) {k:Nat} {m:Ms} (d:H.net.l[k]? = Bs m):BQ (({ H with net:=Go.Proofs.YtccahlhdifadfaaGreatDoor.takeS H.net k } : Hs).arrive m):=by
 unfold Hs.arrive;cases c:Hs.node { H with net:=Go.Proofs.YtccahlhdifadfaaGreatDoor.takeS H.net k } m.a4 with
 | none=>exact h.bL k
 | some q=>
  obtain⟨s,j⟩:=q;obtain⟨hs,a,_⟩:=q6q (H:={ H with net:=Go.Proofs.YtccahlhdifadfaaGreatDoor.takeS H.net k }) f c;have t:=qc6 h (s:=s) (j:=j) hs a (O0 d);have b:NdT { H with net:=Go.Proofs.YtccahlhdifadfaaGreatDoor.takeS H.net k } s j (((H.sh s).nd j).step m).1 (((H.sh s).nd j).step m).2:=⟨t.id,t.ab,t.nodes,t.at_,t.grows,t.lo,t.st,t.ms⟩
  exact((h.bL k).node hs a b).same (Bf.take _ _)
theorem BQ.fail (h:BQ H) (O:H.c=3) (id:Int):BQ (H.fail id):=by
 unfold Hs.fail;cases M:H.node id with
 | none=>exact h
 | some q=>
  obtain⟨s,j⟩:=q;obtain⟨hs,I,n⟩:=q6q O M;have hs:s<H.c:=hs;have n:((H.sh s).nd j).id=id:=n;have C:id=Cv s j:=n.symm.trans (h.ids s j hs I.1);show BQ ({ H.al s { H.sh s with ak:=fun i=>decide (i=id) || (H.sh s).ak i } with net:=EA H.net id } : Hs);generalize u:({ H.al s { H.sh s with ak:=fun i=>decide (i=id) || (H.sh s).ak i } with net:=EA H.net id } : Hs)=H2;have p:∀ a,H2.sh a=if a=s then { H.sh s with ak:=fun i=>decide (i=id) || (H.sh s).ak i } else H.sh a:=fun a=>by rw[<- u];rfl
  have E:H2.n=H.n:=by rw[<- u];rfl
  have Q:H2.c=H.c:=by rw[<- u];rfl
  have l:H2.net=EA H.net id:=by rw[<- u]
  have b:∀ a,(H2.sh a).nd=(H.sh a).nd/\(H2.sh a).ab=(H.sh a).ab:=fun a=>by
   rw[p];split
   ·rename_i e;subst e;exact⟨rfl,rfl⟩
   ·exact⟨rfl,rfl⟩
  have c:∀ {a i},Lv H2 a i->Lv H a i:=fun {a i} z=>by
   obtain⟨y,o⟩:=z;rw[(b a).1,p] at o;rw[E] at y;refine⟨y,?_⟩;split at o
   ·rename_i e;subst e;simp only[YM] at o;exact o.2
   ·exact o
  have d:∀ a i,lg H2 a i=lg H a i:=fun a i=>by unfold lg;rw[(b a).1]
  clear u;refine⟨by rw[E];exact h.n4,fun a i t f=>by rw[(b a).1];exact h.ids a i (by omega) (by omega),fun a t=>?_,fun a t i k B f A=>?_,fun a t i k f A=>?_,fun a i t f=>?_,fun m G=>?_⟩
  ·obtain⟨L,g⟩:=h.cfg a (by omega);exact⟨L,g.sorted,by rw[E];exact g.lt,fun i f=>g.mem i (c f),fun i f=>by rw[(b a).1,(b a).2];exact g.nd i (c f)⟩
  ·rw[d,d];exact h.pre a (by omega) i k B (c f) (c A)
  ·rw[d,(b a).1];exact h.st a (by omega) i k (c f) (c A)
  ·have J:=h.dn a i (by omega) (by omega);rw[l,p];show(decide (Cv a i=id) || H.net.ak (Cv a i))=_;split
   ·rename_i e;subst e;rw[J]
   ·rename_i e;rw[J];have:Cv a i≠id:=fun F=>e (Hc (by have:=h.n4;omega) (by have:=h.n4;have:=I.1;omega) (F.trans C)).1
    simp[this]
  ·rw[l] at G ⊢;have r:=List.mem_filter.1 G;obtain⟨y,o,a,i,t,f,N,hI⟩:=h.ms m r.1;have v:=r.2;unfold gone at v;simp only[X7,YM,decide_eq_false_iff_not] at v;exact⟨by show(decide (m.from_=id) || H.net.ak m.from_)=Jx;simp[v.1,y],by show(decide (m.a4=id) || H.net.ak m.a4)=Jx;simp[v.2,o],a,i,by omega,by omega,N,
    ⟨by rw[(b a).2];exact hI.ep,by rw[(b a).2,d];exact hI.fwd,by rw[(b a).2];exact fun e1 F x K=>by rw[d];exact hI.st e1 F x (c K)⟩⟩
end
theorem R6 {s:Nat} {L:List Nat} {j:Nat} (c:j∈L) (f:∀ i∈L,i<10):∃ p,L[p]? = Bs j/\CP (Cv s j) (L.map (Cv s))=(p:Nat):=by
 unfold CP;rcases a:(L.map (Cv s)).findIdx? (fun y=>Cv s j == y) with _|i
 ·rw[Wk] at a;have:=a (Cv s j) (List.mem_map.2 ⟨j,c,rfl⟩);simp at this
 ·rw[VR] at a;obtain⟨b,d,_⟩:=a;simp only[List.getElem_map,beq_iff_eq] at d;rw[Wh] at b;refine⟨i,?_,rfl⟩;rw[K0 b,(Hc (f j c) (f _ (WE b)) d).2]
structure ChF (H:Hs) (s:Nat):Prop where
 hs:s<H.c
 n4:H.n<=4
 ids:∀ s j,s<H.c->j<H.n->((H.sh s).nd j).id=Cv s j
 cfg:∀ a,a<H.c->a≠s->∃ L,Cfg H a L
 pre:∀ s,s<H.c->∀ i j,i<=j->Lv H s i->Lv H s j->lg H s j <+: lg H s i
 st:∀ s,s<H.c->∀ i j,Lv H s i->Lv H s j->((H.sh s).nd i).ao<=(lg H s j).length
 dn:∀ s j,s<H.c->j<H.n->H.net.ak (Cv s j)=(H.sh s).ak (Cv s j)
 ms:∀ m∈H.net.l,H.net.ak m.from_=Jx/\H.net.ak m.a4=Jx/\∃ s j,s<H.c/\j<H.n/\m.from_=Cv s j/\VA H s j m
 at_:∀ j,Lv H s j->0<=((H.sh s).nd j).at_\/(lg H s j=[]/\((H.sh s).nd j).ao=0)
 ep:0<=(H.sh s).ab/\(H.sh s).ab<=1000000
theorem BQ.toF {H:Hs} (h:BQ H) {s:Nat} (hs:s<H.c) (c:0<=(H.sh s).ab/\(H.sh s).ab<=1000000):ChF H s:=
 ⟨hs,h.n4,h.ids,fun a d _=>h.cfg a d,h.pre,h.st,h.dn,h.ms,fun j b=>by obtain⟨L,p,a⟩:=h.at_ hs b;left;rw[a.at_];omega,c⟩
structure NZ (H0 H:Hs) (s:Nat) (e:Int) (L:List Nat) (D:Nat->Prop):Prop where
 n:H.n=H0.n
 c:H.c=H0.c
 sh:∀ a,a≠s->H.sh a=H0.sh a
 ak:(H.sh s).ak=(H0.sh s).ak
 ab:(H.sh s).ab=e
 nd0:∀ j,¬D j->(H.sh s).nd j=(H0.sh s).nd j
 nd1:∀ j,D j->((H.sh s).nd j).id=((H0.sh s).nd j).id/\((H.sh s).nd j).ab=e/\((H.sh s).nd j).nodes=L.map (Cv s)/\(∃ p,L[p]? = Bs j/\((H.sh s).nd j).at_=(p:Nat))/\lg H s j=lg H0 s j/\
  ∀ i,Lv H0 s i->((H.sh s).nd j).ao<=(lg H0 s i).length
 nl:∀ m∈H.net.l,H0.net.ak m.from_=Jx/\H0.net.ak m.a4=Jx/\(m∈H0.net.l\/∃ j,j<H0.n/\m.from_=Cv s j/\m.ab=e/\m.ag≠3/\(m.ag=4->∀ i,Lv H0 s i->m.n<=(lg H0 s i).length))
 ndd:H.net.ak=H0.net.ak
section
variable {H0 H:Hs} {s:Nat} {e:Int} {L:List Nat} {D:Nat->Prop}
theorem NZ.join (h:NZ H0 H s e L D) (n:ChF H0 s) (C:∀ i,i∈L↔Lv H0 s i) (z:L.Pairwise (· < ·)) {j:Nat} (r:Lv H0 s j) (J:¬D j) :
  NZ H0 (Hs.ay s (L.map (Cv s)) H j) s e L (fun i=>i=j\/D i):=by
 have I:=n.n4;obtain⟨p,A,o⟩:=R6 (s:=s) ((C j).2 r) (fun i b=>by have:=((C i).1 b).1;omega);have l:=n.ids s j n.hs r.1;have N:=h.nd0 j J;have y:=fun i b=>n.st s n.hs j i r b
 have F:=(List.getElem?_eq_some_iff.1 A).1;have B:(((H.sh s).nd j).join (H.sh s).ab (L.map (Cv s)))=⟨Cv s j,e,L.map (Cv s),(p:Nat),lg H0 s j,((H0.sh s).nd j).ao⟩:=by
  rw[N,h.ab];unfold Nd.join;rcases n.at_ j r with t|⟨t,K⟩
  ·rw[if_neg (by omega),l,o];rfl
  ·split
   ·rw[l,o,t,K]
   ·rw[l,o];rfl
 have g:p+1=L.length->∀ i,Lv H0 s i->(lg H0 s j).length<=(lg H0 s i).length:=fun f i b=>by
  obtain⟨q,E⟩:=List.mem_iff_getElem?.1 ((C i).2 b);have:=(List.getElem?_eq_some_iff.1 E).1;exact(n.pre s n.hs i j ((q3j z E A).2 (by omega)) b r).length_le
 have x:∃ d ms,Hs.ay s (L.map (Cv s)) H j=(H.an s j d).send ms/\d.id=Cv s j/\d.ab=e/\d.nodes=L.map (Cv s)/\d.at_=(p:Nat)/\d.log=lg H0 s j/\(∀ i,Lv H0 s i->d.ao<=(lg H0 s i).length)/\
   ∀ m∈ms,m.from_=Cv s j/\m.ab=e/\m.ag≠3/\(m.ag=4->∀ i,Lv H0 s i->m.n<=(lg H0 s i).length):=by
  unfold Hs.ay;rw[B];unfold Nd.tick;rw[if_neg (show ¬((p:Nat):Int)<0 by omega)];have G:(Nd.mk (Cv s j) e (L.map (Cv s)) (p:Nat) (lg H0 s j) ((H0.sh s).nd j).ao).tail=decide (p+1=L.length):=by
   unfold Nd.tail;rw[XI];simp only[Wh,ge_iff_le,Wq,decide_eq_true_eq,beq_iff_eq];omega
  rw[G];by_cases f:p+1=L.length
  ·rw[decide_eq_true f,if_pos rfl];refine⟨_,_,rfl,rfl,rfl,rfl,rfl,rfl,fun i b=>?_,fun m c=>?_⟩
   ·have:=g f i b;show((lg H0 s j).length:Int)<=_;omega
   ·simp only at c;split at c
    ·rw[VW] at c;subst c;refine⟨rfl,rfl,by simp[Nd.msg],fun _ i b=>?_⟩;have:=g f i b;show((lg H0 s j).length:Int)<=_;omega
    ·cases c
  ·rw[decide_eq_false f,if_neg (by simp)];refine⟨_,_,rfl,rfl,rfl,rfl,rfl,rfl,y,fun m c=>?_⟩;rw[VW] at c;subst c;exact⟨rfl,rfl,by simp[Nd.msg],fun O=>by simp[Nd.msg] at O⟩
 obtain⟨d,ms,M,d1,d2,U,T,S,R,Q⟩:=x;rw[M];refine⟨h.n,h.c,fun a t=>(Nb H j d t).trans (h.sh a t),?_,?_,fun i b=>?_,fun i b=>?_,fun m c=>?_,?_⟩
 ·show((H.an s j d).sh s).ak=_;rw[EX];exact h.ak
 ·show((H.an s j d).sh s).ab=_;rw[EX];exact h.ab
 ·show((H.an s j d).sh s).nd i=_;rw[EX];exact(AF (fun e=>b (.inl e)) _).trans (h.nd0 i (fun h=>b (.inr h)))
 ·show(((H.an s j d).sh s).nd i).id=_/\(((H.an s j d).sh s).nd i).ab=_/\(((H.an s j d).sh s).nd i).nodes=_/\(∃ p,L[p]? = Bs i/\(((H.an s j d).sh s).nd i).at_=(p:Nat))/\lg (H.an s j d) s i=_/\∀ k,Lv H0 s k->(((H.an s j d).sh s).nd i).ao<=_;rw[q4q,EX];by_cases e1:i=j
  ·subst e1;simp only[Ay];exact⟨d1.trans l.symm,d2,U,⟨p,A,T⟩,by simpa using S,R⟩
  ·simp only[AF e1];rw[if_neg (by simp[e1])];exact h.nd1 i (b.resolve_left e1)
 ·rcases q95 ms c with c|⟨c,v,u⟩
  ·exact h.nl m c
  ·have v:H.net.ak m.from_=Jx:=v;have u:H.net.ak m.a4=Jx:=u;rw[h.ndd] at v u;obtain⟨a1,a2,W,V⟩:=Q m c;exact⟨v,u,.inr ⟨j,r.1,a1,a2,W,V⟩⟩
 ·exact(q2g _ _).trans h.ndd
theorem NZ.congr {a:Nat->Prop} (h:NZ H0 H s e L D) (b:∀ j,D j↔a j):NZ H0 H s e L a:=by
 have:D=a:=funext fun j=>propext (b j)
 rw[<- this];exact h
theorem NZ.joins (c:ChF H0 s) (d:∀ i,i∈L↔Lv H0 s i) (a:L.Pairwise (· < ·)):∀ (l:List Nat) {H:Hs} {D:Nat->Prop},NZ H0 H s e L D->(∀ j∈l,Lv H0 s j/\¬D j)->l.Nodup->NZ H0 (l.foldl (Hs.ay s (L.map (Cv s))) H) s e L (fun i=>i∈l\/D i)
 | [],_,_,h,_,_=>h.congr (fun j=>by simp)
 | j::l,H,D,h,hl,hn=>by
  rw[YZ] at hn;have m:=h.join c d a (hl j VL).1 (hl j VL).2;have g:=NZ.joins c d a l m (fun i b=>⟨(hl i (VM _ b)).1,fun f=>f.elim (fun e=>hn.1 (e▸b)) (hl i (VM _ b)).2⟩) hn.2;refine g.congr (fun i=>?_);rw[List.mem_cons];constructor
  ·rintro (h|h|h)
   ·exact .inl (.inr h)
   ·exact .inl (.inl h)
   ·exact .inr h
  ·rintro ((h|h)|h)
   ·exact .inr (.inl h)
   ·exact .inl h
   ·exact .inr (.inr h)
theorem qca (x:Bg) (n:Nat):(x.aj n).Pairwise (· < ·):=X1 _ List.pairwise_lt_range
theorem NZ.done (h:NZ H0 H s e L D) (n:ChF H0 s) (F:∀ i,i∈L↔Lv H0 s i) (v:L.Pairwise (· < ·)) (G:∀ i,D i↔Lv H0 s i) (R:e=(H0.sh s).ab+1):BQ H:=by
 have p:∀ a i,a<H.c->i<H.n->((H.sh a).nd i).id=Cv a i:=fun a i b d=>by
  rw[h.c] at b;rw[h.n] at d;by_cases e1:a=s
  ·subst e1;by_cases l:D i
   ·rw[(h.nd1 i l).1];exact n.ids a i b d
   ·rw[h.nd0 i l];exact n.ids a i b d
  ·rw[h.sh a e1];exact n.ids a i b d
 have c:∀ {a i},a<H.c->(Lv H a i↔Lv H0 a i):=fun {a i} b=>by
  have u:a<H0.c:=h.c▸b;have C:(H.sh a).ak=(H0.sh a).ak:=by
   by_cases e1:a=s
   ·subst e1;exact h.ak
   ·rw[h.sh a e1]
  unfold Lv;rw[C,h.n];constructor
  ·rintro ⟨o,q⟩;rw[p a i b (by rw[h.n];exact o)] at q;rw[n.ids a i u o];exact⟨o,q⟩
  ·rintro ⟨o,q⟩;rw[n.ids a i u o] at q;rw[p a i b (by rw[h.n];exact o)];exact⟨o,q⟩
 have f:∀ a i,lg H a i=lg H0 a i:=fun a i=>by
  by_cases e1:a=s
  ·subst e1;by_cases l:D i
   ·exact(h.nd1 i l).2.2.2.2.1
   ·unfold lg;rw[h.nd0 i l]
  ·unfold lg;rw[h.sh a e1]
 have t:s<H.c:=by rw[h.c];exact n.hs
 refine⟨by rw[h.n];exact n.n4,p,fun a b=>?_,fun a b i k z d r=>?_,fun a b i k d r=>?_,fun a i b d=>?_,fun m I=>?_⟩
 ·by_cases e1:a=s
  ·subst e1;refine⟨L,v,fun i d=>by rw[h.n];exact((F i).1 d).1,fun i d=>(F i).2 ((c b).1 d),fun i d=>?_⟩;obtain⟨_,a2,Q,O,_⟩:=h.nd1 i ((G i).2 ((c b).1 d));rw[h.ab];exact⟨a2,Q,O⟩
  ·obtain⟨M,g⟩:=n.cfg a (h.c▸b) e1;refine⟨M,g.sorted,by rw[h.n];exact g.lt,fun i d=>g.mem i ((c b).1 d),fun i d=>?_⟩;rw[h.sh a e1];exact g.nd i ((c b).1 d)
 ·rw[f,f];exact n.pre a (h.c▸b) i k z ((c b).1 d) ((c b).1 r)
 ·rw[f];by_cases e1:a=s
  ·subst e1;exact(h.nd1 i ((G i).2 ((c b).1 d))).2.2.2.2.2 k ((c b).1 r)
  ·rw[h.sh a e1];exact n.st a (h.c▸b) i k ((c b).1 d) ((c b).1 r)
 ·rw[h.ndd];have:=n.dn a i (h.c▸b) (h.n▸d);by_cases e1:a=s
  ·subst e1;rw[h.ak];exact this
  ·rw[h.sh a e1];exact this
 ·rw[h.ndd];obtain⟨o,q,E⟩:=h.nl m I;refine⟨o,q,?_⟩;rcases E with E|⟨j,J,B,K,y,x⟩
  ·obtain⟨_,_,a,i,b,d,A,hI⟩:=n.ms m E;refine⟨a,i,by rw[h.c];exact b,by rw[h.n];exact d,A,?_⟩;by_cases e1:a=s
   ·subst e1;have:=hI.ep;exact⟨by rw[h.ab];omega,by rw[h.ab];exact fun l=>by omega,by rw[h.ab];exact fun l=>by omega⟩
   ·exact⟨by rw[h.sh a e1];exact hI.ep,by rw[h.sh a e1,f];exact hI.fwd,by rw[h.sh a e1];exact fun l N k r=>by rw[f];exact hI.st l N k ((c (by rw[h.c];exact b)).1 r)⟩
  ·exact⟨s,j,t,by rw[h.n];exact J,B,by rw[h.ab];omega,fun _ l=>absurd l y,fun _ l i d=>by rw[f];exact x l i ((c t).1 d)⟩
end
structure FixF (H H':Hs) (s:Nat):Prop where
 chi:BQ H'
 n:H'.n=H.n
 c:H'.c=H.c
 m:H'.m=H.m
 lv:∀ a i,a<H.c->(Lv H' a i↔Lv H a i)
 lg:∀ a i,lg H' a i=lg H a i
 sh:∀ a,a≠s->H'.sh a=H.sh a
 ak:∀ a,(H'.sh a).ak=(H.sh a).ak
 ab:((H'.sh s).ab=(H.sh s).ab/\(H.sh s).aj H.n=[])\/(H'.sh s).ab=(H.sh s).ab+1
 ae:H'.ae=H.ae
 tx:∀ i,(H'.tx i).state=(H.tx i).state/\(H'.tx i).aa=(H.tx i).aa/\(H'.tx i).ad=(H.tx i).ad/\(H'.tx i).places=(H.tx i).places/\(H'.tx i).ae=(H.tx i).ae
theorem q69 (s:Nat) (ids:List Int):∀ (l:List Nat) (H:Hs),(l.foldl (Hs.ay s ids) H).n=H.n/\(l.foldl (Hs.ay s ids) H).c=H.c/\(l.foldl (Hs.ay s ids) H).m=H.m/\(l.foldl (Hs.ay s ids) H).ae=H.ae/\(l.foldl (Hs.ay s ids) H).tx=H.tx
 | [],_=>⟨rfl,rfl,rfl,rfl,rfl⟩
 | j::l,H=>by
  obtain⟨f,d,c,b,a⟩:=q69 s ids l (Hs.ay s ids H j);exact⟨f,d,c,b,a⟩
theorem Bg.ids_eq {H:Hs} {s:Nat} (h:∀ j,Lv H s j->((H.sh s).nd j).id=Cv s j):(H.sh s).ids H.n=((H.sh s).aj H.n).map (Cv s):=by
 unfold Bg.ids;exact List.map_congr_left (fun j a=>h j (q2l.1 a))
theorem qcj {H:Hs} {s:Nat} (a:(H.sh s).aj H.n≠[]):H.fix s=H.aW s:=by unfold Hs.fix;rw[if_neg a]
theorem J5 {H:Hs} {s:Nat} (a:(H.sh s).aj H.n=[]):H.fix s=H:=by unfold Hs.fix;rw[if_pos a]
theorem ChF.fix {H:Hs} {s:Nat} (h:ChF H s):FixF H (H.fix s) s:=by
 by_cases G:(H.sh s).aj H.n=[]
 ·rw[J5 G];have z:∀ i,¬Lv H s i:=fun i E=>by have:=q2l.2 E;rw[G] at this;cases this
  refine⟨⟨h.n4,h.ids,fun a l=>?_,h.pre,h.st,h.dn,h.ms⟩,rfl,rfl,rfl,fun _ _ _=>Yr,fun _ _=>rfl,fun _ _=>rfl,fun _=>rfl,.inl ⟨rfl,G⟩,rfl,fun _=>⟨rfl,rfl,rfl,rfl,rfl⟩⟩;by_cases e:a=s
  ·subst e;exact⟨[],Yj,fun _ h=>(nomatch h),fun i E=>absurd E (z i),fun i E=>absurd E (z i)⟩
  ·exact h.cfg a l e
 ·rw[qcj G];have O:Xa ((H.sh s).ab+1)=(H.sh s).ab+1:=Xq _ ⟨by have:=h.ep;omega,by have:=h.ep;omega⟩;have p:∀ i,i∈(H.sh s).aj H.n↔Lv H s i:=fun i=>q2l
  have r:=qca (H.sh s) H.n;have C:=Bg.ids_eq (H:=H) (s:=s) (fun j B=>h.ids s j h.hs B.1);unfold Hs.aW;simp only[C,O];generalize Q:(H.sh s).aj H.n=L at *;generalize d:H.al s { H.sh s with ab:=(H.sh s).ab+1,size:=L.length } = H1;have t:H1.sh s = { H.sh s with ab:=(H.sh s).ab+1,size:=L.length }:=by rw[<- d];exact Cj _ _ _
  have M:NZ H H1 s ((H.sh s).ab+1) L (fun _=>False):=by
   refine⟨by rw[<- d];rfl,by rw[<- d];rfl,fun a l=>by rw[<- d];exact AF l _,by rw[t],by rw[t],fun j _=>by rw[t],fun j B=>B.elim,fun m K=>?_,by rw[<- d];rfl⟩;rw[<- d] at K;obtain⟨q,v,_⟩:=h.ms m K;exact⟨q,v,.inl K⟩
  have g:=NZ.joins h p r L M (fun j B=>⟨(p j).1 B,fun h=>h⟩) (r.imp (fun {a b} h=>by omega));have f:=q69 s (L.map (Cv s)) L H1;have x:H1.tx=H.tx:=by rw[<- d];rfl
  have I:H1.ae=H.ae:=by rw[<- d];rfl
  have J:H1.m=H.m:=by rw[<- d];rfl
  generalize List.foldl (Hs.ay s (L.map (Cv s))) H1 L=H2 at *;have u:=g.done h p r (fun i=>by rw[p];simp) rfl;generalize n:H2.al s { H2.sh s with tab:=fun _=>B0,sto:=fun _=>[],done:=0 } = H3;have y:Bf H2 H3:=by rw[<- n];exact Bf.al rfl rfl rfl
  have c:Bf H2 (H3.take s):=y.trans (Bf.take H3 s);have o:=BF.take H3 s;have A:∀ a i,lg H2 a i=lg H a i:=fun a i=>by
   by_cases e1:a=s
   ·subst e1;by_cases N:i∈L\/False
    ·exact(g.nd1 i N).2.2.2.2.1
    ·unfold lg;rw[g.nd0 i N]
   ·unfold lg;rw[g.sh a e1]
  have F:∀ a,(H2.sh a).ak=(H.sh a).ak:=fun a=>by
   by_cases e1:a=s
   ·subst e1;exact g.ak
   ·rw[g.sh a e1]
  refine⟨u.same c,?_,?_,?_,fun a i l=>?_,fun a i=>(c.lg a i).trans (A a i),fun a l=>?_,fun a=>(c.ak a).trans (F a),.inr ?_,?_,fun i=>?_⟩
  ·exact c.n.trans g.n
  ·exact c.c.trans g.c
  ·rw[o.m,<- n];exact f.2.2.1.trans J
  ·rw[c.lv];unfold Lv;rw[g.n,F];constructor
   ·rintro ⟨q,v⟩;rw[u.ids a i (by rw[g.c];exact l) (by rw[g.n];exact q)] at v;rw[h.ids a i l q];exact⟨q,v⟩
   ·rintro ⟨q,v⟩;rw[h.ids a i l q] at v;rw[u.ids a i (by rw[g.c];exact l) (by rw[g.n];exact q)];exact⟨q,v⟩
  ·rw[o.sh a l,<- n];exact(AF l _).trans (g.sh a l)
  ·exact(c.ab s).trans g.ab
  ·rw[o.ae,<- n];exact f.2.2.2.1.trans I
  ·have:=o.tx i;have e:H3.tx i=H.tx i:=by rw[<- n];show H2.tx i=_;rw[f.2.2.2.2,x]
   rw[e] at this;exact this
theorem q4j (bs:Nat->Nat->Bool):∀ (k i:Nat) (r:Hs×Bool),Sm r.1 (Hs.round bs k i r).1
 | 0,_,r=>Sm.refl _
 | k+1,i,r=>(q3d r.1 i (bs i)).1.sm.trans (q4j bs k (i+1) ((r.1.ar i (bs i)).1,(r.1.ar i (bs i)).2 || r.2))
theorem Wf.round {bs:Nat->Nat->Bool} : ∀ (k i:Nat) {r:Hs×Bool},Wf r.1->r.1.c=3->1<=i->i+k<=r.1.m+1->Wf (Hs.round bs k i r).1
 | 0,_,_,h,_,_,_=>h
 | k+1,i,r,h,a,b,c=>by
  have f:=(q3d r.1 i (bs i)).1.sm;exact Wf.round k (i+1) (h.ar a b (by omega) _) (f.c.trans a) (by omega) (by show i+1+k<=(r.1.ar i (bs i)).1.m+1;rw[f.m];omega)
theorem Sm.settle {H H':Hs} (h:EU H H'):Sm H H':=by
 induction h with
 | @stop H bs _=>exact q4j bs H.m 1 (H,Jx)
 | @more H H' bs _ _ a=>exact(q4j bs H.m 1 (H,Jx)).trans a
theorem Wf.settle {H H':Hs} (h:EU H H'):Wf H->H.c=3->Wf H':=by
 induction h with
 | @stop H bs _=>exact fun b a=>Wf.round (r:=(H,Jx)) H.m 1 b a (L1 _) (by show 1+H.m<=H.m+1;omega)
 | @more H H' bs _ _ c=>exact fun b a=>c (Wf.round (r:=(H,Jx)) H.m 1 b a (L1 _) (by show 1+H.m<=H.m+1;omega)) ((q4j bs H.m 1 (H,Jx)).c.trans a)
def PO (P:Aw) (m:Nat) (w:B1):Nat:=((WG 1 m).filter fun a=>decide (intOf ((w.cell? ⟨P.gt a,1,B0⟩).getD undef)=2)).length
def MO (P:Aw) (m:Nat) (v:Hi) (w:B1):Nat:=match v with
 | .bool T2=>1+PO P m w
 | _=>0
section
variable {w w':B1} {own own':Ai} {P:Aw} {H:Hs}
theorem HI.cnt (h:HI w own P H):PO P H.m w=OA H:=by
 unfold PO OA;congr 1;apply X3;intro a c;rw[X2] at c;obtain⟨v,b⟩:=h.tx a (by omega) (by omega);rw[b.cells.2.1];rfl
def OuRel (P:Aw) (own:Ai) (H:Hs) (w:B1) (b:Hi) (wr:B1):Prop:=
 ∃ (a:Bool) (H2:Hs),b=.bool a/\Ch P own H2 w wr/\Wf H2/\H2.c=3/\H2.m=H.m/\(a=T2->∀ H',EU H2 H'->EU H H')/\(a=Jx->EU H H2)
def S9 (P:Aw) (own:Ai) (H2:Hs) (w:B1) (d c:Hi) (wr:B1):Prop:=
 ∃ (q:Nat) (a:Bool) (bs:Nat->Nat->Bool) (b:Hs),c=.int .i64 q/\d=.bool a/\q<=H2.m/\Ch P own b w wr/\Wf b/\b.c=3/\b.m=H2.m/\Hs.round bs q 1 (H2,Jx)=(b,a)/\OA b+(if a then 1 else 0)<=OA H2
theorem UU {H2 c:Hs} {q:Nat} {a:Bool} {bs:Nat->Nat->Bool} (h:Hs.round bs q 1 (H2,Jx)=(c,a)) (b:Nat->Bool):Hs.round (Ae bs (q+1) b) (q+1) 1 (H2,Jx)=((c.ar (q+1) b).1,(c.ar (q+1) b).2 || a):=by
 rw[qb1,q97 (bs:=Ae bs (q+1) b) (bs':=bs) q 1 (H2,Jx) (fun x f d=>AF (by omega) _),h];rw[show 1+q=q+1 by omega,Ay]
theorem in_cnt {H2 c:Hs} {q:Nat} {a:Bool} (f:OA c+(if a then 1 else 0)<=OA H2) (d:q+1<=c.m) (b:Nat->Bool):OA (c.ar (q+1) b).1+(if (c.ar (q+1) b).2 || a then 1 else 0)<=OA H2:=by
 obtain⟨h,g⟩:=I2 c (i:=q+1) (by omega) d b;cases e:(c.ar (q+1) b).2 with
 | false=>rw[h e,YE];exact f
 | true=>
  have:=g e;rw[Bool.true_or,if_pos rfl];omega
def SetP (P:Aw) (own:Ai) (H:Hs) (w:B1) (e:WA) (w':B1):Prop:=e=.returned (.tuple #[])/\∃ H',EU H H'/\Ch P own H' w w'
theorem q47 (h:HI w own P H) (wf:Wf H) (hc:H.c=3):VX Tryz.prog 38 #[pw P.g] w (SetP P own H w):=by
 have HH:=LH h;have aa:=LH wf;clear h wf;unfold pw;go_enter Tryz.func38,Tryz.ntmps38;go_wp2_with fail;go_loopw [2] (OuRel P own H w) (fun v wr=>MO P H.m v wr)
 case atStart=>exact⟨T2,H,rfl,⟨own,HH.o,HZ.refl _ _ _⟩,aa.o,hc,rfl,fun _ H' h=>h,fun h=>(by cases h)⟩
 case round=>
  obtain⟨a,H2,rfl,⟨f,z,N⟩,O,a7,Z,C,X⟩:=hrel;cases a with
  | false=>
   have HF:=LH (show SetP P own H w (.returned (.tuple #[])) wr from⟨rfl,H2,X rfl,f,z,N⟩);clear z N C X O;go_wp2_with fail
   go_end0
   exact HF.o
  | true=>
   have U:=LH (C rfl);have T:=z.cnt;have a6:=LH T;have ag:=LH z;have a8:=LH N;have ab:=LH O;obtain⟨vh,E⟩:=z.hs;obtain⟨_,_,c4,_,gl⟩:=E.cells;obtain⟨A,c,hV,_,_⟩:=AK E.txr;rw[hV] at c4;have ad:=LH (fun W own' (hz:AA wr f W own')=>(hV▸hz.fr.own E.txr (fun b hb hs=>(hs.tag (E.bh b hb)).1 rfl):W.ownsRow 0 74 1 (.slice A H2.m c) H2.m ((WG 1 H2.m).map fun i=>pw (P.gt i))));have V:=LH O.bC;clear C X T z N O E hV;go_wp2_with fail;clear c4;rename B1=>W0
   go_loopw [2,11] (S9 P f H2 W0) (fun _ u _=>H2.m-(intOf u).toNat)
   case atStart=>exact⟨0,Jx,fun _ _=>Jx,H2,rfl,rfl,VK _,⟨f,ag.o,HZ.refl _ _ _⟩,ab.o,a7,rfl,rfl,by simp⟩
   case round=>
    obtain⟨q,a,bs,d,rfl,rfl,hq,⟨S,x,F⟩,G,t,Y,n,M⟩:=hrel;by_cases ak:(q:Int)<H2.m
    ·obtain⟨r,c',hV,hr,u,hu,K⟩:=Tw (ad.o _ _ F) (k:=q) (by omega);injection hV with hA _ hcp;subst hA hcp;rw[VT,List.getElem?_range' (by omega)] at hu;simp only[Wv,VN] at hu;rw[show 1+1*q=q+1 by omega] at hu;subst hu;unfold pw at K;obtain⟨vt,a1⟩:=x.tx (q+1) (by omega) (by omega);obtain⟨_,k1,_,_,_,_,_,kl⟩:=a1.cells;have R:=LH x;have Q:=LH F;have a0:=LH G;have ae:=LH (fun b=>UU n b);have ah:=LH (fun b=>in_cnt M (show q+1<=d.m by omega) b);have a9:=LH (fun b=>G.ar t (show 1<=q+1 by omega) (show q+1<=d.m by omega) b);have ac:=LH (fun b=>(q3d d (q+1) b).1.sm);have hrel:∀ (b:Nat->Bool) (W:B1) (o:Ai) (H4:Hs) (y:Bool),d.ar (q+1) b=(H4,y)->HI W o P H4->AA W0 f W o->S9 P f H2 W0 (.bool (y || a)) (.int .i64 ((q+1:Nat):Int)) W:=fun b W o H4 y e hI hZ=>by
      have e1:=ae.o b;have e2:=ah.o b;have e3:=a9.o b;have e4:=ac.o b;rw[e] at e1 e2 e3 e4;exact⟨q+1,y || a,_,H4,rfl,rfl,by omega,⟨o,hI,hZ⟩,e3,e4.c.trans t,e4.m.trans Y,e1,e2⟩
     have p:=LH hrel;have ai:q<=60:=by have:=V.o;omega
     have aj:H2.m<=60:=V.o;clear hrel a1 x F G n M;by_cases s2:(d.tx (q+1)).state=2
     ·rw[s2] at k1;have a5:=LH (Ss R.o a0.o t (show 1<=q+1 by omega) (show q+1<=d.m by omega));have J:=LH (fun b=>show d.ar (q+1) b=d.ends (q+1) b by unfold Hs.ar;rw[if_pos s2]);unfold pw at a5;clear s2;go_wp2_with fail;refine a5.o.mono ?_;rintro e w5 ⟨b,rfl,l,g,m⟩;rcases hE:d.ends (q+1) b with ⟨H4,y⟩
      rw[hE] at g;have B:=LH (p.o b w5 l H4 y ((J.o b).trans hE) g (Q.o.trans m));clear g m k1 K hE
      dsimp only
      cases y with
      | false=>
       rw[YE] at B;go_wp2_with fail;go_roundw
       ·exact B.o
       ·simp[intOf];omega
      | true=>
       rw[Bool.true_or] at B;go_wp2_with fail;go_roundw
       ·exact B.o
       ·simp[intOf];omega
     ·have e2:((d.tx (q+1)).state == 2)=Jx:=by simpa using s2
      by_cases s3:(d.tx (q+1)).state=3
      ·have I:=LH (q6j (kind:=3) R.o a0.o t (show 1<=q+1 by omega) (show q+1<=d.m by omega));have J:=LH (show d.ar (q+1) (fun _=>Jx)=(d.aM (q+1) 3,Jx) by unfold Hs.ar;rw[if_neg s2,if_pos s3]);unfold pw at I;rw[s3] at k1;clear s2 e2 s3;go_wp2_with fail;refine I.o.mono ?_;rintro e w5 ⟨rfl,l,g,m⟩;have B:=LH (p.o _ w5 l _ _ J.o g (Q.o.trans m));clear g m k1 K;rw[YE] at B;go_wp2_with fail;go_roundw
       ·exact B.o
       ·simp[intOf];omega
      ·have e3:((d.tx (q+1)).state == 3)=Jx:=by simpa using s3
       by_cases s4:(d.tx (q+1)).state=4
       ·have I:=LH (q6j (kind:=4) R.o a0.o t (show 1<=q+1 by omega) (show q+1<=d.m by omega));have J:=LH (show d.ar (q+1) (fun _=>Jx)=(d.aM (q+1) 4,Jx) by unfold Hs.ar;rw[if_neg s2,if_neg s3,if_pos s4]);unfold pw at I;rw[s4] at k1;clear s2 e2 s3 e3 s4;go_wp2_with fail;refine I.o.mono ?_;rintro e w5 ⟨rfl,l,g,m⟩;have B:=LH (p.o _ w5 l _ _ J.o g (Q.o.trans m));clear g m k1 K;rw[YE] at B;go_wp2_with fail;go_roundw
        ·exact B.o
        ·simp[intOf];omega
       ·have e4:((d.tx (q+1)).state == 4)=Jx:=by simpa using s4
        have B:=LH (p.o (fun _=>Jx) wr S d Jx (by unfold Hs.ar;rw[if_neg s2,if_neg s3,if_neg s4]) R.o Q.o);rw[YE] at B;clear s2 s3 s4;go_wp2_with fail;go_roundw
        ·exact B.o
        ·simp[intOf];omega
    ·obtain rfl:q=H2.m:=by omega
     have a3:=x.cnt;have a4:OuRel P own H w (.bool a) wr:=by
      refine⟨a,d,rfl,⟨S,x,a8.o.trans F⟩,G,t,Y.trans Z,fun ha H' hs=>U.o H' ?_,fun ha=>U.o d ?_⟩
      ·have:=EU.more (H:=H2) bs (by rw[n];exact ha) (H':=H') (by rw[n];exact hs);exact this
      ·have:=EU.stop (H:=H2) bs (by rw[n];exact ha);rw[n] at this;exact this
     have a2:MO P H.m (.bool a) wr<MO P H.m (.bool T2) W0:=by
      have e0:=a6.o;rw[Z] at e0;rw[Y,Z] at a3;cases a with
      | false=>show 0<1+PO P H.m W0;omega
      | true=>
       show 1+PO P H.m wr<1+PO P H.m W0;rw[if_pos rfl] at M;omega
     have HO:=LH a4;have af:=LH a2;clear a4 a2 a3 x F G n M;go_wp2_with fail;go_roundw
     case rel=>exact HO.o
     case measure=>exact af.o
end
def Gt (P:Aw) (own:Ai) (w:B1) (r:Int×Hs) (e:WA) (w':B1):Prop:=e=.returned (CX r.1)/\Ch P own r.2 w w'
theorem q71 {P:Aw} {m:Nat} {id:Int} (h:id<1\/m<id):Ec P m id=.pointer B0:=by unfold Ec;rw[if_pos h]
theorem q5a {P:Aw} {m i:Nat} (b:1<=i) (a:i<=m):Ec P m i=pw (P.gt i):=by unfold Ec;rw[if_neg (by omega)];rfl
section
variable {w w':B1} {own own':Ai} {P:Aw} {H:Hs}
theorem Su (h:HI w own P H) (b:Wf H) (q:H.c=3) (id:Int):VX Tryz.prog 16 #[pw P.g,.int .i64 id] w (Gt P own w (H.drop id)):=by
 have d:=LH (q4s h (by have:=b.bC;omega) id);by_cases a:id<1\/H.m<id
 ·have c:=LH (show Gt P own w (H.drop id) (.returned (.iface 79 (.int .i64 7))) w from by unfold Hs.drop;rw[if_pos a];exact⟨rfl,own,h,HZ.refl _ _ _⟩);rw[q71 a] at d;clear h b a;unfold pw at *;go_enter Tryz.func16,Tryz.ntmps16;go_wp2_with fail;refine d.o.mono ?_;rintro e m ⟨rfl,rfl⟩;go_wp2_with fail;go_ret;exact c.o
 ·obtain⟨i,rfl⟩:∃ i:Nat,id=i:=⟨id.toNat,by omega⟩
  have l:1<=i:=by omega
  have g:i<=H.m:=by omega
  rw[q5a l g] at d;obtain⟨v,f⟩:=h.tx i l g;obtain⟨_,n,_,_,_,_,_,u⟩:=f.cells;by_cases s1:(H.tx i).state=1
  ·have r:=LH (show H.drop i=(0,H.abort i) by unfold Hs.drop;rw[if_neg a,if_neg (fun h=>h s1)];rfl);have t:=LH (q3s h b q l g);rw[s1] at n;clear h b a f s1;unfold pw at *;go_enter Tryz.func16,Tryz.ntmps16;go_wp2_with fail;refine d.o.mono ?_;rintro e m ⟨rfl,rfl⟩;go_wp2_with fail;refine t.o.mono ?_;rintro e p ⟨rfl,o⟩;have c:=LH (show Gt P own w (H.drop i) (.returned .nilIface) p from by rw[r.o];exact⟨rfl,o⟩);clear o n;go_wp2_with fail;go_ret;exact c.o
  ·have c:=LH (show Gt P own w (H.drop i) (.returned (.iface 79 (.int .i64 6))) w from by unfold Hs.drop;rw[if_neg a,if_pos (by exact s1)];exact⟨rfl,own,h,HZ.refl _ _ _⟩);have e1:((H.tx i).state != 1)=T2:=by simpa using s1
   clear h b a f s1;unfold pw at *;go_enter Tryz.func16,Tryz.ntmps16;go_wp2_with fail;refine d.o.mono ?_;rintro e m ⟨rfl,rfl⟩;go_wp2_with fail;go_ret;exact c.o
end
theorem LP (L:List AT) (k:Nat):AH (L.eraseIdx k)=(AH L).eraseIdx k:=by
 unfold AH;rw[Yo,Yo,Xe,List.map_take,List.map_drop]
theorem Js {L:List AT} {k:Nat} {x:AT} (h:L[k]? = Bs x):(AH L)[k]? = Bs x.m:=by unfold AH;rw[VT,h];rfl
def MTakeP (P:Aw) (H:Hs) (own:Ai) (k:Nat) (w:B1) (e:WA) (w':B1):Prop:=
 ∃ x:AT,H.net.l[k]? = Bs x.m/\e=.returned (.tuple #[UM x,.nilIface])/\HI w' own P { H with net:=takeS H.net k }/\HZ Rh w own w' own/\D5 w' 0 x/\x.n<=100000/\(∀ b,Value.ownBlock (.slice x.A x.n x.k)=Bs b->own b=Bs .net)
section
variable {w w':B1} {own own':Ai} {P:Aw} {H:Hs}
theorem HI.cf (h:HI w own P H):H.net.l.length<=200:=by
 obtain⟨v,a⟩:=h.hs;rw[<- a.msgs];unfold AH;rw[Wh];exact a.nt.len
theorem Jo (h:HI w own P H) {v:KO} (c:En w own P H.c H.m H.net H.ae v) {V':Hi} {k:Nat} {lost':Int} (p:Fr (BR P.g v.Vn v.D) w w')
  (o:AJ w' 0 P.g 0 92 (OD { v with Vn:=V',L:=v.L.eraseIdx k,lost:=lost' } H.ae) V' v.D 100 (v.L.eraseIdx k) H.net.ak lost') (n:V'.ownBlock=v.Vn.ownBlock):HI w' own P { H with net:=takeS H.net k }/\HZ Rh w own w' own:=by
 have d:=G4 c p;have l:Ext own own w.heap.size:=Ext.refl _ _;have g:=c.c8 (net':=takeS H.net k) (v':={ v with Vn:=V',L:=v.L.eraseIdx k,lost:=lost' }) d l rfl rfl o (by show AH (v.L.eraseIdx k)=H.net.l.eraseIdx k;rw[LP,c.msgs]) (fun b a=>by
  rcases a with a|a|⟨x,f,a⟩
  ·exact c.aV b (.inl (by rw[<- n];exact a))
  ·exact c.aV b (.inr (.inl a))
  ·exact c.aV b (.inr (.inr ⟨x,XF f,a⟩))) (fun x f=>c.bf x (XF f))
 exact⟨h.setHs' (net':=takeS H.net k) (time':=H.ae) (GR d (fun t m=>m.elim .inl (fun e=>.inr (.inl e)))) l (fun b a=>VH (h.lt b a) d.size) ⟨_,g⟩,⟨l,d,(by first|exact Qc (by simp)|exact fun _ _ h=>h)⟩⟩
theorem O1 (h:HI w own P H) {k:Nat} (f:k<H.net.l.length):VX Tryz.prog 48 #[pw P.g,.int .i64 k] w (MTakeP P H own k w):=by
 obtain⟨v,a⟩:=h.hs;have d:k<v.L.length:=by rw[<- a.msgs] at f;unfold AH at f;rwa [Wh] at f
 refine(IS 0 P.g 0 100 _ _ v.Vn v.D v.L H.net.ak v.lost k w a.nt d).mono ?_;rintro e w' ⟨V',x,c,rfl,n,m,o,l⟩;obtain⟨q,p⟩:=Jo (lost':=v.lost) h a o n l;exact⟨x,by rw[<- a.msgs];exact Js c,rfl,q,p,m,a.bf x (O0 c),fun b g=>a.aV b (.inr (.inr ⟨x,O0 c,g⟩))⟩
theorem O5 (h:HI w own P H) {k:Nat} (c:k<H.net.l.length):VX Tryz.prog 53 #[pw P.g,.int .i64 k] w fun e w'=>e=.returned .nilIface/\HI w' own P (H.lose k)/\HZ Rh w own w' own:=by
 obtain⟨v,a⟩:=h.hs;have b:k<v.L.length:=by rw[<- a.msgs] at c;unfold AH at c;rwa [Wh] at c
 refine(RT 0 P.g 0 100 _ _ v.Vn v.D v.L H.net.ak v.lost w k a.nt b).mono ?_;rintro e w' ⟨V',lost',rfl,f,g,d⟩;obtain⟨m,l⟩:=Jo (lost':=lost') h a g f d;exact⟨rfl,m,l⟩
theorem Ps (h:HI w own P H) {k:Nat} (b:k<H.net.l.length):VX Tryz.prog 29 #[pw P.g,.int .i64 k] w (Gt P own w (0,H.lose k)):=by
 have g:=LH (O5 h b);obtain⟨l,a⟩:=h.hs;have m:=a.cells.2.2.2.2;clear h b a;unfold pw at *;go_enter Tryz.func29,Tryz.ntmps29;go_wp2_with fail;refine g.o.mono ?_;rintro e d ⟨rfl,hI,c⟩;have f:=LH (show Gt P own w (0,H.lose k) (.returned .nilIface) d from⟨rfl,own,hI,c.mono (fun _=>q7z)⟩);clear hI c;go_wp2_with fail;go_ret;exact f.o
theorem RJ (h:HI w own P H) {v:KO} (f:En w own P H.c H.m H.net H.ae v) {V':Hi} {L':List AT} {lost':Int} {net':Bk} (F:Fr (BR P.g v.Vn v.D) w w') (p:∀ y∈L',y∈v.L\/Ky w.heap.size y)
  (A:AJ w' 0 P.g 0 92 (OD { v with Vn:=V',L:=L',lost:=lost' } H.ae) V' v.D 100 L' H.net.ak lost') (E:V'.ownBlock=v.Vn.ownBlock\/∃ b,V'.ownBlock=Bs b/\w.heap.size<=b) (u:net'=⟨AH L',H.net.ak⟩) (n:∀ m∈net'.l,Gl m) :
  ∃ own',HI w' own' P { H with net:=net' }/\HZ Rh w own w' own':=by
 have l:=G4 f F;have z:Ext own (DW own w.heap.size (Fb { v with Vn:=V',L:=L',lost:=lost' }) .net) w.heap.size:=Rn;have r:∀ b,Fb { v with Vn:=V',L:=L',lost:=lost' } b->own b=Bs .net\/w.heap.size<=b:=fun b a=>by
  rcases a with a|a|⟨x,g,a⟩
  ·rcases E with c|⟨q,c,B⟩
   ·exact .inl (f.aV b (.inl (by rw[<- c];exact a)))
   ·have d:V'.ownBlock=Bs b:=a;rw[c] at d;injection d with d;exact .inr (by omega)
  ·exact .inl (f.aV b (.inr (.inl a)))
  ·rcases p x g with c|c
   ·exact .inl (f.aV b (.inr (.inr ⟨x,c,a⟩)))
   ·exact .inr (c b a)
 have o:=f.c8 (net':=net') (v':={ v with Vn:=V',L:=L',lost:=lost' }) l z rfl rfl (by rw[u];exact A) (by rw[u]) (fun b a=>Rl (r b a) a) (fun x g=>by
  have c:x.m∈net'.l:=by rw[u];exact List.mem_map.2 ⟨x,g,rfl⟩
  have B:=(n x.m c).bf;rw[(A.own x g).2] at B;omega)
 exact⟨_,h.setHs' (net':=net') (time':=H.ae) (GR l (fun t C=>C.elim .inl (fun e=>.inr (.inl e)))) z (Rk l.size (fun b a=>A.av a)) ⟨_,o⟩,⟨z,l,(by first|exact Qc (by simp)|exact fun _ _ h=>h)⟩⟩
def qaq (H:Hs):Int:=if H.net.l.length=200 then 4 else 0
theorem Q6 {s:Bk} {m:Ms} (h:∀ x∈s.l,Gl x) (b:Gl m):∀ x∈(BA s m).l,Gl x:=by
 intro x a;unfold BA at a;split at a
 ·exact h x a
 ·rcases List.mem_append.1 a with a|a
  ·exact h x a
  ·rw[VW] at a;subst a;exact b
theorem LO (h:HI w own P H) (l:Wf H) {k:Nat} (x:k<H.net.l.length):VX Tryz.prog 54 #[pw P.g,.int .i64 k] w fun e w'=>e=.returned (CX (qaq H))/\∃ own',HI w' own' P (H.twice k)/\HZ Rh w own w' own':=by
 obtain⟨v,a⟩:=h.hs;have o:v.L.length=H.net.l.length:=by rw[<- a.msgs];unfold AH;rw[Wh]
 have c:k<v.L.length:=by omega
 have d:v.L[k]? = Bs v.L[k]:=K0 c;have n:H.net.l[k]? = Bs (v.L[k]).m:=by rw[<- a.msgs];exact Js d
 have m:H.twice k = { H with net:=BA H.net (v.L[k]).m }:=by unfold Hs.twice;rw[n]
 have b:Gl (v.L[k]).m:=l.net _ (O0 n);by_cases g:H.net.l.length=200
 ·refine(KX 0 P.g 0 100 _ _ v.Vn v.D v.L H.net.ak v.lost w k a.nt c (by omega)).mono ?_;rintro e w' ⟨rfl,rfl⟩;refine⟨by unfold qaq;rw[if_pos g];rfl,own,?_,HZ.refl _ _ _⟩;have:BA H.net (v.L[k]).m=H.net:=by unfold BA CS;rw[decide_eq_true g,Bool.or_true,if_pos rfl]
  rw[m,this];exact h
 ·have u:=a.nt.len;refine(Oc 0 P.g 0 100 _ _ v.Vn v.D v.L H.net.ak v.lost w k _ a.nt d (by omega) ⟨(GC b).1,(GC b).2,a.bf _ (O0 d)⟩).mono ?_;rintro e w' ⟨V',L',lost',rfl,f,q,hs,r,p⟩;refine⟨by unfold qaq;rw[if_neg g];rfl,?_⟩;rw[m];have t:H.net=⟨AH v.L,H.net.ak⟩:=by rw[a.msgs]
  exact RJ h a r f q p (by rw[t];exact hs) (Q6 l.net b)
theorem Mk (h:HI w own P H) (c:Wf H) {k:Nat} (d:k<H.net.l.length):VX Tryz.prog 30 #[pw P.g,.int .i64 k] w (Gt P own w (qaq H,H.twice k)):=by
 have m:=LH (LO h c d);obtain⟨n,b⟩:=h.hs;have o:=b.cells.2.2.2.2;clear h d b c;unfold pw at *;go_enter Tryz.func30,Tryz.ntmps30;go_wp2_with fail;refine m.o.mono ?_;rintro e g ⟨rfl,a,hI,f⟩;have l:=LH (show Gt P own w (qaq H,H.twice k) (.returned (CX (qaq H))) g from⟨rfl,a,hI,f.mono (fun _=>q7z)⟩);clear hI f;go_wp2_with fail;go_ret;exact l.o
end
def Ev (_:Hs) (s:Nat) (l:List Nat):List (Nat×Nat):=l.map fun j=>(s,j)
def q66 (H:Hs) (a:List Nat):List (Nat×Nat):=a.flatMap fun s=>((H.sh s).aj H.n).map fun j=>(s,j)
def JM (H:Hs) (id:Int) (q:Nat×Nat):Bool:=((H.sh q.1).nd q.2).id == id
theorem No (H:Hs) (id:Int):H.node id=(q66 H [0,1,2]).find? (JM H id):=rfl
theorem G3 (H:Hs) {a:List Nat} {q s:Nat} (h:a[q]? = Bs s):q66 H (a.drop q)=Ev H s ((H.sh s).aj H.n)++q66 H (a.drop (q+1)):=by
 obtain⟨b,e⟩:=List.getElem?_eq_some_iff.1 h;rw[Xz b,e];unfold q66;rw[List.flatMap_cons];rfl
theorem Jk (H:Hs) {l:List Nat} {s i j:Nat} {rest:List (Nat×Nat)} {id:Int} (h:l[i]? = Bs j):(Ev H s (l.drop i)++rest).find? (JM H id)=if JM H id (s,j) then Bs (s,j) else(Ev H s (l.drop (i+1))++rest).find? (JM H id):=by
 obtain⟨a,e⟩:=List.getElem?_eq_some_iff.1 h;rw[Xz a,e];unfold Ev;rw[Xt,List.cons_append,List.find?_cons];cases JM H id (s,j) <;> rfl
def Jm (P:Aw):Option (Nat×Nat)->Array Hi|none=>#[.pointer B0,.pointer B0]|some (s,j)=>#[pw (P.gs s),pw (P.gn s j)]
def NodeQ (P:Aw) (H:Hs) (id:Int) (w:B1) (e:WA) (w':B1):Prop:=e=.returned (.tuple (Jm P (H.node id)))/\VJ w.heap.size w w'
def NoRel (H:Hs) (id:Int) (w:B1) (v:Hi) (wr:B1):Prop:=∃ q:Nat,v=.int .i64 q/\q<=3/\H.node id=(q66 H ([0,1,2].drop q)).find? (JM H id)/\VJ w.heap.size w wr
def NiRel (H:Hs) (id:Int) (s q:Nat) (l:List Nat) (a:B1) (v:Hi) (wr:B1):Prop:=∃ i:Nat,v=.int .i64 i/\i<=l.length/\H.node id=(Ev H s (l.drop i)++q66 H ([0,1,2].drop (q+1))).find? (JM H id)/\wr=a
section
variable {w w':B1} {own own':Ai} {P:Aw} {H:Hs}
theorem q58 {s:Nat} (h:HI w own P H) (a:Wf H) (hs:s<H.c):VX Tryz.prog 43 #[pw (P.gs s)] w (DS P H.n s (H.sh s) w):=
 JD h hs (by have:=a.n4;omega) (fun j b=>a.idOk hs b)
theorem q3w {H:Hs} {s j:Nat} (h:j∈(H.sh s).aj H.n):j<H.n:=by unfold Bg.aj at h;exact List.mem_range.1 (List.mem_filter.1 h).1
theorem Jl (h:HI w own P H) (E:Wf H) (R:H.c=3) (id:Int):VX Tryz.prog 49 #[pw P.g,.int .i64 id] w (NodeQ P H id w):=by
 have HH:=LH h;have S:=LH E;have a0:=E.n4;obtain⟨vh,m⟩:=h.hs;obtain⟨_,c3,_,_,gl⟩:=m.cells;obtain⟨F,k3,y,K,Q⟩:=m.bR (s:=0) (by omega);rw[y,R] at c3;have T:=LH (fun(s:Nat) (hs:s<3) W (hb:VJ w.heap.size w W)=>(by
  obtain⟨r,k,e,M,R⟩:=m.bR (s:=s) (by omega);rw[y] at e;injection e with e _ _;injection e with e;injection e with e _ _;subst e;exact⟨(hb.cell (p:=⟨F,s,B0⟩) M).trans R,VH M hb.size⟩:W.cell? ⟨F,s,B0⟩=Bs (pw (P.gs s))/\F<W.heap.size))
 clear h E m y Q K;unfold pw at *;go_enter Tryz.func49,Tryz.ntmps49;go_wp2_with fail;clear c3;go_loopw [15] (NoRel H id w) (fun v _=>3-(intOf v).toNat)
 case atStart=>exact⟨0,rfl,VK _,No H id,S2 _ _⟩
 case round=>
  obtain⟨q,rfl,hq,d,f⟩:=hrel;by_cases a1:(q:Int)<3
  ·obtain⟨O,J⟩:=T.o q (by omega) wr f;have I:([0,1,2]:List Nat)[q]? = Bs q:=by
    have:q=0\/q=1\/q=2:=by omega
    rcases this with rfl|rfl|rfl <;> rfl
   rw[G3 H I] at d;have U:=LH d;have Z:=LH f;have z:=LH (HH.o.below f);have X:=LH (q58 z.o S.o (s:=q) (by omega));have a2:=q2m (H.sh q) H.n;have HM:=LH (fun j (hj:j∈(H.sh q).aj H.n)=>q3w hj);unfold DS pw at X;clear d f;generalize (H.sh q).aj H.n=l at *;go_wp2_with fail;refine X.o.mono ?_;rintro e w1 ⟨V,rfl,b,x⟩;obtain⟨A,c,rfl,_,_⟩:=AK b;have HR:=LH (Rd.au b);have B:=LH (Z.o.trans (x.mono Z.o.size));have Y:=LH (z.o.below x);clear b x X O J Z z;go_wp2_with fail;go_loopw [22] (NiRel H id q q l w1) (fun v _=>l.length-(intOf v).toNat)
   case atStart=>exact⟨0,rfl,VK _,U.o,rfl⟩
   case round=>
    obtain⟨i,rfl,hi,a,rfl⟩:=hrel;by_cases a3:(i:Int)<l.length
    ·have t:i<l.length:=by omega
     obtain⟨r,o,u,hA,M,G,a4⟩:=HR.o.bQ (k:=i) t;have hx:l[i]? = Bs l[i]:=K0 t;rw[VT,hx] at G;simp only[Wv,VN] at G;subst G hA;have N:=HM.o l[i] (WE t);obtain⟨C,V,L,hN,_⟩:=Y.o.nd q l[i] (by omega) N;have HQ:=LH (Mj hN);rw[Jk H hx] at a;have n:=LH a;clear a hN;generalize l[i]=j at *;rcases hp:(((H.sh q).nd j).id == id) with _|_
     ·have g:=LH (n.o.trans (if_neg (by show ¬(((H.sh q).nd j).id == id)=T2;rw[hp];simp)));clear n;go_wp2_with fail;refine HQ.o.mono ?_;rintro e w2 ⟨rfl,rfl⟩;go_wp2_with fail;go_roundw
      case rel=>exact⟨i+1,rfl,by omega,g.o,rfl⟩
      case measure=>simp[intOf];omega
     ·have g:=LH (n.o.trans (if_pos (by show(((H.sh q).nd j).id == id)=T2;exact hp)));clear n;go_wp2_with fail;refine HQ.o.mono ?_;rintro e w2 ⟨rfl,rfl⟩;go_wp2_with fail;go_ret2;exact⟨by rw[g.o];rfl,B.o⟩
    ·obtain rfl:i=l.length:=by omega
     rw[List.drop_length] at a;have HN:=LH (show NoRel H id w (.int .i64 ((q+1:Nat):Int)) wr from⟨q+1,rfl,by omega,a,B.o⟩);clear a;go_wp2_with fail;go_roundw
     ·exact HN.o
     ·simp[intOf];omega
  ·obtain rfl:q=3:=by omega
   have g:=LH (show H.node id=B0 from d);clear d;go_wp2_with fail;go_ret2;exact⟨by rw[g.o];rfl,f⟩
end
theorem QV (d:Nd) (m:Ms) (h:d.log.length<=500):(d.step m).2.length<=100000:=by
 rw[qbw];split
 ·simp
 ·split
  ·simp
  ·split
   ·simp;omega
   ·split
    ·unfold Nd.grow Nd.tick;split
     ·split
      ·simp
      ·split
       ·split <;> simp
       ·simp
     ·simp
    ·split
     ·split <;> simp
     ·simp
theorem q8e {H:Hs} {id:Int} {s j:Nat} (h:H.node id=Bs (s,j)):s<3/\j<H.n/\(H.sh s).ak ((H.sh s).nd j).id=Jx/\((H.sh s).nd j).id=id:=by
 rw[No] at h;have g:=WT h;have n:=List.find?_some h;unfold q66 at g;obtain⟨a,m,l⟩:=List.mem_flatMap.1 g;obtain⟨b,c,e⟩:=List.mem_map.1 l;injection e with e1 e2;subst e1 e2;unfold Bg.aj at c;obtain⟨f,d⟩:=List.mem_filter.1 c;refine⟨?_,List.mem_range.1 f,by simpa using d,by simpa [JM] using n⟩;simp at m;omega
theorem Wf.a9 {H:Hs} (h:Wf H) (k:Nat):Wf ({ H with net:=takeS H.net k } : Hs):=
 h.of rfl rfl rfl rfl h.nd h.tab h.sto (fun _ _=>rfl) (fun m a=>h.net m (XF a)) rfl h.tx (fun _=>rfl)
theorem OG {H:Hs} {m:Ms} (h:H.node m.a4=B0):H.arrive m=H:=by unfold Hs.arrive;rw[h]
theorem OH {H:Hs} {m:Ms} {s j:Nat} (h:H.node m.a4=Bs (s,j)):H.arrive m=((H.an s j (((H.sh s).nd j).step m).1).send (((H.sh s).nd j).step m).2).take s:=by unfold Hs.arrive;rw[h]
theorem Wf.c7 {H:Hs} (h:Wf H) (f:H.c=3) {s j:Nat} (hs:s<3) (b:j<H.n) {m:Ms} (a:Gl m):Wf ((H.an s j (((H.sh s).nd j).step m).1).send (((H.sh s).nd j).step m).2):=by
 have g:=h.n4;obtain⟨d,c⟩:=MZ (h.nd s j (by omega) b) hs (by omega) a;exact(h.an d).send c
theorem Wf.arrive {H:Hs} (h:Wf H) (b:H.c=3) {m:Ms} (a:Gl m):Wf (H.arrive m):=by
 rcases e:H.node m.a4 with _|⟨s,j⟩
 ·rw[OG e];exact h
 ·rw[OH e];obtain⟨d,c,_⟩:=q8e e;exact(h.c7 b d c a).take (show s<H.c by omega)
theorem SF (H:Hs) (m:Ms):(H.arrive m).c=H.c:=by
 rcases e:H.node m.a4 with _|⟨s,j⟩
 ·rw[OG e]
 ·rw[OH e,(BF.take _ s).c];rfl
def Ti (P:Aw) (own:Ai) (H:Hs) (k:Nat) (w:B1) (e:WA) (w':B1):Prop:=e=.returned .nilIface/\∃ H',P0 H k H'/\Ch P own H' w w'
def MsgAt (W:B1) (b:Nat) (x:AT):Prop:=W.cell? ⟨b,0,B0⟩=Bs (.int .i64 x.m.ag)/\W.cell? ⟨b,1,B0⟩=Bs (.int .i64 x.m.from_)/\W.cell? ⟨b,2,B0⟩=Bs (.int .i64 x.m.a4)/\W.cell? ⟨b,3,B0⟩=Bs (.int .i64 x.m.ab)/\W.cell? ⟨b,4,B0⟩=Bs (.int .i64 x.m.n)/\W.cell? ⟨b,5,B0⟩=Bs (.int .i64 x.m.cmd.ag)/\W.cell? ⟨b,6,B0⟩=Bs (.int .i64 x.m.cmd.tx)/\W.cell? ⟨b,7,B0⟩=Bs (.int .i64 x.m.cmd.ae)/\W.cell? ⟨b,8,B0⟩=Bs (.slice x.A x.n x.k)/\b<W.heap.size
theorem msgAt {W:B1} {b:Nat} {x:AT} (h:Ab W b 116 #[.int .i64 x.m.ag,.int .i64 x.m.from_,.int .i64 x.m.a4,.int .i64 x.m.ab,.int .i64 x.m.n,.int .i64 x.m.cmd.ag,.int .i64 x.m.cmd.tx,.int .i64 x.m.cmd.ae,.slice x.A x.n x.k]):MsgAt W b x:=by
 have n:=h.cell 0;have q1:=h.cell 1;have m:=h.cell 2;have l:=h.cell 3;have g:=h.cell 4;have f:=h.cell 5;have d:=h.cell 6;have c:=h.cell 7;have a:=h.cell 8;simp only[Ft,D0,N2] at n q1 m l g f d c a;exact⟨n,q1,m,l,g,f,d,c,a,h.lt⟩
section
variable {w w':B1} {own own':Ai} {P:Aw} {H:Hs}
theorem qa2 (h:HI w own P H) (wf:Wf H) (hc:H.c=3) {k:Nat} (hk:k<H.net.l.length):VX Tryz.prog 28 #[pw P.g,.int .i64 k] w (Ti P own H k w):=by
 have HT:=LH (O1 h hk);obtain⟨vh,a7⟩:=h.hs;have gl:=a7.cells.2.2.2.2;have ak:=LH wf;clear h a7 hk wf;unfold pw at *;go_enter Tryz.func28,Tryz.ntmps28;go_wp2_with fail;refine HT.o.mono ?_;rintro e v ⟨x,hx,rfl,E,af,B,ar,aq⟩;have a6:Gl x.m:=ak.o.net _ (O0 hx);have a:=ak.o.a9 k;obtain⟨I,F⟩:∃ I:Hs,I = { H with net:=takeS H.net k }:=⟨_,rfl⟩
 rw[<- F] at E a;have l:I.c=3:=by rw[F];exact hc
 have ap:=LH (show ∀ H',EU (I.arrive x.m) H'->P0 H k H' from fun H' r=>.some hx (by rw[<- F];exact r));have z:=(S2 v.heap.size v).alloc (L1 _) (.cells #[.int .i64 x.m.ag,.int .i64 x.m.from_,.int .i64 x.m.a4,.int .i64 x.m.ab,.int .i64 x.m.n,.int .i64 x.m.cmd.ag,.int .i64 x.m.cmd.tx,.int .i64 x.m.cmd.ae,.slice x.A x.n x.k] 116);have ac:=Ab.new v 116 #[.int .i64 x.m.ag,.int .i64 x.m.from_,.int .i64 x.m.a4,.int .i64 x.m.ab,.int .i64 x.m.n,.int .i64 x.m.cmd.ag,.int .i64 x.m.cmd.tx,.int .i64 x.m.cmd.ae,.slice x.A x.n x.k];have a2:=LH (E.below z);have aj:=LH ((af.mono (fun _=>q7z)).trans (HZ.below own z):AA w own _ own);have a0:=LH (Jl a2.o a l x.m.a4);have a3:=LH ac;have G:=LH (show D5 _ 0 x from⟨(DV z).own B.1 (fun b hb (hs:v.heap.size<=b)=>by have:=(B.1.lt b hb).2;omega),B.2⟩);have al:=LH (show own v.heap.size=B0 from by
  rcases e:own v.heap.size with _|t
  ·rfl
  ·exact absurd (E.lt v.heap.size (by rw[e];simp)) (Nat.lt_irrefl _))
 have U:=LH a6;have c:=LH a;unfold pw at a0;unfold UM Dr;clear hx E af B a6 a F z ac HT aq;go_wp2_with fail;refine a0.o.mono ?_;rintro e J ⟨rfl,n⟩;have a1:=LH (a2.o.below n);have ai:=LH (aj.o.trans (HZ.below own n));have R:=LH ((DV n).ah a3.o (fun hs=>by have:=a3.o.lt;omega));have am:=LH ((DV n).own G.o.1 (fun b hb hs=>by have:=(G.o.1.lt b hb).2;omega));have aA:=LH G.o.2;clear n a0 a2 aj a3 G;rcases g:I.node x.m.a4 with _|⟨s,j⟩
 ·have u:=LH (q47 a1.o c.o l);have ao:=LH (show ∀ H',EU I H'->P0 H k H' from fun H' r=>ap.o H' (by rw[OG g];exact r));unfold pw at u;unfold Jm;clear g;go_wp2_with fail;refine u.o.mono ?_;rintro e w3 ⟨rfl,H',hr,K,p,o⟩;have HF:=LH (show Ti P own H k w (.returned .nilIface) w3 from⟨rfl,H',ao.o H' hr,K,p,ai.o.trans o⟩);clear hr p o;go_wp2_with fail;go_ret;exact HF.o
 ·obtain⟨aa,y,_,_⟩:=q8e g;have aB:=LH (OH g);have ay:=LH (c.o.c7 l aa y U.o);have Q:=LH (MZ (c.o.nd s j (by omega) y) aa (show j<4 by have:=c.o.n4;omega) U.o);have O:((I.sh s).nd j).log.length<=500:=by
   obtain⟨C,V,L,hN,_⟩:=a1.o.nd s j (by omega) y;rw[<- hN.log];unfold AM;rw[Wh];exact hN.len
  have an:=LH (QV _ x.m O);have a9:s<I.c:=by omega
  have az:=LH (show FA J.drew J.drew.heap.size x.A x.n x.m.cmd.aa from⟨aA.o,(Rd.au am.o).below (S2 _ _).drew⟩);have a5:x.A=B0->x.k=0:=Je am.o;have Y:=LH (Pq (a1.o.below (S2 J.heap.size J).drew) a9 y x.m x.A x.n x.k az.o a5 ar);have f:=msgAt (show Ab J.drew _ _ _ from R.o);unfold pw at Y;unfold Jm pw;clear g O a5;go_upto_region 6 with (fail)
  refine nW ?_;refine CU (fun W=>MsgAt W v.heap.size x) 6 (fun _ _ _ _ _ h=>h) (fun d=>?_);refine nD 0 [1,2,6] d f ?_;refine nD 1 [2,6] d f ?_;refine nD 2 [6] d f ?_;refine nD 3 [5,6] d f ?_;refine nA 4 [5,6] rfl rfl d f (fun w' au=>by obtain⟨p0,p1,p2,p3,p4,p5,p6,p7,p8,pl⟩:=au;go_simp;rfl) ?_;clear f;refine nG 5 (fun KK hK=>?_);go_simp;refine Y.o.mono ?_;rintro e w3 ⟨V,rfl,ho,aD,ah,S,N⟩;have m:=S.fr.ah (show Ab J.drew v.heap.size _ _ from R.o) (fun hs=>hs.owned al.o);have ab:=msgAt m;have a8:=q6y ah ho (fun q hq=>by rcases N q hq with e|e <;> (rw[e];simp)) Q.o.2 (c.o.an Q.o.1) an.o;have Z:=LH a8;have ax:=LH (ai.o.trans ((HZ.below own (S2 J.heap.size J).drew).trans (S.mono (fun _=>M8))));obtain⟨A,kk,M,rfl,_⟩:=ho;unfold pw at Z;clear a8 N ah S m Y;go_simp;refine hK _ _ (fun _=>ab) ?_;clear hK KK ab;refine nG 6 (fun KK hK=>?_);go_simp;refine Z.o.mono ?_;rintro e w4 ⟨d4,K,rfl,p,o⟩;go_simp;refine hK _ _ nZ ?_;clear hK KK;refine nX ?_;clear d;have X:=LH (q9t p ay.o (show s<_ from a9));have aw:=LH (ax.o.trans (o.mono (fun _=>q7z)));unfold pw at X;clear p o Z;go_wp2_with fail;refine X.o.mono ?_;rintro e w5 ⟨rfl,aC,T,ae⟩;rw[<- aB.o] at T;have u:=LH (q47 T (c.o.arrive l U.o) ((SF I x.m).trans l));have av:=LH (aw.o.trans (ae.mono (fun _=>QZ)));unfold pw at u;clear T ae X;go_wp2_with fail;refine u.o.mono ?_;rintro e w6 ⟨rfl,H',hr,a4,ag,ad⟩;have HF:=LH (show Ti P own H k w (.returned .nilIface) w6 from⟨rfl,H',ap.o H' hr,a4,ag,av.o.trans ad⟩);clear hr ag ad;go_wp2_with fail;go_ret;exact HF.o
end
theorem IM (d:Nd):d.tick.2.length<=100000:=by
 unfold Nd.tick;split
 ·simp
 ·split
  ·split <;> simp
  ·simp
theorem Wf.aO {H:Hs} (h:Wf H) (d:H.c=3) {s j:Nat} (hs:s<3) (a:j<H.n):Wf (H.aO s j):=by
 have f:=h.n4;obtain⟨c,b⟩:=q8s (h.nd s j (by omega) a) hs (by omega);exact(h.an c).send b
noncomputable def tickds (s:Nat) (H:Hs) (l:List Nat):Hs:=l.foldl (Hs.aO s) H
theorem IL {s:Nat} {H:Hs} {l:List Nat} {i j:Nat} (h:l[i]? = Bs j):tickds s H (l.take (i+1))=Hs.aO s (tickds s H (l.take i)) j:=by
 unfold tickds;rw[VV,h,WS];rfl
theorem q4g (s:Nat):∀ (l:List Nat) (H:Hs),(tickds s H l).n=H.n/\(tickds s H l).c=H.c/\(tickds s H l).m=H.m
 | [],_=>⟨rfl,rfl,rfl⟩
 | j::l,H=>q4g s l (Hs.aO s H j)
theorem Wf.cw {s:Nat} (hs:s<3):∀ (l:List Nat) {H:Hs},Wf H->H.c=3->(∀ j∈l,j<H.n)->Wf (tickds s H l)
 | [],_,h,_,_=>h
 | j::l,H,h,hc,hl=>Wf.cw hs l (H:=Hs.aO s H j) (h.aO hc hs (hl j (VL ..))) hc (fun q a=>hl q (VM _ a))
noncomputable def tickd (H:Hs) (a:List Nat):Hs:=a.foldl Hs.aZ H
theorem Fg (H:Hs) (s:Nat):H.aZ s=tickds s H ((H.sh s).aj H.n):=rfl
theorem KY {H:Hs} {a:List Nat} {i s:Nat} (h:a[i]? = Bs s):tickd H (a.take (i+1))=(tickd H (a.take i)).aZ s:=by
 unfold tickd;rw[VV,h,WS];rfl
theorem q5e:∀ (a:List Nat) (H:Hs),(tickd H a).n=H.n/\(tickd H a).c=H.c/\(tickd H a).m=H.m
 | [],_=>⟨rfl,rfl,rfl⟩
 | s::a,H=>by
  obtain⟨a1,a2,c⟩:=q4g s ((H.sh s).aj H.n) H;obtain⟨b1,b2,b⟩:=q5e a (H.aZ s);exact⟨b1.trans a1,b2.trans a2,b.trans c⟩
theorem Wf.ck:∀ (a:List Nat) {H:Hs},Wf H->H.c=3->(∀ s∈a,s<3)->Wf (tickd H a)
 | [],_,h,_,_=>h
 | s::a,H,h,hc,hl=>by
  obtain⟨a1,a2,d⟩:=q4g s ((H.sh s).aj H.n) H;exact Wf.ck a (H:=H.aZ s) (Wf.cw (hl s (VL ..)) _ h hc (fun j c=>q3w c)) (a2.trans hc) (fun q b=>hl q (VM _ b))
def TcRel (P:Aw) (own:Ai) (H:Hs) (w:B1) (v:Hi) (wr:B1):Prop:=∃ q:Nat,v=.int .i64 q/\q<=3/\Ch P own (tickd H ([0,1,2].take q)) w wr
def TcIn (P:Aw) (own:Ai) (H:Hs) (s:Nat) (l:List Nat) (w:B1) (v:Hi) (wr:B1):Prop:=∃ i:Nat,v=.int .i64 i/\i<=l.length/\Ch P own (tickds s H (l.take i)) w wr
def NY (P:Aw) (own:Ai) (H:Hs) (w:B1) (e:WA) (w':B1):Prop:=e=.returned (.tuple #[])/\∃ H',EG H H'/\Ch P own H' w w'
section
variable {w w':B1} {own own':Ai} {P:Aw} {H:Hs}
theorem HI.shRow (h:HI w own P H) (n:H.c=3):∃ r k,(∃ v,En w own P H.c H.m H.net H.ae v/\v.Vr=.slice (Bs ⟨r,0,B0⟩) 3 k)/\∀ W own',AA w own W own'->∀ s,s<3->W.cell? ⟨r,s,B0⟩=Bs (pw (P.gs s))/\r<W.heap.size:=by
 obtain⟨v,f⟩:=h.hs;obtain⟨r,k,e,t,_⟩:=f.bR (s:=0) (by omega);rw[n] at e;refine⟨r,k,⟨v,f,e⟩,fun W own' o s hs=>?_⟩;have a:=o.fr.own f.shr (fun b q hs=>(hs.tag (f.bm b q)).2.1 rfl);rw[e,n] at a;obtain⟨g,c,d,p,u,l,m⟩:=Tw a hs;injection d with d _ _;injection d with d;injection d with d _ _;subst d;rw[VT,List.getElem?_range hs] at l;simp only[Wv,VN] at l;exact⟨by rw[m,<- l],p⟩
theorem F8 (h:HI w own P H) (wf:Wf H) (X:H.c=3):VX Tryz.prog 31 #[pw P.g] w (NY P own H w):=by
 have HH:=LH h;have a5:=LH wf;have a9:=wf.n4;obtain⟨r3,k3,⟨vh,Q,a0⟩,S⟩:=h.shRow X;obtain⟨_,c3,_,_,gl⟩:=Q.cells;rw[a0] at c3;have ai:=LH S;clear h wf Q a0 S;unfold pw at *;go_enter Tryz.func31,Tryz.ntmps31;go_wp2_with fail;clear c3;go_loopw [11] (TcRel P own H w) (fun v _=>3-(intOf v).toNat)
 case atStart=>exact⟨0,rfl,VK _,own,HH.o,HZ.refl _ _ _⟩
 case round=>
  obtain⟨q,rfl,hq,a,x,t⟩:=hrel;by_cases an:(q:Int)<3
  ·obtain⟨ab,a8⟩:=ai.o wr a t q (by omega);have R:([0,1,2]:List Nat)[q]? = Bs q:=by
    have:q=0\/q=1\/q=2:=by omega
    rcases this with rfl|rfl|rfl <;> rfl
   have ah:=LH (KY (H:=H) R);have m:=q5e ([0,1,2].take q) H;have d:Wf (tickd H ([0,1,2].take q)):=a5.o.ck _ X (fun s hs=>by have:=WB hs;simp at this;omega);have W:(tickd H ([0,1,2].take q)).c=3:=m.2.1.trans X;have am:(tickd H ([0,1,2].take q)).n<=4:=by rw[m.1];exact a9
   clear m R;generalize tickd H ([0,1,2].take q)=H2 at *;have HL:=LH (q58 x d (s:=q) (by omega));have ag:=LH (Fg H2 q);have ao:=q2m (H2.sh q) H2.n;have HM:=LH (fun j (hj:j∈(H2.sh q).aj H2.n)=>q3w hj);have J:=LH x;have a3:=LH t;have af:=LH d;unfold DS pw at HL;clear x t d;generalize (H2.sh q).aj H2.n=l at *;go_wp2_with fail;refine HL.o.mono ?_;rintro e w1 ⟨V,rfl,p,F⟩;obtain⟨A,c,rfl,_,_⟩:=AK p;have a7:=LH p;have ak:=LH (J.o.below F);have ad:=LH (a3.o.trans (HZ.below a F));have K:=LH (fun b (hb:(Value.slice A l.length c).ownBlock=Bs b)=>J.o.free (p.lt b hb).1);clear p F HL ab a8 J a3;go_wp2_with fail;go_loopw [18] (TcIn P a H2 q l w1) (fun v _=>l.length-(intOf v).toNat)
   case atStart=>exact⟨0,rfl,VK _,a,ak.o,HZ.refl _ _ _⟩
   case round=>
    obtain⟨i,rfl,hi,n,g,f⟩:=hrel;by_cases ap:(i:Int)<l.length
    ·have E:i<l.length:=by omega
     have aq:i<=4:=by omega
     obtain⟨r,c',hV,hr,u,hu,aa⟩:=Tw (Qb a7.o K.o f) (k:=i) E;injection hV with hA _ hcp;subst hA hcp;have hx:l[i]? = Bs l[i]:=K0 E;rw[VT,hx] at hu;simp only[Wv,VN] at hu;subst hu;have U:=HM.o l[i] (WE E);have aj:=LH (IL (s:=q) (H:=H2) hx);have m:=q4g q (l.take i) H2;have o:Wf (tickds q H2 (l.take i)):=af.o.cw (by omega) _ W (fun j hj=>HM.o j (WB hj));have ar:(tickds q H2 (l.take i)).c=3:=m.2.1.trans W;have C:l[i]<(tickds q H2 (l.take i)).n:=by rw[m.1];exact U
     clear m hx U;generalize l[i]=j at *;generalize tickds q H2 (l.take i)=H3 at *;have HT:=LH (Pp (g.below (S2 wr.heap.size wr).drew) (show q<H3.c by omega) C);have O:=q8s (o.nd q j (by omega) C) (show q<3 by omega) (show j<4 by have:=o.n4;omega);have a4:=LH O;have ae:=LH o;have G:=LH (f.trans (HZ.below n (S2 wr.heap.size wr).drew));unfold pw at HT;clear g f O o;go_upto_region 6 with (fail)
     clear aa;refine nW ?_;refine CU (fun _=>True) 5 (fun _ _ _ _ _ h=>h) (fun y=>?_);have z:=True.intro;refine nD 0 [1,2,5] y z ?_;refine nD 1 [2,5] y z ?_;refine nD 2 [5] y z ?_;refine nD 3 [4,5] y z ?_;clear z;refine nG 4 (fun KK hK=>?_);go_simp;refine HT.o.mono ?_;rintro e w3 ⟨V,rfl,ho,al,a2,Z,B⟩;have T:=q6y a2 ho (fun q hq=>by rcases B q hq with e|e <;> (rw[e];simp)) a4.o.2 (ae.o.an a4.o.1) (IM _);have I:=LH T;have ac:=LH (G.o.trans (Z.mono (fun _=>M8)));obtain⟨A,kk,M,rfl,_⟩:=ho;unfold pw at I;clear T B a2 Z HT;go_simp;refine hK _ _ (fun _=>True.intro) ?_;clear hK KK;refine nG 5 (fun KK hK=>?_);go_simp;refine I.o.mono ?_;rintro e w4 ⟨d4,N,rfl,a1,Y⟩;go_simp;refine hK _ _ nZ ?_;clear hK KK;refine nX ?_;clear y;have HR:=LH (show TcIn P a H2 q l w1 (.int .i64 ((i+1:Nat):Int)) w4 from⟨i+1,rfl,by omega,N,by rw[aj.o];exact a1,ac.o.trans (Y.mono (fun _=>q7z))⟩);clear a1 Y I;go_wp2_with fail;go_roundw
     ·exact HR.o
     ·simp[intOf];omega
    ·obtain rfl:i=l.length:=by omega
     rw[WR,<- ag.o] at g;have HR:=LH (show TcRel P own H w (.int .i64 ((q+1:Nat):Int)) wr from⟨q+1,rfl,by omega,n,by rw[ah.o];exact g,ad.o.trans f⟩);clear g f;go_wp2_with fail;go_roundw
     ·exact HR.o
     ·simp[intOf];omega
  ·obtain rfl:q=3:=by omega
   have d:Wf H.bn:=a5.o.ck _ X (fun s hs=>by simp at hs;omega);have a6:=LH (q47 (show HI wr a P H.bn from x) d ((q5e _ H).2.1.trans X));have G:=LH t;unfold pw at a6;clear x d t;go_wp2_with fail;refine a6.o.mono ?_;rintro e w3 ⟨rfl,H',hr,n,g,f⟩;have HF:=LH (show NY P own H w (.returned (.tuple #[])) w3 from⟨rfl,H',hr,n,g,G.o.trans f⟩);clear hr g f;go_wp2_with fail
   go_end0
   exact HF.o
end
structure Sz (H H':Hs):Prop where
 n:H'.n=H.n
 c:H'.c=H.c
 m:H'.m=H.m
theorem Sz.refl (H:Hs):Sz H H:=⟨rfl,rfl,rfl⟩
theorem Sz.trans {a b c:Hs} (h:Sz a b) (k:Sz b c):Sz a c:=⟨k.n.trans h.n,k.c.trans h.c,k.m.trans h.m⟩
theorem Sm.sz {H H':Hs} (h:Sm H H'):Sz H H':=⟨h.n,h.c,h.m⟩
theorem PT (H:Hs) (m:Ms):Sz H (H.arrive m):=by
 rcases e:H.node m.a4 with _|⟨s,j⟩
 ·rw[OG e];exact Sz.refl H
 ·rw[OH e];have h:=BF.take ((H.an s j (((H.sh s).nd j).step m).1).send (((H.sh s).nd j).step m).2) s;exact⟨h.n,h.c,h.m⟩
theorem EG.wf {H H':Hs} (h:EG H H') (b:Wf H) (a:H.c=3):Wf H'/\Sz H H':=by
 obtain⟨a1,a2,f⟩:=q5e [0,1,2] H;have c:Wf H.bn:=b.ck _ a (fun s hs=>by simp at hs;omega);have d:H.bn.c=3:=a2.trans a;exact⟨Wf.settle h c d,Sz.trans ⟨a1,a2,f⟩ (Sm.settle h).sz⟩
theorem P0.wf {H H':Hs} {k:Nat} (h:P0 H k H') (a:Wf H) (b:H.c=3):Wf H'/\Sz H H':=by
 cases h with
 | none h=>exact⟨a,Sz.refl _⟩
 | @some m d _ r=>
  have c:=(a.a9 k).arrive (show(({ H with net:=takeS H.net k } : Hs)).c=3 from b) (a.net _ (O0 d));have s1:=PT ({ H with net:=takeS H.net k } : Hs) m;exact⟨Wf.settle r c (s1.c.trans b),Sz.trans ⟨s1.n,s1.c,s1.m⟩ (Sm.settle r).sz⟩
def Tk (P:Aw) (own:Ai) (H:Hs) (w:B1) (e:WA) (w':B1):Prop:=e=.returned (.tuple #[])/\∃ H',C6 4 H H'/\Ch P own H' w w'/\Wf H'/\Sz H H'
def CaRel (P:Aw) (own:Ai) (H:Hs) (w:B1) (v:Hi) (wr:B1):Prop:=∃ (q:Nat) (H2:Hs),v=.int .i64 q/\q<=4/\Ch P own H2 w wr/\Wf H2/\Sz H H2/\∀ H',C6 (4-q) H2 H'->C6 4 H H'
def CaIn (P:Aw) (own:Ai) (b:Hs) (w:B1) (v:Hi) (wr:B1):Prop:=∃ (n:Nat) (a:Hs),v=.int .i64 n/\n<=5000/\Ch P own a w wr/\Wf a/\Sz b a/\∀ H',Tp (5000-n) a H'->Tp 5000 b H'
section
variable {w w':B1} {own own':Ai} {P:Aw} {H:Hs}
theorem O4 (h:HI w own P H):VX Tryz.prog 39 #[pw P.g] w fun e w'=>e=.returned (.int .i64 H.net.l.length)/\w=w':=by
 obtain⟨v,b⟩:=h.hs;have a:v.L.length=H.net.l.length:=by rw[<- b.msgs];unfold AH;rw[Wh]
 rw[<- a];exact Jw _ _ _ _ _ _ _ _ _ _ _ _ b.nt
theorem Km (h:HI w own P H) (wf:Wf H) (hc:H.c=3):VX Tryz.prog 15 #[pw P.g] w (Tk P own H w):=by
 have HH:=LH h;have a2:=LH wf;clear h wf;unfold pw at *;go_enter Tryz.func15,Tryz.ntmps15;go_wp2_with fail;go_loopw [3] (CaRel P own H w) (fun v _=>4-(intOf v).toNat)
 case atStart=>exact⟨0,H,rfl,VK _,⟨own,HH.o,HZ.refl _ _ _⟩,a2.o,Sz.refl H,fun _ h=>h⟩
 case round=>
  obtain⟨q,H2,rfl,hq,⟨G,u,t⟩,m,o,x⟩:=hrel;by_cases ag:(q:Int)<4
  ·have C:H2.c=3:=o.c.trans hc;have HT:=LH (F8 u m C);have V:=LH t;have a4:=LH m;have a8:=LH o;have ad:=LH x;unfold pw at HT;clear u t m o x;go_wp2_with fail;refine HT.o.mono ?_;rintro e w1 ⟨rfl,X,A,f,U,S⟩;obtain⟨J,B⟩:=EG.wf A a4.o C;have Q:X.c=3:=B.c.trans C;have ab:=LH U;have a1:=LH (V.o.trans S);have a5:=LH J;have a9:=LH (a8.o.trans B);have a6:=LH A;clear U S J B A HT V;go_wp2_with fail;go_loopw [2] (CaIn P f X w1) (fun v _=>5000-(intOf v).toNat)
   case atStart=>exact⟨0,X,rfl,VK _,⟨f,ab.o,HZ.refl _ _ _⟩,a5.o,Sz.refl X,fun _ h=>h⟩
   case round=>
    obtain⟨n,y,rfl,hn,⟨F,b,l⟩,d,c,p⟩:=hrel;obtain⟨vh,K⟩:=b.hs;have gl:=K.cells.2.2.2.2;have r:=LH (O4 b);unfold pw at r;clear K;have a:(y.net.l=[]\/n=5000)->CaRel P own H w (.int .i64 ((q+1:Nat):Int)) wr:=fun N=>by
     refine⟨q+1,y,rfl,by omega,⟨F,b,a1.o.trans l⟩,d,a9.o.trans c,fun H' Y=>ad.o H' ?_⟩;rw[show 4-q=(4-(q+1))+1 by omega];refine C6.more a6.o (p y ?_) Y;rcases N with h0|h0
     ·exact .none h0
     ·rw[h0];exact .zero y
    by_cases z:y.net.l=[]
    ·have HO:=LH (a (.inl z));have g:y.net.l.length=0:=by rw[z];rfl
     rw[g] at r;clear a b l d c p z g;go_wp2_with fail;refine r.o.mono ?_;rintro e w2 ⟨rfl,rfl⟩;go_wp2_with fail;go_roundw
     ·exact HO.o
     ·simp[intOf];omega
    ·have g:0<y.net.l.length:=List.length_pos_iff.2 z;have ae:decide ((y.net.l.length:Int) > 0)=T2:=decide_eq_true (by omega);by_cases af:(n:Int)<5000
     ·have W:=LH (qa2 b d (c.c.trans Q) g);have ah:=LH b;have a0:=LH l;have a3:=LH d;have a7:=LH c;have ac:=LH p;have aa:=LH z;have O:y.c=3:=c.c.trans Q;unfold pw at W;clear a b l d c p z;go_wp2_with fail;refine r.o.mono ?_;rintro e w2 ⟨rfl,rfl⟩;go_wp2_with fail;refine W.o.mono ?_;rintro e w3 ⟨rfl,H4,Z,E,T,R⟩;obtain⟨I,M⟩:=P0.wf Z a3.o O;have HR:=LH (show CaIn P f X w1 (.int .i64 ((n+1:Nat):Int)) w3 from⟨n+1,H4,rfl,by omega,⟨E,T,a0.o.trans R⟩,I,a7.o.trans M,fun H' Y=>ac.o H' (by
       rw[show 5000-n=(5000-(n+1))+1 by omega];exact .more aa.o Z Y)⟩)
      clear T R Z I M;go_wp2_with fail;go_roundw
      ·exact HR.o
      ·simp[intOf];omega
     ·have HO:=LH (a (.inr (by omega)));clear a b l d c p z g;go_wp2_with fail;refine r.o.mono ?_;rintro e w2 ⟨rfl,rfl⟩;go_wp2_with fail
      all_goals (go_roundw;(case rel=>exact HO.o);(case measure=>simp[intOf];omega))
  ·obtain rfl:q=4:=by omega
   have HF:=LH (show Tk P own H w (.returned (.tuple #[])) wr from⟨rfl,H2,x H2 (.zero H2),⟨G,u,t⟩,m,o⟩);clear u t m o x;go_wp2_with fail
   go_end0
   exact HF.o
end
theorem O3 (id:Int) (L:List AT):AH (Bj id L)=(AH L).filter fun m=>!gone id m:=by
 unfold AH Bj;rw[List.filter_map];rfl
theorem Vd (dead:Int->Bool) (id:Int):AU (TG dead) id (Bs (.bool T2))=TG fun i=>decide (i=id) || dead i:=by
 funext j;unfold AU TG;by_cases e:j=id
 ·subst e;simp
 ·simp[e]
theorem Bl.tight {w:B1} {n:Nat} {D:Option Nat} {dead:Int->Bool} (h:Bl w n D dead) (c:∀ i,dead i=T2->0<=i/\i<=60):Bl w 100 D dead:=by
 cases D with
 | none=>exact h
 | some b=>
  refine(Aa.tight (C:=BC) h DC (fun o _ a=>?_)).mono (by rw[Uq];omega);cases e:dead o with
  | false=>rw[e] at a;exact absurd rfl a
  | true=>have:=c o e;exact Qa this.1 this.2
def Hs.b4 (H:Hs) (id:Int):Hs:={ H with net:=EA H.net id }
def Hs.aH (H:Hs) (s:Nat) (id:Int):Hs:=H.al s { H.sh s with ak:=fun i=>decide (i=id) || (H.sh s).ak i }
theorem q73 {H:Hs} {id:Int} (h:H.node id=B0):H.fail id=H:=by unfold Hs.fail;rw[h]
theorem q72 {H:Hs} {id:Int} {s j:Nat} (h:H.node id=Bs (s,j)):H.fail id=(H.aH s id).b4 id:=by unfold Hs.fail;rw[h];rfl
def Gc (H:Hs) (id:Int):Int:=if H.node id=B0 then 7 else 0
theorem Wf.cI {H:Hs} (h:Wf H) (b:H.c=3) {s j:Nat} (hs:s<3) (a:j<H.n):0<=((H.sh s).nd j).id/\((H.sh s).nd j).id<=60:=by
 have d:=(h.nd s j (by omega) a).id;have c:=h.n4;omega
theorem Wf.aH {H:Hs} (h:Wf H) {s:Nat} {id:Int} (c:0<=id/\id<=60):Wf (H.aH s id):=by
 have e:∀ k,((H.aH s id).sh k).nd=(H.sh k).nd/\((H.aH s id).sh k).tab=(H.sh k).tab/\((H.aH s id).sh k).sto=(H.sh k).sto/\∀ i,((H.aH s id).sh k).ak i=T2->0<=i/\i<=60\/(H.sh k).ak i=T2:=fun k=>by
  by_cases d:k=s
  ·subst d;have:(H.aH k id).sh k = { H.sh k with ak:=fun i=>decide (i=id) || (H.sh k).ak i }:=Ay _ _ _;rw[this];refine⟨rfl,rfl,rfl,fun i a=>?_⟩;rcases Bool.or_eq_true_iff.1 a with a|a
   ·have:=of_decide_eq_true a;subst this;exact .inl c
   ·exact .inr a
  ·have:(H.aH s id).sh k=H.sh k:=AF d _;rw[this];exact⟨rfl,rfl,rfl,fun i a=>.inr a⟩
 exact⟨h.n4,h.c3,h.bC,fun k j b f=>by rw[(e k).1];exact h.nd k j b f,fun k b=>by rw[(e k).2.1];exact h.tab k b,fun k b=>by rw[(e k).2.2.1];exact h.sto k b,fun k b i a=>((e k).2.2.2 i a).elim (fun q=>q) (h.ak k b i),h.net,h.down,h.tx,h.tm,h.cL⟩
theorem Wf.b4 {H:Hs} (h:Wf H) {id:Int} (b:0<=id/\id<=60):Wf (H.b4 id):=
 ⟨h.n4,h.c3,h.bC,h.nd,h.tab,h.sto,h.ak,fun m c=>h.net m (List.mem_filter.1 c).1,fun i a=>by
  rcases Bool.or_eq_true_iff.1 a with a|a
  ·have:=of_decide_eq_true a;subst this;exact b
  ·exact h.down i a,h.tx,h.tm,h.cL⟩
theorem Wf.fail {H:Hs} (h:Wf H) (b:H.c=3) (id:Int):Wf (H.fail id):=by
 rcases e:H.node id with _|⟨s,j⟩
 ·rw[q73 e];exact h
 ·rw[q72 e];obtain⟨f,d,_,c⟩:=q8e e;have a:=h.cI b f d;rw[c] at a;exact(h.aH a).b4 a
section
variable {w w':B1} {own own':Ai} {P:Aw} {H:Hs}
theorem D3.di {n s g:Nat} {gn:Nat->Nat} {v:NO} {x:Bg} (h:D3 w own n s g gn v x) {a:Int->Bool} (f:Fr (fun k=>k=v.bd) w w') (o:Aa BC w' v.bd 100 (TG a)):D3 w' own n s g gn v { x with ak:=a }:=by
 have c:=h.c5;have n0:¬g=v.bd:=fun e=>by have:=h.gt;rw[e,c] at this;cases this
 have m:∀ b,AE v.mt v.cX x.tab b->¬b=v.bd:=fun b d e=>by have:=h.bq b d;rw[e,c] at this;cases this
 have n2:∀ b,Dz v.ms v.cY x.sto b->¬b=v.bd:=fun b d e=>by have:=h.b6 b d;rw[e,c] at this;cases this
 have l:∀ b,v.Vn.ownBlock=Bs b->¬b=v.bd:=fun b d e=>by have:=h.br b d;rw[e,c] at this;cases this
 have d:Ab w' g 105 (FC v { x with ak:=a }):=f.ah h.tab.ah n0;exact⟨f.own h.row l,h.br,o,c,h.tab.bO f m d rfl,h.bq,h.sto.bO f n2 d rfl rfl,h.b6,h.gt⟩
theorem O7 (h:HI w own P H) (B:Wf H) {id:Int} (u:0<=id/\id<=60):VX Tryz.prog 83 #[pw P.g,.int .i64 id] w fun e w'=>∃ d own',e=.returned (.int .i64 d)/\HI w' own' P (H.b4 id)/\HZ Rh w own w' own':=by
 obtain⟨v,g⟩:=h.hs;refine(Sv 0 P.g 0 100 _ _ v.Vn v.D v.L H.net.ak v.lost id w g.nt (FD (by omega) (by omega)) (by decide)).mono ?_;rintro e w' ⟨V',l,d,lost',rfl,_,c,F,E,G⟩;have n:=G4 g F;have z:∀ i,(decide (i=id) || H.net.ak i)=T2->0<=i/\i<=60:=(B.b4 u).down;have m:AJ w' 0 P.g 0 92 (OD { v with Vn:=V',D:=l,L:=Bj id v.L,lost:=lost' } H.ae) V' l 100 (Bj id v.L) (fun i=>decide (i=id) || H.net.ak i) lost':=
  ⟨c.ah,c.c0,c.c1,c.c2,c.row,c.own,c.down.tight z,c.len,c.ne,c.bg⟩
 have y:Ext own (DW own w.heap.size (Fb { v with Vn:=V',D:=l,L:=Bj id v.L,lost:=lost' }) .net) w.heap.size:=Rn;have r:∀ b,Fb { v with Vn:=V',D:=l,L:=Bj id v.L,lost:=lost' } b->own b=Bs .net\/w.heap.size<=b:=fun b a=>by
  rcases a with a|a|⟨x,o,a⟩
  ·exact .inl (g.aV b (.inl (by rw[<- E];exact a)))
  ·have f:l=Bs b:=a;rcases G with A|⟨q,A,I⟩
   ·exact .inl (g.aV b (.inr (.inl (by rw[<- A];exact f))))
   ·rw[A] at f;injection f with f;exact .inr (by omega)
  ·exact .inl (g.aV b (.inr (.inr ⟨x,(List.mem_filter.1 o).1,a⟩)))
 have p:=g.c8 (net':=EA H.net id) (v':={ v with Vn:=V',D:=l,L:=Bj id v.L,lost:=lost' }) n y rfl rfl m (by show AH (Bj id v.L)=H.net.l.filter _;rw[O3,g.msgs]) (fun b a=>Rl (r b a) a) (fun x o=>g.bf x (List.mem_filter.1 o).1);exact⟨d,_,rfl,h.setHs' (net':=EA H.net id) (time':=H.ae) (GR n (fun t C=>C.elim .inl (fun e=>.inr (.inl e)))) y (Rk n.size (fun b a=>m.av a)) ⟨_,p⟩,⟨y,n,(by first|exact Qc (by simp)|exact fun _ _ h=>h)⟩⟩
theorem Sq (h:HI w own P H) (M:Wf H) (hc:H.c=3) (id:Int):VX Tryz.prog 56 #[pw P.g,.int .i64 id] w (Gt P own w (Gc H id,H.fail id)):=by
 have HH:=LH h;have r:=LH M;have c:=LH (Jl h M hc id);unfold NodeQ at c;clear h M;rcases a:H.node id with _|⟨s,j⟩
 ·rw[a] at c;have HR:=LH (fun W (l:VJ w.heap.size w W)=>show Gt P own w (Gc H id,H.fail id) (.returned (.iface 79 (.int .i64 7))) W from⟨by unfold Gc;rw[if_pos a];rfl,own,by show HI W own P (H.fail id);rw[q73 a];exact HH.o.below l,HZ.below own l⟩);unfold Jm at c;unfold pw at *;clear a;go_enter Tryz.func56,Tryz.ntmps56;go_wp2_with fail;refine c.o.mono ?_;rintro e J ⟨rfl,l⟩;have X:=LH (HR.o J l);clear l;go_wp2_with fail;go_ret;exact X.o
 ·rw[a] at c;obtain⟨N,R,_,q⟩:=q8e a;have m:=r.o.cI hc N R;rw[q] at m;have U:=LH (q72 a);have A:Gc H id=0:=by unfold Gc;rw[if_neg (by rw[a];simp)]
  have V:=LH A;unfold Jm at c;have y:s<H.c:=by omega
  unfold pw at *;clear a q A;go_enter Tryz.func56,Tryz.ntmps56;go_wp2_with fail;refine c.o.mono ?_;rintro e J ⟨rfl,l⟩;have t:=LH (HH.o.below l);have T:=LH (HZ.below (Z:=BN) own l);obtain⟨v,x⟩:=t.o.sh s y;obtain⟨_,c1,_,_,_,gl⟩:=x.cells;have G:=LH x.dd;have I:=LH (fun n (g:Aa BC n v.bd 101 (AU (TG (H.sh s).ak) id (Bs (.bool T2)))) (f:Fr (fun k=>k=v.bd) J n)=>(by
   rw[Vd] at g;have B:=(r.o.aH (s:=s) m).ak s y;rw[show(H.aH s id).sh s = { H.sh s with ak:=fun i=>decide (i=id) || (H.sh s).ak i } from Ay _ _ _] at B;have Q:Aa BC n v.bd 100 (TG fun i=>decide (i=id) || (H.sh s).ak i):=by
    refine(Aa.tight (C:=BC) g DC (fun o _ O=>?_)).mono (by rw[Uq];omega);cases e:(decide (o=id) || (H.sh s).ak o) with
    | false=>unfold TG at O;simp only[e] at O;exact absurd rfl O
    | true=>have:=B o e;exact Qa this.1 this.2
   have z:Fr (OS own (Df s)) J n:=f.mono (fun b _ e=>⟨_,by rw[e];exact x.c5,.inr (.inr (.inl rfl))⟩);exact⟨t.o.setSh' rfl z (Ext.refl own _) (fun b l=>VH (t.o.lt b l) f.size) ⟨v,x.di f Q⟩,T.o.trans ⟨Ext.refl own _,GR z (fun _=>Fo),fun _ _ h=>h⟩⟩:HI n own P (H.aH s id)/\AA w own n own))
  clear l c x;go_wp2_with (at_mapUpdate;refine TF (C:=BC) rfl 60 4 Tryz.underlying60 _ _ _ rfl rfl G.o (by unfold VZ;omega) id (.bool T2) rfl rfl (FD (by omega) (by omega)) ?_;intro n g f)
  have K:=I.o n g f;obtain⟨vh,u⟩:=K.1.hs;have a0:=u.cells.2.2.2.2;have HD:=LH (O7 K.1 (r.o.aH m) m);have S:=LH K.2;unfold pw at HD;clear K g f c1 gl u I G
  try go_wp2_with fail
  refine HD.o.mono ?_;rintro e Y ⟨d,p,rfl,F,E⟩;have X:=LH (show Gt P own w (Gc H id,H.fail id) (.returned .nilIface) Y from⟨by rw[V.o];rfl,p,by show HI Y p P (H.fail id);rw[U.o];exact F,S.o.trans (E.mono (fun _=>q7z))⟩);clear F E;go_wp2_with fail;go_ret;exact X.o
end
theorem E4.ending {t:Bi} (h:E4 t):E4 { t with state:=2,places:=fun k=>if (t.ad k).isSome then Bs (-1) else t.places k }:=
 ⟨h.bf,h.ps,h.sh,fun k e a=>by
  show k=0\/k=1;replace a:(if (t.ad k).isSome then Bs (-1) else t.places k)=Bs e:=a;split at a
  ·rename_i hs;obtain⟨q,b⟩:=Option.isSome_iff_exists.1 hs;exact(h.sh k q b).1
  ·exact h.pl k e a,h.wn,h.wnd⟩
theorem Wf.ending {H:Hs} (h:Wf H) {i:Nat} (b:1<=i) (a:i<=H.m):Wf (H.ending i):=h.aw (h.tx i b a).ending rfl
def DZ (t:Bi) (left:Int->Bool):Int->Option Int:=fun o=>if (t.ad o).isSome && !left o then Bs (-1) else t.places o
theorem St {t:Bi} (b:E4 t) {left:Int->Bool} {o:Int} (h:DZ t left o≠B0):0<=o/\o<=60:=by
 unfold DZ at h;have:o=0\/o=1:=by
  split at h
  ·rename_i hs;rw[Wq] at hs;obtain⟨q,a⟩:=Option.isSome_iff_exists.1 hs.1;exact(b.sh o q a).1
  ·obtain⟨q,a⟩:=Option.ne_none_iff_exists'.1 h;exact b.pl o q a
 omega
theorem PF {t:Bi} {left a:Int->Bool} {o:Int} (d:t.ad o≠B0) (b:∀ y,a y=T2↔left y=T2/\y≠o):AG (DZ t left) o (-1)=DZ t a:=by
 funext j;unfold AG DZ;by_cases e:j=o
 ·subst e;rw[if_pos rfl];obtain⟨q,c⟩:=Option.ne_none_iff_exists'.1 d;have:a j=Jx:=by
   rw[Zd];exact fun h=>((b j).1 h).2 rfl
  rw[c,this];rfl
 ·rw[if_neg e];have:a j=left j:=by
   rw[XI,b j];exact⟨fun h=>h.1,fun h=>⟨h,e⟩⟩
  rw[this]
def EeRel (t:Bi) (v:KN) (r:Nat) (b wr:B1):Prop:=
 ∃ (left:Int->Bool) (a:Nat),DT BC wr v.bs r 100 (Db t.ad) left a/\Aa BC wr v.bp 100 (Db (DZ t left))/\Fr (fun k=>k=v.bp) b wr
def Gs (P:Aw) (own:Ai) (H:Hs) (id:Int) (w:B1) (e:WA) (w':B1):Prop:=∃ a H',e=.returned (CX a)/\Ie H id a H'/\Ch P own H' w w'
section
variable {w w':B1} {own own':Ai} {P:Aw} {H:Hs}
open Classical in
theorem NF (h:HI w own P H) (J:Wf H) (hc:H.c=3) (id:Int):VX Tryz.prog 14 #[pw P.g,.int .i64 id] w (Gs P own H id w):=by
 have W:=LH (q4s h (by have:=J.bC;omega) id);by_cases G:id<1\/H.m<id
 ·have HR:=LH (show Gs P own H id w (.returned (.iface 79 (.int .i64 7))) w from⟨7,H,rfl,.missing G,own,h,HZ.refl _ _ _⟩);rw[q71 G] at W;clear h J G;unfold pw at *;go_enter Tryz.func14,Tryz.ntmps14;go_wp2_with fail;refine W.o.mono ?_;rintro e w1 ⟨rfl,rfl⟩;go_wp2_with fail;go_ret;exact HR.o
 ·obtain⟨i,rfl⟩:∃ i:Nat,id=i:=⟨id.toNat,by omega⟩
  have h1:1<=i:=by omega
  have hi:i<=H.m:=by omega
  have g:1<=(i:Int)/\(i:Int)<=H.m:=by omega
  rw[q5a h1 hi] at W;obtain⟨v,A⟩:=h.tx i h1 hi;have f1:=A.ah.frozen 1;obtain⟨_,k1,_,k3,k4,_,k8,gl⟩:=A.cells;obtain⟨A8,c8,I,_,_⟩:=AK A.af;rw[I] at k8;by_cases s1:(H.tx i).state=1
  ·have ak:=(J.tx i h1 hi).b5;rw[s1] at k1;by_cases f:(H.tx i).af=[]
   ·have u:(H.tx i).af.length=0:=by rw[f];rfl
    rw[u] at k8;have HH:=LH h;have aq:=LH J;have HV:=LH A;have E:=A.setState 2;have a7:Fr (OS own (fun t=>t=.tx i)) w (w.setCell ⟨P.gt i,1,B0⟩ (.int .i64 2)):=(Fr.refl _ w).setCell (p:=⟨P.gt i,1,B0⟩) (.inl ⟨_,A.gt,rfl⟩) _;have l:=LH E;have aA:=LH a7;have aB:=LH (fun H' (r:EU (H.ending i) H')=>Ie.ends (H:=H) (id:=i) g s1 f r);have ar:=LH E.ad;have U:=LH (J.tx i h1 hi);have am:=A.ne;have aJ:=LH (show(w.setCell ⟨P.gt i,1,B0⟩ (.int .i64 2)).heap.size=w.heap.size by simp);have aH:=E.ad.lt;have aC:=LH (show Db (DZ (H.tx i) (fun x=>((Db (H.tx i).ad) x).isSome))=Db (H.tx i).places from by
     congr 1;funext o;unfold DZ Db;cases e:(H.tx i).ad o <;> simp[e])
    clear h J G A s1 f u E a7 I g ak;unfold pw at *;go_enter Tryz.func14,Tryz.ntmps14;go_wp2_with fail;refine W.o.mono ?_;rintro e w1 ⟨rfl,rfl⟩;go_wp2_with (at_range;refine q2p rfl _ 61 3 rfl Tryz.underlying61 rfl ar.o ?_;intro w0 ac O a8 BD)
    generalize a1:(w.setCell ⟨P.gt i,1,B0⟩ (.int .i64 2)).heap.size=B at O BD ⊢;have ag:=LH a1;clear a1;have au:=LH (show Aa BC w0 v.bp 100 (Db (DZ (H.tx i) (fun x=>((Db (H.tx i).ad) x).isSome))) from by rw[aC.o];exact l.o.places.fr a8 (fun h=>h))
    try go_frame
    go_loopw [6] (fun _ wr=>EeRel (H.tx i) v B (w.setCell ⟨P.gt i,1,B0⟩ (.int .i64 2)) wr) (fun _ wr=>wr.rangeLeft v.bs B)
    case atStart=>exact⟨_,ac,O,au.o,a8.mono (fun _ _ h=>h.elim)⟩
    case round=>
     obtain⟨left,aI,Z,a2,a6⟩:=hrel;have af:=LH Z;have ai:=LH a2;have V:=LH a6;clear Z a2 a6;go_wp2_with (at_next;refine q35 rfl _ rfl rfl af.o ?_ ?_)
     ·intro u;have R:DZ (H.tx i) left=fun k=>if ((H.tx i).ad k).isSome then Bs (-1) else(H.tx i).places k:=by
       funext o;unfold DZ;cases e:(H.tx i).ad o with
       | none=>rfl
       | some q=>
        have:left o=Jx:=u o (by have:=(U.o.sh o q e).1;exact FD (by omega) (by omega));rw[this];rfl
      have F:Fr (OS own (fun t=>t=.tx i)) w wr:=aA.o.trans' V.o (fun b G e=>⟨_,by rw[e];exact HV.o.pt,rfl⟩);have Y:Cx wr own i (P.gt i) v ({ H.tx i with state:=2,places:=fun k=>if ((H.tx i).ad k).isSome then Bs (-1) else(H.tx i).places k }):=by
       have a3:=ai.o;rw[R] at a3;exact l.o.bW V.o a3
      have ab:HI wr own P (H.ending i):=HH.o.setTx' F (Ext.refl own _) (fun b G=>VH (HH.o.lt b G) F.size) ⟨_,Y⟩;have ad:=LH (q47 ab (aq.o.ending h1 hi) hc);have ap:=LH (show AA w own wr own from⟨Ext.refl own _,GR F (fun _=>Dv),fun _ _ h=>h⟩);unfold pw at ad;clear ab Y F R u;go_wp2_with fail;refine ad.o.mono ?_;rintro e w9 ⟨rfl,H',hr,X,aa,a9⟩;have az:=LH (show Gs P own H i w (.returned .nilIface) w9 from⟨0,H',rfl,aB.o H' hr,X,aa,ap.o.trans a9⟩);clear hr aa a9;go_wp2_with fail;go_ret;exact az.o
     ·intro o v9 w3 S al aF c N a4 T aE ao;obtain⟨q,hq,rfl⟩:∃ m,(H.tx i).ad o=Bs m/\v9=.int .i64 m:=by
       unfold Db at c;cases e:(H.tx i).ad o with
       | none=>rw[e] at c;cases c
       | some m=>rw[e] at c;injection c with c;exact⟨m,rfl,c.symm⟩
      rw[show BC.val o=Wi .i64 o from rfl] at ao ⊢;have a0:¬B=v.bp:=fun e=>by have:=l.o.places.lt;have:=ag.o;omega
      have a5:¬P.gt i=v.bp:=fun e=>l.o.aQ.2.2.2.1 e.symm
      have d:Fr (fun k=>k=v.bp) (w.setCell ⟨P.gt i,1,B0⟩ (.int .i64 2)) w3:=V.o.trans' T (fun k hk (e:k=B)=>by have:=ag.o;omega);have aj:=LH d;have ah:=LH (ai.o.fr T (fun e=>a0 e.symm));have d4:=(d.ah l.o.ah a5).cell 4;have dl:=(d.ah l.o.ah a5).lt;unfold OE at d4;simp only[Ft,D0,N2] at d4;have ae:=LH N;have ay:=LH (af.o.left_eq▸a4:S<wr.rangeLeft v.bs B);have av:=LH (fun K (n:Aa BC K v.bp 101 (AU (Db (DZ (H.tx i) left)) o (Bs (.int .i64 (-1))))) (z:Fr (fun k=>k=v.bp) w3 K)=>(by
       have M:=ae.o.fr z (fun e=>am e) a0;rw[qce] at n;have an:Aa BC K v.bp 100 (Db (AG (DZ (H.tx i) left) o (-1))):=by
        refine(n.tight DC (fun a _ ha=>?_)).mono (show DC.length<=100 from by rw[Uq];decide);by_cases ea:a=o
        ·subst ea;have hk:=(U.o.sh a q hq).1;exact Qa (by omega) (by omega)
        ·have Q:=St U.o (left:=left) (o:=a) (fun e=>ha (by unfold Db AG;rw[if_neg ea,e];rfl));exact Qa Q.1 Q.2
       refine⟨⟨_,S,M,?_,aj.o.trans z⟩,by show K.rangeLeft v.bs B<_;rw[M.left_eq];exact ay.o⟩;rw[<- PF (left:=left) (o:=o) (by rw[hq];simp) (fun y=>by simp)];exact an:EeRel (H.tx i) v B (w.setCell ⟨P.gt i,1,B0⟩ (.int .i64 2)) K/\K.rangeLeft v.bs B<wr.rangeLeft v.bs B))
      clear d c N a4 T hq;go_wp2_with (at_mapUpdate;refine TF (C:=BC) rfl 61 3 Tryz.underlying61 _ _ _ rfl rfl ah.o (by unfold VZ;omega) o (.int .i64 (-1)) rfl rfl al ?_;intro K n z)
      have hn:=av.o K n z;have ax:=LH hn.1;have aw:=LH hn.2;clear hn n z d4 dl;go_roundw
      case rel=>exact⟨_,_,_,_,_,_,_,_,_,_,ax.o,rfl⟩
      case measure=>exact aw.o
   ·have HR:=LH (show Gs P own H i w (.returned (.iface 79 (.int .i64 11))) w from⟨11,H,rfl,.waits g s1 f,own,h,HZ.refl _ _ _⟩);have aD:0<(H.tx i).af.length:=List.length_pos_iff.2 f;have aG:(0:Int)<(H.tx i).af.length:=by omega
    clear h J G A s1 f I g;unfold pw at *;go_enter Tryz.func14,Tryz.ntmps14;go_wp2_with fail;refine W.o.mono ?_;rintro e w1 ⟨rfl,rfl⟩;go_wp2_with fail;go_ret;exact HR.o
  ·have HR:=LH (show Gs P own H i w (.returned (.iface 79 (.int .i64 6))) w from⟨6,H,rfl,.state g s1,own,h,HZ.refl _ _ _⟩);have e1:((H.tx i).state != 1)=T2:=by simpa using s1
   clear h J G A s1 I g;unfold pw at *;go_enter Tryz.func14,Tryz.ntmps14;go_wp2_with fail;refine W.o.mono ?_;rintro e w1 ⟨rfl,rfl⟩;go_wp2_with fail;go_ret;exact HR.o
end
def Hs.came (H:Hs) (i s:Nat):Hs:=H.aw i { H.tx i with ad:=AG (H.tx i).ad s (H.sh s).ab }
noncomputable def Hs.aX (H:Hs) (i s:Nat) (k:Sx) (mode:Int):Hs:=H.al s { H.sh s with tab:=An (H.sh s).tab i k mode }
def Hs.aN (H:Hs) (i:Nat) (k:Sx) (mode:Int):Hs:=H.aw i { H.tx i with af:=(H.tx i).af++[(k,mode)] }
noncomputable def woundd (H:Hs) (l:List Int):Hs:=l.foldl Hs.aL H
def Um (H:Hs) (i s:Nat):Prop:=∃ e,(H.tx i).ad s=Bs e/\e≠(H.sh s).ab
theorem KM (k:Sx):Ad k<2:=Nat.mod_lt _ (by decide)
section
variable {H:Hs} {id:Int} {i:Nat} {k:Sx} {mode:Int}
theorem q1l (h:id<1\/H.m<id):H.lock id k mode=(7,H):=by unfold Hs.lock;rw[if_pos h]
theorem q5l (b:1<=i) (a:i<=H.m) (h:(H.tx i).state≠1):H.lock i k mode=(6,H):=by
 unfold Hs.lock;rw[if_neg (by omega)];rw[if_pos (by exact h)]
theorem q6v (d:1<=i) (c:i<=H.m) (h:(H.tx i).state=1) (b:k.length<=20) (a:H.head (Ad k)=B0):H.lock i k mode=(12,H):=by
 unfold Hs.lock;rw[if_neg (by omega)];rw[if_neg (by exact fun q=>q h)];rw[if_neg (by omega)];rw[if_pos a]
theorem q5m (f:1<=i) (d:i<=H.m) (h:(H.tx i).state=1) (c:k.length<=20) (b:H.head (Ad k)≠B0) (a:Um H i (Ad k)):H.lock i k mode=(6,H.abort i):=by
 unfold Hs.lock;rw[if_neg (by omega)];rw[if_neg (by exact fun q=>q h)];rw[if_neg (by omega)];rw[if_neg b];rw[if_pos (by exact a)];rfl
theorem q5k (g:1<=i) (f:i<=H.m) (h:(H.tx i).state=1) (d:k.length<=20) (c:H.head (Ad k)≠B0) (b:¬Um H i (Ad k)) (a:CM (H.tx i).af k=T2):H.lock i k mode=(11,H.came i (Ad k)):=by
 unfold Hs.lock;rw[if_neg (by omega)];rw[if_neg (by exact fun q=>q h)];rw[if_neg (by omega)];rw[if_neg c];rw[if_neg (by exact b)];exact if_pos (by show CM ((H.came i (Ad k)).tx i).af k=T2;rw[show((H.came i (Ad k)).tx i).af=(H.tx i).af by unfold Hs.came;rw[Tx]];exact a)
theorem qc9 (g:1<=i) (f:i<=H.m) (h:(H.tx i).state=1) (d:k.length<=20) (c:H.head (Ad k)≠B0) (b:¬Um H i (Ad k)) (a:CM (H.tx i).af k=Jx):H.lock i k mode=(H.came i (Ad k)).aR i k mode:=by
 unfold Hs.lock;rw[if_neg (by omega)];rw[if_neg (by exact fun q=>q h)];rw[if_neg (by omega)];rw[if_neg c];rw[if_neg (by exact b)];exact if_neg (by show ¬CM ((H.came i (Ad k)).tx i).af k=T2;rw[show((H.came i (Ad k)).tx i).af=(H.tx i).af by unfold Hs.came;rw[Tx],a];simp)
theorem q3y (h:CC (Ac (H.sh (Ad k)).tab k).ws i=T2):H.aR i k mode=(9,H.aX i (Ad k) k mode):=by
 unfold Hs.aR;simp only[h,if_true];rfl
theorem q5o (h:CC (Ac (H.sh (Ad k)).tab k).ws i=Jx) (a:As (Ac (H.sh (Ad k)).tab k).h i mode (Ac (H.sh (Ad k)).tab k).ws=T2):H.aR i k mode=(0,H.aX i (Ad k) k mode):=by
 unfold Hs.aR;simp only[h,a,if_true,XY,if_false];rfl
theorem q4p (h:CC (Ac (H.sh (Ad k)).tab k).ws i=Jx) (b:As (Ac (H.sh (Ad k)).tab k).h i mode (Ac (H.sh (Ad k)).tab k).ws=Jx) (a:(Ac (H.sh (Ad k)).tab k).ws.length=50):H.aR i k mode=(4,H.aX i (Ad k) k mode):=by
 unfold Hs.aR;simp only[h,b,a,if_true,XY,if_false];rfl
theorem q3x (h:CC (Ac (H.sh (Ad k)).tab k).ws i=Jx) (b:As (Ac (H.sh (Ad k)).tab k).h i mode (Ac (H.sh (Ad k)).tab k).ws=Jx) (a:(Ac (H.sh (Ad k)).tab k).ws.length≠50) :
  H.aR i k mode=(if CM ((woundd ((H.aX i (Ad k) k mode).aN i k mode) (EV (Ac (H.sh (Ad k)).tab k).h i mode)).tx i).af k then 11 else 0,woundd ((H.aX i (Ad k) k mode).aN i k mode) (EV (Ac (H.sh (Ad k)).tab k).h i mode)):=by
 unfold Hs.aR;simp only[h,b,a,XY,if_false];rfl
open Classical in
theorem Fc {h:Int->Option Int} (f:∀ o m,h o=Bs m->1<=o/\o<=60) {tx:Int} {l:List Int} (g:HJ h tx mode l):l=EV h tx mode:=by
 refine Fp (lt:=(· < ·)) (fun a=>by omega) (fun a b c=>by omega) g.1 ?_ (fun a=>?_)
 ·unfold EV;refine X1 _ ?_;rw[List.pairwise_map];refine List.Pairwise.imp (fun {a b} h=>?_) List.pairwise_lt_range;show(a:Int)<b;omega
 ·rw[g.2 a];unfold EV;rw[List.mem_filter,decide_eq_true_iff];constructor
  ·rintro ⟨p,m,d,n⟩;refine⟨List.mem_map.2 ⟨a.toNat,List.mem_range.2 ?_,?_⟩,p,m,d,n⟩
   ·have:=f a m d;omega
   ·have:=f a m d;show(a.toNat:Int)=a;omega
  ·exact fun h=>h.2
theorem q8o {h:Int->Option Int} {tx o:Int} (a:o∈EV h tx mode):0<=o/\o<=60:=by
 unfold EV at a;obtain⟨n,b,e⟩:=List.mem_map.1 (List.mem_filter.1 a).1;have:=List.mem_range.1 b;have e:(n:Int)=o:=e;omega
theorem q8q {l:List Int} {q:Nat} {o:Int} (h:l[q]? = Bs o):woundd H (l.take (q+1))=(woundd H (l.take q)).aL o:=by
 unfold woundd;rw[VV,h,WS];rfl
theorem Iu (H:Hs) (o:Int):Sz H (H.aL o):=by
 unfold Hs.aL;split
 ·exact(Nc H o.toNat).1.sz
 ·exact Sz.refl H
theorem q42:∀ (l:List Int) (H:Hs),Sz H (woundd H l)
 | [],H=>Sz.refl H
 | o::l,H=>(Iu H o).trans (q42 l (H.aL o))
theorem Wf.aL (h:Wf H) (a:H.c=3) (o:Int):Wf (H.aL o):=by
 unfold Hs.aL;split
 ·rename_i hs;exact h.abort a (by omega) (by omega)
 ·exact h
theorem Wf.bo:∀ (l:List Int) {H:Hs},Wf H->H.c=3->Wf (woundd H l)
 | [],_,h,_=>h
 | o::l,H,h,hc=>Wf.bo l (h.aL hc o) ((Iu H o).c.trans hc)
theorem Wf.came (h:Wf H) (d:1<=i) (c:i<=H.m) {s:Nat} (hs:s<2):Wf (H.came i s):=by
 have a:=h.tx i d c;refine h.aw ⟨a.bf,a.ps,fun k e b=>?_,a.pl,a.wn,a.wnd⟩ rfl;replace b:AG (H.tx i).ad s (H.sh s).ab k=Bs e:=b;unfold AG at b;split at b
 ·rename_i e1;exact⟨by omega,trivial⟩
 ·exact a.sh k e b
theorem Wf.bN (h:Wf H) {s:Nat} {T:Tb} (d:Dn T):Wf (H.al s { H.sh s with tab:=T }):=by
 have e:∀ k,((H.al s { H.sh s with tab:=T }).sh k).nd=(H.sh k).nd/\((H.al s { H.sh s with tab:=T }).sh k).sto=(H.sh k).sto/\((H.al s { H.sh s with tab:=T }).sh k).ak=(H.sh k).ak/\(((H.al s { H.sh s with tab:=T }).sh k).tab=T\/((H.al s { H.sh s with tab:=T }).sh k).tab=(H.sh k).tab):=fun k=>by
  by_cases b:k=s
  ·subst b;rw[show(H.al k { H.sh k with tab:=T }).sh k = { H.sh k with tab:=T } from Ay _ _ _];exact⟨rfl,rfl,rfl,.inl rfl⟩
  ·rw[show(H.al s { H.sh s with tab:=T }).sh k=H.sh k from AF b _];exact⟨rfl,rfl,rfl,.inr rfl⟩
 refine Wf.of (H':=H.al s { H.sh s with tab:=T }) h rfl rfl rfl rfl (fun k j a c=>by rw[(e k).1];exact h.nd k j a c) (fun k a=>?_) (fun k a=>by rw[(e k).2.1];exact h.sto k a) (fun k _=>(e k).2.2.1) h.net rfl h.tx (fun _=>rfl);rcases(e k).2.2.2 with e2|e2
 ·rw[e2];exact d
 ·rw[e2];exact h.tab k a
theorem Wf.aX (h:Wf H) (c:1<=i) (b:i<=H.m) {s:Nat} (hs:s<H.c) (a:k∈names):Wf (H.aX i s k mode):=
 h.bN ((h.tab s hs).lock (by have:=h.bC;omega) a mode)
theorem qal {l:List (Sx×Int)} {x:Sx} : CM l x=T2↔x∈l.map (·.1):=by
 unfold CM;rw[List.any_eq_true,List.mem_map];exact⟨fun⟨a,c,b⟩=>⟨a,c,by simpa using b⟩,fun⟨a,c,b⟩=>⟨a,c,by simpa using b⟩⟩
theorem Wf.aN (h:Wf H) (n:1<=i) (m:i<=H.m) (l:k∈names) (f:CM (H.tx i).af k=Jx):Wf (H.aN i k mode):=by
 have d:=h.tx i n m;refine h.aw ⟨d.bf,d.ps,d.sh,d.pl,fun a c=>?_,?_⟩ rfl
 ·rcases List.mem_append.1 c with c|c
  ·exact d.wn a c
  ·rw[List.mem_singleton.1 c];exact l
 ·show(((H.tx i).af++[(k,mode)]).map (·.1)).Nodup;rw[Xe,List.nodup_append];refine⟨d.wnd,by simp,fun a c b g=>?_⟩;simp only[Xt,List.map_nil,VW] at g;subst g;rintro rfl;rw[qal.2 c] at f;cases f
end
section
variable {w w':B1} {own own':Ai} {P:Aw} {H:Hs}
theorem UQ (c:Nat) (k:Sx) (w:B1) (g:w.cell? ⟨c,0,B0⟩=Bs (.string ⟨k.toArray⟩)) :
  Eb 63 #[.pointer (Bs ⟨c,0,B0⟩)] (CG k) B0 w:=by
 intro W x f;have a:=V0 w _ g;have l:=(f.cell (p:=⟨c,0,B0⟩) a (fun e=>nomatch e)).trans g;have h:c<W.heap.size:=VH a f.size;have b:=LH (fun o=>(S2 W.heap.size W).alloc (L1 _) o);clear g a f;unfold wnV CG;show VX _ _ #[_,_] _ fun e w'=>e=.returned (.bool (decide (x.1=k)))/\VJ W.heap.size W w'
 by_cases e:x.1=k
 ·have d:(x.1 == k)=T2:=by simpa using e
  rw[decide_eq_true e];go_enter Tryz.func63,Tryz.ntmps63;go_wp2_with fail;go_ret;exact⟨rfl,b.o _⟩
 ·have d:(x.1 == k)=Jx:=by simpa using e
  rw[decide_eq_false e];go_enter Tryz.func63,Tryz.ntmps63;go_wp2_with fail;go_ret;exact⟨rfl,b.o _⟩
theorem UP (c:Nat) (k:Sx) (w:B1) (g:w.cell? ⟨c,0,B0⟩=Bs (.string ⟨k.toArray⟩)) :
  Eb 65 #[.pointer (Bs ⟨c,0,B0⟩)] (CG k) B0 w:=by
 intro W x f;have a:=V0 w _ g;have l:=(f.cell (p:=⟨c,0,B0⟩) a (fun e=>nomatch e)).trans g;have h:c<W.heap.size:=VH a f.size;have b:=LH (fun o=>(S2 W.heap.size W).alloc (L1 _) o);clear g a f;unfold wnV CG;show VX _ _ #[_,_] _ fun e w'=>e=.returned (.bool (decide (x.1=k)))/\VJ W.heap.size W w'
 by_cases e:x.1=k
 ·have d:(x.1 == k)=T2:=by simpa using e
  rw[decide_eq_true e];go_enter Tryz.func65,Tryz.ntmps65;go_wp2_with fail;go_ret;exact⟨rfl,b.o _⟩
 ·have d:(x.1 == k)=Jx:=by simpa using e
  rw[decide_eq_false e];go_enter Tryz.func65,Tryz.ntmps65;go_wp2_with fail;go_ret;exact⟨rfl,b.o _⟩
theorem qam (l:List (Sx×Int)) (k:Sx):l.any (CG k)=CM l k:=by
 unfold CM;congr 1;funext a;exact Bool.eq_iff_iff.2 (by simp[CG])
theorem qao {i g c:Nat} {v:KN} {t:Bi} (a:Cx w own i g v t) (d:E4 t) (k:Sx) (h:w.cell? ⟨c,0,B0⟩=Bs (.string ⟨k.toArray⟩)) :
  VX Tryz.prog 62 #[v.Vx,.func (.func 63) #[] #[.pointer (Bs ⟨c,0,B0⟩)]] w fun e w'=>e=.returned (.bool (CM t.af k))/\VJ w.heap.size w w':=by
 obtain⟨A,l,f,_,_⟩:=AK a.af;have b:=a.af;rw[f] at b ⊢;rw[<- qam];exact q6s _ _ _ B0 A _ l t.af w (P9 Tryz.func63 (by kernel_rfl) rfl) (UQ c k w h) (Rd.au b) rfl (by have:=d.b5;omega)
theorem qan {i g c:Nat} {v:KN} {t:Bi} (a:Cx w own i g v t) (d:E4 t) (k:Sx) (h:w.cell? ⟨c,0,B0⟩=Bs (.string ⟨k.toArray⟩)) :
  VX Tryz.prog 62 #[v.Vx,.func (.func 65) #[] #[.pointer (Bs ⟨c,0,B0⟩)]] w fun e w'=>e=.returned (.bool (CM t.af k))/\VJ w.heap.size w w':=by
 obtain⟨A,l,f,_,_⟩:=AK a.af;have b:=a.af;rw[f] at b ⊢;rw[<- qam];exact q6s _ _ _ B0 A _ l t.af w (P9 Tryz.func65 (by kernel_rfl) rfl) (UP c k w h) (Rd.au b) rfl (by have:=d.b5;omega)
end
def AP (l:List Cm) (kind id:Int):Prop:=∃ c∈l,c.ag=kind/\c.tx=id
theorem qcc {kind id:Int} {c:Cm} : JN kind id c=T2↔c.ag=kind/\c.tx=id:=by unfold JN;simp
theorem q3g {l:List Cm} {kind id:Int} : place l kind id=B0↔¬AP l kind id:=by
 unfold place AP;rw[Wk];constructor
 ·rintro h ⟨c,a,b⟩;have:=h c a;rw[Zd] at this;exact this (qcc.2 b)
 ·intro h c a;rw[Zd];exact fun e=>h ⟨c,a,qcc.1 e⟩
theorem qb6 {l:List Cm} {kind id:Int} {p:Nat} (h:place l kind id=Bs p):∃ c,l[p]? = Bs c/\c.ag=kind/\c.tx=id:=by
 unfold place at h;rw[VR] at h;obtain⟨b,a,_⟩:=h;exact⟨_,K0 b,qcc.1 a⟩
def C0 (H:Hs) (k:Nat) (kind id:Int):Prop:=∃ j p c,H.head k=Bs j/\(lg H k j)[p]? = Bs c/\c.ag=kind/\c.tx=id/\((p:Nat):Int)<H.ao k j
inductive BZ:Hs->Hs->Prop where
 | abort {H:Hs} {i:Nat} (h1:1<=i) (hi:i<=H.m) (hs:(H.tx i).state=1\/((H.tx i).state=2/\(H.tx i).ae=0)):BZ H (H.abort i)
 | tell {H:Hs} {i k:Nat} {kind:Int} (h1:1<=i) (hi:i<=H.m) (hk:k<2) (hs:(kind=3/\(H.tx i).state=3)\/(kind=4/\(H.tx i).state=4)):BZ H (H.a7 i kind k)
 | prep {H:Hs} {i k j:Nat} (b:Bool) (h1:1<=i) (hi:i<=H.m) (hk:k∈(H.tx i).ai) (hh:H.head k=Bs j) (hp:¬AP (lg H k j) 2 i) (hs:(H.tx i).state=2) (ht:(H.tx i).ae=0)
   (he:(H.tx i).ad k=Bs (H.sh k).ab) (hpl:((H.tx i).places k).getD 0<0):BZ H (H.add k j ⟨2,i,0,(H.tx i).of k⟩ b).2
 | place {H:Hs} {i k:Nat} (a:Int) (h1:1<=i) (hi:i<=H.m) (hk:k∈(H.tx i).ai) (ha:0<=a) (hs:(H.tx i).state=2):BZ H (H.aA i k a)
 | timed {H:Hs} {i:Nat} (h1:1<=i) (hi:i<=H.m) (hs:(H.tx i).state=2) (hp:∀ k∈(H.tx i).ai,C0 H k 2 i):BZ H (H.timed i)
 | decide {H:Hs} {i j:Nat} (b:Bool) (h1:1<=i) (hi:i<=H.m) (hh:H.head 2=Bs j) (hp:¬AP (lg H 2 j) 3 i) (hs:(H.tx i).state=2) (ht:(H.tx i).ae≠0):BZ H (H.add 2 j ⟨3,i,(H.tx i).ae,[]⟩ b).2
 | commit {H:Hs} {i:Nat} (h1:1<=i) (hi:i<=H.m) (hs:(H.tx i).state=2) (hp:C0 H 2 3 i):BZ H (H.a3 i 3)
 | came {H:Hs} {i k:Nat} (h1:1<=i) (hi:i<=H.m) (hk:k<2) (hs:(H.tx i).state=1) (hh:H.head k≠B0) (he:(H.tx i).ad k=B0\/(H.tx i).ad k=Bs (H.sh k).ab):BZ H (H.came i k)
 | got {H:Hs} {i:Nat} {x:Sx} {mode:Int} (h1:1<=i) (hi:i<=H.m) (hs:(H.tx i).state=1) (hx:x∈names) (hm:BW mode) (hh:H.head (Ad x)≠B0) (he:(H.tx i).ad (Ad x)=Bs (H.sh (Ad x)).ab)
   (hw:CC (Ac (H.sh (Ad x)).tab x).ws i=Jx) (hf:As (Ac (H.sh (Ad x)).tab x).h i mode (Ac (H.sh (Ad x)).tab x).ws=T2):BZ H (H.aX i (Ad x) x mode)
 | wait {H:Hs} {i:Nat} {x:Sx} {mode:Int} (h1:1<=i) (hi:i<=H.m) (hs:(H.tx i).state=1) (hx:x∈names) (hm:BW mode) (hh:H.head (Ad x)≠B0) (he:(H.tx i).ad (Ad x)=Bs (H.sh (Ad x)).ab)
   (hww:CM (H.tx i).af x=Jx) (hw:CC (Ac (H.sh (Ad x)).tab x).ws i=Jx) (hf:As (Ac (H.sh (Ad x)).tab x).h i mode (Ac (H.sh (Ad x)).tab x).ws=Jx):BZ H ((H.aX i (Ad x) x mode).aN i x mode)
 | tick {H:Hs} {s j:Nat} (hs:s<3) (hl:Lv H s j):BZ H (Hs.aO s H j)
 | arrive {H:Hs} {k:Nat} {m:Ms} (hk:H.net.l[k]? = Bs m):BZ H (({ H with net:=takeS H.net k } : Hs).arrive m)
inductive Af:Hs->Hs->Prop where
 | refl (H:Hs):Af H H
 | step {A B C:Hs} (h:BZ A B) (r:Af B C):Af A C
theorem Af.one {A B:Hs} (h:BZ A B):Af A B:=.step h (.refl B)
theorem Af.trans {A B C:Hs} (h:Af A B) (k:Af B C):Af A C:=by
 induction h with
 | refl=>exact k
 | step h _ a=>exact .step h (a k)
theorem BZ.sm {H H':Hs} (h:BZ H H'):Sm H H':=by
 cases h with
 | abort=>exact(Nc _ _).1
 | tell=>exact⟨(KL _ _ _ _).1,(KL _ _ _ _).2.1,(KL _ _ _ _).2.2.1⟩
 | prep=>exact Sm.add _ _ _ _ _
 | place=>exact⟨rfl,rfl,rfl⟩
 | timed=>exact⟨(Ro _ _).1,(Ro _ _).2.1,(Ro _ _).2.2.1⟩
 | decide=>exact Sm.add _ _ _ _ _
 | commit=>exact⟨rfl,rfl,rfl⟩
 | came=>exact⟨rfl,rfl,rfl⟩
 | got=>exact⟨rfl,rfl,rfl⟩
 | wait=>exact⟨rfl,rfl,rfl⟩
 | tick=>exact⟨rfl,rfl,rfl⟩
 | @arrive k m b=>
  cases a:Hs.node { H with net:=takeS H.net k } m.a4 with
  | none=>rw[OG a];exact⟨rfl,rfl,rfl⟩
  | some q=>
   obtain⟨s,j⟩:=q;rw[OH a];have h:=BF.take ((({ H with net:=takeS H.net k } : Hs).an s j (((H.sh s).nd j).step m).1).send (((H.sh s).nd j).step m).2) s;exact⟨h.n,h.c,h.m⟩
theorem Af.sm {H H':Hs} (h:Af H H'):Sm H H':=by
 induction h with
 | refl=>exact Sm.refl _
 | step h _ a=>exact h.sm.trans a
section
variable {H:Hs} {i:Nat}
theorem qau {kind:Int} (a:1<=i):∀ (ks:List Nat) {H:Hs},i<=H.m->(∀ k∈ks,k<2)->((kind=3/\(H.tx i).state=3)\/(kind=4/\(H.tx i).state=4))->Af H (telld H i kind ks)
 | [],H,_,_,_=>Af.refl H
 | k::ks,H,hi,hk,hs=>by
  have e:=KL H i kind k;refine Af.step (BZ.tell a hi (hk k VL) hs) ?_;exact qau a ks (by rw[e.2.2.1];exact hi) (fun x b=>hk x (VM _ b)) (by rw[(e.2.2.2.2 i).1];exact hs)
theorem q7g {kind:Int} (c:1<=i) (b:i<=H.m) (hs:(kind=3/\(H.tx i).state=3)\/(kind=4/\(H.tx i).state=4)):Af H (H.aM i kind):=
 qau c _ b (fun _ a=>DI a) hs
theorem Hz (H:Hs) (s j:Nat) (c:Cm) (b:Bool) {k:Nat} (a:k≠s):(H.add s j c b).2.sh k=H.sh k:=by
 unfold Hs.add;split
 ·rfl
 ·exact((BF.take _ s).sh k a).trans (Nb H j _ a)
theorem q3h {H H':Hs} {k:Nat} (a:H'.n=H.n) (hs:H'.sh k=H.sh k):H'.head k=H.head k:=by unfold Hs.head;rw[a,hs]
theorem C0.congr {H H':Hs} {k:Nat} {kind id:Int} (h:C0 H k kind id) (b:H'.n=H.n) (hs:H'.sh k=H.sh k):C0 H' k kind id:=by
 obtain⟨j,p,c,f,d,a⟩:=h;exact⟨j,p,c,by rw[q3h b hs];exact f,by unfold lg at *;rw[hs];exact d,a.1,a.2.1,by unfold Hs.ao at *;rw[hs];exact a.2.2⟩
theorem q48 (d:Nd) (c:Cm) (b:Bool):(d.add c b).1.1.head=d.head/\(d.add c b).1.1.id=d.id:=by
 have a:(d.grow c).1.head=d.head/\(d.grow c).1.id=d.id:=by
  unfold Nd.grow Nd.tick;split
  ·split
   ·exact⟨rfl,rfl⟩
   ·split <;> exact⟨rfl,rfl⟩
  ·exact⟨rfl,rfl⟩
 unfold Nd.add;split
 ·exact⟨rfl,rfl⟩
 ·split
  ·exact⟨rfl,rfl⟩
  ·exact a
theorem q6b {H H':Hs} {k:Nat} (b:H'.n=H.n) (c:(H'.sh k).ak=(H.sh k).ak) (a:∀ j,((H'.sh k).nd j).id=((H.sh k).nd j).id/\((H'.sh k).nd j).head=((H.sh k).nd j).head):H'.head k=H.head k:=by
 unfold Hs.head Bg.bu Bg.aj;rw[b,c];have e:(fun j=>!(H.sh k).ak ((H'.sh k).nd j).id)=(fun j=>!(H.sh k).ak ((H.sh k).nd j).id):=funext fun j=>by rw[(a j).1]
 have d:(fun j=>((H'.sh k).nd j).head)=(fun j=>((H.sh k).nd j).head):=funext fun j=>(a j).2
 rw[e,d]
theorem q8m (H:Hs) (s j:Nat) (c:Cm) (b:Bool) (k:Nat):(H.add s j c b).2.head k=H.head k:=by
 by_cases f:k=s
 ·subst f;unfold Hs.add;split
  ·rfl
  ·have d:=BF.take ((H.an k j (((H.sh k).nd j).add c b).1.1).send (((H.sh k).nd j).add c b).1.2) k;refine q6b d.n ?_ (fun a=>?_)
   ·rw[d.ak];show((H.an k j _).sh k).ak=_;rw[EX]
   ·rw[d.nd];show(((H.an k j _).sh k).nd a).id=_/\(((H.an k j _).sh k).nd a).head=_;rw[EX];by_cases e:a=j
    ·subst e;simp only[Ay];exact⟨(q48 _ c b).2,(q48 _ c b).1⟩
    ·simp only[AF e];exact⟨trivial,trivial⟩
 ·exact q3h (EW H s j c b).1 (Hz H s j c b f)
theorem q3o (d:Nd) (c:Cm):(d.grow c).1.log=d.log++[c]:=by
 unfold Nd.grow Nd.tick;split
 ·split
  ·rfl
  ·split <;> rfl
 ·rfl
theorem qc7 {d:Nd} {c:Cm} {b:Bool} (h:(d.add c b).2.2=0):(d.add c b).1=d.grow c/\(d.log.length:Int)<=(d.add c b).2.1:=by
 unfold Nd.add at *;by_cases f:(!d.head)=T2
 ·rw[if_pos f] at h;simp at h
 ·rw[if_neg f] at h ⊢;by_cases a:d.log.length=500
  ·rw[if_pos a] at h;simp at h
  ·rw[if_neg a] at h ⊢;refine⟨by first|rfl|trivial,?_⟩;show _<=(if b=T2 then(d.log.length:Int)+1 else d.log.length);split <;> omega
theorem Il {t t':Bi} (h:t'.ad=t.ad):t'.ai=t.ai:=by unfold Bi.ai;rw[h]
theorem SH {s j:Nat} {c:Cm} {b:Bool} (h:¬(H.add s j c b).1<0):lg (H.add s j c b).2 s j=lg H s j++[c]/\((lg H s j).length:Int)<=(H.add s j c b).1:=by
 unfold Hs.add at *;split at h
 ·exact absurd (show(-1:Int)<0 by decide) h
 ·rename_i a;rw[if_neg a];have e:=qc7 (d:=(H.sh s).nd j) (c:=c) (b:=b) (Classical.not_not.1 a);refine⟨?_,e.2⟩;have f:=BF.take ((H.an s j (((H.sh s).nd j).add c b).1.1).send (((H.sh s).nd j).add c b).1.2) s;unfold lg;rw[f.nd];show(((H.an s j _).sh s).nd j).log=_;rw[EX];simp only[Ay];rw[e.1,q3o]
theorem PG {k:Nat} (b:Bool) (E:Wf H) (o:1<=i) (n:i<=H.m) (y:k∈(H.tx i).ai) (hs:(H.tx i).state=2) :
  Af H (H.aD i k b).1/\((H.aD i k b).2≠B0->(∀ a,a≠k->(H.aD i k b).1.sh a=H.sh a)/\((H.aD i k b).1.tx i).ad=(H.tx i).ad)/\((H.aD i k b).2=Bs T2->C0 (H.aD i k b).1 k 2 i):=by
 cases f:H.head k with
 | none=>rw[q76 f];exact⟨Af.refl H,fun _=>⟨fun _ _=>rfl,rfl⟩,fun h=>by simp at h⟩
 | some j=>
  cases g:place ((H.sh k).nd j).log 2 i with
  | some p=>
   rw[q5r f g];refine⟨Af.one (BZ.place p o n y (by omega) hs),fun _=>⟨fun _ _=>rfl,?_⟩,fun h=>?_⟩
   ·show(Ae H.tx i _ i).ad=_;rw[Ay]
   ·obtain⟨c,F,u⟩:=qb6 g;refine⟨j,p,c,f,F,u.1,u.2,?_⟩;simp only[VN,decide_eq_true_eq] at h;exact h
  | none=>
   by_cases x:DF H i k
   ·by_cases z:(H.tx i).ae=0
    ·rw[q79 f g x z];exact⟨Af.one (BZ.abort o n (.inr ⟨hs,z⟩)),fun h=>absurd rfl h,fun h=>by simp at h⟩
    ·rw[q78 f g x z];exact⟨Af.refl H,fun _=>⟨fun _ _=>rfl,rfl⟩,fun h=>by simp at h⟩
   ·have l:=x;unfold DF at l;simp only[not_or] at l;obtain⟨I,m,G⟩:=l;have A:(H.tx i).ad k=Bs (H.sh k).ab:=by
     have J:=(EZ.1 y).2;cases e:(H.tx i).ad k with
     | none=>exact absurd e J
     | some v=>rw[e] at m;simp only[Option.getD_some,ne_eq,Classical.not_not] at m;rw[m]
    have d:=EW H k j ⟨2,i,0,(H.tx i).of k⟩ b;have q:(H.tx i).ae=0:=by have:=E.cL i o n;omega
    have r:=Af.one (BZ.prep b o n y f (q3g.1 g) hs q A (by omega));by_cases C:(H.add k j ⟨2,i,0,(H.tx i).of k⟩ b).1<0
    ·rw[q77 f g x C];refine⟨r.trans (Af.one (BZ.abort o (by rw[d.2.2.1];exact n) (.inr ⟨by rw[(d.2.2.2.2 i).1];exact hs,by rw[(d.2.2.2.2 i).2.2.2.2];exact q⟩))),fun h=>absurd rfl h,fun h=>by simp at h⟩
    ·rw[q8i f g x C];have t:((H.add k j ⟨2,i,0,(H.tx i).of k⟩ b).2.tx i).ai=(H.tx i).ai:=by unfold Bi.ai;rw[(d.2.2.2.2 i).2.2.1]
     refine⟨r.trans (Af.one (BZ.place _ o (by rw[d.2.2.1];exact n) (by rw[t];exact y) (by omega) (by rw[(d.2.2.2.2 i).1];exact hs))),fun _=>⟨fun a B=>Hz H k j _ b B,?_⟩,fun h=>?_⟩
     ·show(((H.add k j ⟨2,i,0,(H.tx i).of k⟩ b).2.aw i _).tx i).ad=_;rw[Tx];exact(d.2.2.2.2 i).2.2.1
     ·simp only[VN,decide_eq_true_eq] at h;obtain⟨K,M⟩:=SH C;refine⟨j,(lg H k j).length,⟨2,i,0,(H.tx i).of k⟩,(q8m H k j _ b k).trans f,?_,rfl,rfl,?_⟩
      ·show(lg (H.add k j ⟨2,i,0,(H.tx i).of k⟩ b).2 k j)[_]? = _;rw[K];simp
      ·show _<(H.add k j ⟨2,i,0,(H.tx i).of k⟩ b).2.ao k j;omega
theorem qbl (b:Nat->Bool) (p:1<=i):∀ (ks:List Nat) {H:Hs} (c:Bool),Wf H->H.c=3->i<=H.m->(H.tx i).state=2->(∀ k∈ks,k∈(H.tx i).ai)->ks.Nodup->
  Af H (Hs.az i b ks H c).1/\((Hs.az i b ks H c).2≠B0->(∀ a,a ∉ ks->(Hs.az i b ks H c).1.sh a=H.sh a)/\((Hs.az i b ks H c).1.tx i).ad=(H.tx i).ad)/\
   ((Hs.az i b ks H c).2=Bs T2->∀ k∈ks,C0 (Hs.az i b ks H c).1 k 2 i)
 | [],H,c,_,_,_,_,_,_=>⟨Af.refl H,fun _=>⟨fun _ _=>rfl,rfl⟩,fun _ k o=>by cases o⟩
 | k::ks,H,c,wf,hc,hi,hs,hks,hn=>by
  rw[YZ] at hn;have o:=hks k VL;obtain⟨u,K,J⟩:=PG (b k) wf p hi o hs;have q:=q7v H i k (b k);have E:=wf.aD hc p hi (DI o) (b k);have l:Hs.az i b (k::ks) H c=(match (H.aD i k (b k)).2 with|none=>((H.aD i k (b k)).1,B0)|some a=>Hs.az i b ks (H.aD i k (b k)).1 (c && a)):=rfl;rw[l];cases e:(H.aD i k (b k)).2 with
  | none=>exact⟨u,fun h=>absurd rfl h,fun h=>by simp at h⟩
  | some a=>
   have g:(H.aD i k (b k)).2≠B0:=by rw[e];simp
   obtain⟨I,t⟩:=K g;have m:((H.aD i k (b k)).1.tx i).ai=(H.tx i).ai:=by unfold Bi.ai;rw[t]
   obtain⟨q1,r,B⟩:=qbl b p ks (c && a) E (q.sm.c.trans hc) (by rw[q.sm.m];exact hi) (by rw[q.on g];exact hs) (fun x d=>by rw[m];exact hks x (VM _ d)) hn.2;simp only;refine⟨u.trans q1,fun f=>?_,fun h x d=>?_⟩
   ·obtain⟨A,z⟩:=r f;exact⟨fun x d=>(A x (fun h=>d (VM _ h))).trans (I x (fun e=>d (e▸VL))),z.trans t⟩
   ·rcases List.mem_cons.1 d with rfl|d
    ·have n:a=T2:=by
      cases a with
      | true=>rfl
      | false=>
       exfalso;have F:∀ (ks:List Nat) (H:Hs),(Hs.az i b ks H Jx).2≠Bs T2:=by
        intro ks;induction ks with
        | nil=>intro H h;simp[Hs.az] at h
        | cons y ks C=>
         intro H h;have G:Hs.az i b (y::ks) H Jx=(match (H.aD i y (b y)).2 with|none=>((H.aD i y (b y)).1,B0)|some a=>Hs.az i b ks (H.aD i y (b y)).1 (Jx && a)):=rfl;rw[G] at h;cases v:(H.aD i y (b y)).2 with
         | none=>rw[v] at h;simp at h
         | some a=>rw[v] at h;exact C _ h
       rw[Bool.and_false] at h;exact F _ _ h
     subst n;exact(J e).congr (q1.sm.n) ((r (by rw[h];simp)).1 x hn.1)
    ·exact B h x d
theorem QJ (a:Wf H) (d:1<=i) (b:i<=H.m):((H.timed i).tx i).ae≠0:=by
 have f:=a.cL i d b;have c:=a.aY;unfold Hs.timed;split
 ·show(Ae H.tx i _ i).ae≠0;rw[Ay];show Xa (H.ae+1)≠0;rw[show Xa (H.ae+1)=H.ae+1 from Xq _ ⟨by omega,by omega⟩];omega
 ·rename_i h;exact h
theorem q90 (b:1<=i) (a:i<=H.m) (hs:(H.tx i).state=2) (c:C0 H 2 3 i):Af H (H.commit i):=by
 refine Af.step (BZ.commit b a hs c) ?_;refine q7g (H:=H.a3 i 3) b a (.inl ⟨rfl,?_⟩);show(Ae H.tx i _ i).state=3;rw[Ay]
theorem Ho (b:Bool) (r:Wf H) (o:1<=i) (l:i<=H.m) (hs:(H.tx i).state=2) (t:∀ k∈(H.tx i).ai,C0 H k 2 i):Af H (H.aB i b).1:=by
 cases n:H.head 2 with
 | none=>rw[q7a n];exact Af.refl H
 | some j=>
  cases d:place ((H.sh 2).nd j).log 3 i with
  | some p=>
   rw[q8j n d];split
   ·exact Af.refl H
   ·rename_i q;obtain⟨c,A,z,y⟩:=qb6 d;exact q90 o l hs ⟨j,p,c,n,A,z,y,by omega⟩
  | none=>
   rw[qcl n d];have f:=Ro H i;have x:=BZ.timed o l hs t;have m:(H.timed i).head 2=Bs j:=by rw[q3h f.1 (by rw[f.2.2.2.1])];exact n
   have h:¬AP (lg (H.timed i) 2 j) 3 i:=by unfold lg;rw[f.2.2.2.1];exact q3g.1 d
   have a:=EW (H.timed i) 2 j ⟨3,i,((H.timed i).tx i).ae,[]⟩ b;have g:((H.timed i).tx i).state=2:=(q4f H i i).trans hs;have e1:Af H ((H.timed i).add 2 j ⟨3,i,((H.timed i).tx i).ae,[]⟩ b).2:=Af.step x (Af.one (BZ.decide b o (by rw[f.2.2.1];exact l) m h g (QJ r o l)));split
   ·exact e1
   ·rename_i u;split
    ·exact e1
    ·rename_i q;obtain⟨v,B⟩:=SH u;refine e1.trans (q90 o (by rw[a.2.2.1,f.2.2.1];exact l) (by rw[(a.2.2.2.2 i).1];exact g) ⟨j,(lg (H.timed i) 2 j).length,⟨3,i,((H.timed i).tx i).ae,[]⟩,(q8m _ 2 j _ b 2).trans m,by rw[v];simp,rfl,rfl,?_⟩);omega
theorem PE (b:Nat->Bool) (n:Wf H) (o:H.c=3) (l:1<=i) (g:i<=H.m) (hs:(H.tx i).state=2):Af H (H.ends i b).1:=by
 obtain⟨m,t,r⟩:=qbl b l (H.tx i).ai T2 n o g hs (fun _ h=>h) (q3q _);have f:=q4t i b (H.tx i).ai H T2;have p:=Wf.az (b:=b) l (H.tx i).ai T2 n o g (fun k q=>DI q);cases e:(Hs.az i b (H.tx i).ai H T2).2 with
 | none=>rw[q75 (show _=((Hs.az i b (H.tx i).ai H T2).1,B0) from by rw[<- e])];exact m
 | some a=>
  cases a with
  | false=>rw[q5p (show _=((Hs.az i b (H.tx i).ai H T2).1,Bs Jx) from by rw[<- e])];exact m
  | true=>
   rw[q74 (show _=((Hs.az i b (H.tx i).ai H T2).1,Bs T2) from by rw[<- e])];have c:(Hs.az i b (H.tx i).ai H T2).2≠B0:=by rw[e];simp
   have d:((Hs.az i b (H.tx i).ai H T2).1.tx i).ai=(H.tx i).ai:=Il (t c).2;exact m.trans (Ho _ p l (by rw[f.sm.m];exact g) (by rw[f.on c];exact hs) (by rw[d];exact r e))
theorem GO (b:Nat->Bool) (d:Wf H) (f:H.c=3) (c:1<=i) (a:i<=H.m):Af H (H.ar i b).1:=by
 unfold Hs.ar;split
 ·rename_i h;exact PE b d f c a h
 ·split
  ·rename_i h;exact q7g c a (.inl ⟨rfl,h⟩)
  ·split
   ·rename_i h;exact q7g c a (.inr ⟨rfl,h⟩)
   ·exact Af.refl H
theorem q7l (bs:Nat->Nat->Bool):∀ (k i:Nat) (r:Hs×Bool),Wf r.1->r.1.c=3->1<=i->i+k<=r.1.m+1->Af r.1 (Hs.round bs k i r).1
 | 0,_,r,_,_,_,_=>Af.refl r.1
 | k+1,i,r,b,a,c,d=>by
  have hs:=GO (bs i) b a c (show i<=r.1.m by omega);exact hs.trans (q7l bs k (i+1) ((r.1.ar i (bs i)).1,(r.1.ar i (bs i)).2 || r.2) (b.ar a c (by omega) _) (hs.sm.c.trans a) (by omega) (by show _<=(r.1.ar i (bs i)).1.m+1;rw[hs.sm.m];omega))
theorem q22 {H H':Hs} (h:EU H H'):Wf H->H.c=3->Af H H':=by
 induction h with
 | @stop H bs _=>exact fun b a=>q7l bs H.m 1 (H,Jx) b a (L1 _) (by show _<=H.m+1;omega)
 | @more H H' bs _ _ d=>
  intro b a;have c:=q7l bs H.m 1 (H,Jx) b a (L1 _) (by show _<=H.m+1;omega);exact c.trans (d (Wf.round H.m 1 (r:=(H,Jx)) b a (L1 _) (by show _<=H.m+1;omega)) (c.sm.c.trans a))
theorem JB {k:Sx} {mode:Int} (h:An (H.sh (Ad k)).tab i k mode=(H.sh (Ad k)).tab):H.aX i (Ad k) k mode=H:=by
 unfold Hs.aX;rw[h];exact q7i H _
theorem qaj (a:Wf H) (o:Int):Af H (H.aL o):=by
 unfold Hs.aL;split
 ·rename_i h;have e:((o.toNat:Nat):Int)=o:=by omega
  exact Af.one (BZ.abort (by omega) (by omega) (.inl h.2.2))
 ·exact Af.refl H
theorem q4e:∀ (l:List Int) {H:Hs},Wf H->H.c=3->Af H (Go.Proofs.YtccahlhdifadfaaGreatDoor.woundd H l)
 | [],H,_,_=>Af.refl H
 | o::l,H,wf,hc=>by
  have a:=qaj wf o;exact a.trans (q4e l (wf.aL hc o) (a.sm.c.trans hc))
theorem Jz {k:Sx} {mode:Int} (p:Wf H) (r:H.c=3) (f:1<=i) (d:i<=H.m) (hs:(H.tx i).state=1) (c:k∈names) (m:BW mode) (n:H.head (Ad k)≠B0) (o:(H.tx i).ad (Ad k)=Bs (H.sh (Ad k)).ab)
  (l:CM (H.tx i).af k=Jx):Af H (H.aR i k mode).2:=by
 by_cases a:CC (Ac (H.sh (Ad k)).tab k).ws i=T2
 ·rw[q3y a];show Af H (H.aX i (Ad k) k mode);rw[JB (by unfold An;rw[if_pos a])];exact Af.refl H
 ·have a:CC (Ac (H.sh (Ad k)).tab k).ws i=Jx:=by simpa using a
  by_cases b:As (Ac (H.sh (Ad k)).tab k).h i mode (Ac (H.sh (Ad k)).tab k).ws=T2
  ·rw[q5o a b];exact Af.one (BZ.got f d hs c m n o a b)
  ·have b:As (Ac (H.sh (Ad k)).tab k).h i mode (Ac (H.sh (Ad k)).tab k).ws=Jx:=by simpa using b
   by_cases h:(Ac (H.sh (Ad k)).tab k).ws.length=50
   ·rw[q4p a b h];show Af H (H.aX i (Ad k) k mode);rw[JB (by unfold An;rw[a,if_neg (by simp),b,if_neg (by simp),if_pos h])];exact Af.refl H
   ·rw[q3x a b h];have g:=BZ.wait f d hs c m n o l a b;refine Af.step g ?_;have q:Wf ((H.aX i (Ad k) k mode).aN i k mode):=(p.aX f d (s:=Ad k) (by have:=KM k;omega) c).aN f d c l;exact q4e _ q r
theorem q3p {id:Int} {k:Sx} {mode:Int} (n:Wf H) (p:H.c=3) (g:k∈names) (o:BW mode):Af H (H.lock id k mode).2:=by
 by_cases q:id<1\/H.m<id
 ·rw[q1l q];exact Af.refl H
 ·obtain⟨i,rfl⟩:∃ i:Nat,id=i:=⟨id.toNat,by omega⟩
  have c:1<=i:=by omega
  have b:i<=H.m:=by omega
  by_cases hs:(H.tx i).state=1
  ·by_cases d:H.head (Ad k)=B0
   ·rw[q6v c b hs (KJ g) d];exact Af.refl H
   ·by_cases a:Um H i (Ad k)
    ·rw[q5m c b hs (KJ g) d a];exact Af.one (BZ.abort c b (.inl hs))
    ·have m:(H.tx i).ad (Ad k)=B0\/(H.tx i).ad (Ad k)=Bs (H.sh (Ad k)).ab:=by
      cases e:(H.tx i).ad (Ad k) with
      | none=>exact .inl rfl
      | some v=>exact .inr (by rw[Classical.byContradiction (fun h=>a ⟨v,e,h⟩)])
     have l:=BZ.came c b (KM k) hs d m;by_cases f:CM (H.tx i).af k=T2
     ·rw[q5k c b hs (KJ g) d a f];exact Af.one l
     ·have f:CM (H.tx i).af k=Jx:=by simpa using f
      rw[qc9 c b hs (KJ g) d a f];refine Af.step l (Jz (n.came c b (KM k)) p c b ?_ g o d ?_ ?_)
      ·show(Ae H.tx i _ i).state=1;rw[Ay];exact hs
      ·show(Ae H.tx i _ i).ad _=_;rw[Ay];show AG _ _ _ _=_;unfold AG;rw[if_pos rfl];rfl
      ·show CM (Ae H.tx i _ i).af k=Jx;rw[Ay];exact f
  ·rw[q5l c b hs];exact Af.refl H
theorem Ge (id:Int):Af H (H.drop id).2:=by
 unfold Hs.drop;split
 ·exact Af.refl H
 ·split
  ·exact Af.refl H
  ·rename_i b a;exact Af.one (BZ.abort (by omega) (by omega) (.inl (Classical.not_not.1 a)))
theorem E7 (d:Nd):d.tick.1.id=d.id/\d.tick.1.log=d.log/\d.tick.1.ab=d.ab/\d.tick.1.nodes=d.nodes/\d.tick.1.at_=d.at_:=by
 unfold Nd.tick;split
 ·exact⟨rfl,rfl,rfl,rfl,rfl⟩
 ·split <;> exact⟨rfl,rfl,rfl,rfl,rfl⟩
theorem Fh (s j t a:Nat):Lv (Hs.aO s H j) t a↔Lv H t a:=q5j (H:=H) (E7 _).1
theorem q8u {s:Nat} (hs:s<3):∀ (l:List Nat) {H:Hs},(∀ j∈l,Lv H s j)->Af H (tickds s H l)
 | [],H,_=>Af.refl H
 | j::l,H,hl=>Af.step (BZ.tick hs (hl j VL)) (q8u hs l (fun a b=>(Fh s j s a).2 (hl a (VM _ b))))
theorem qas:∀ (a:List Nat) {H:Hs},(∀ s∈a,s<3)->Af H (tickd H a)
 | [],H,_=>Af.refl H
 | s::a,H,hs=>by
  have d:Af H (H.aZ s):=by rw[Fg];exact q8u (hs s VL) _ (fun j c=>q2l.1 c)
  exact d.trans (qas a (fun x b=>hs x (VM _ b)))
theorem q8v {H':Hs} (h:EG H H') (c:Wf H) (a:H.c=3):Af H H':=by
 have b:Af H H.bn:=qas [0,1,2] (by simp);have d:Wf H.bn:=Wf.ck [0,1,2] c a (by simp);exact b.trans (q22 h d (b.sm.c.trans a))
theorem q5b {k:Nat} {H':Hs} (h:P0 H k H') (a:Wf H) (c:H.c=3):Af H H':=by
 cases h with
 | none _=>exact Af.refl H
 | @some m b _ r=>
  have d:=BZ.arrive b;exact Af.step d (q22 r ((a.a9 k).arrive c (a.net m (O0 b))) (d.sm.c.trans c))
theorem MB {n:Nat} {H H':Hs} (h:Tp n H H'):Wf H->H.c=3->Af H H':=by
 induction h with
 | zero=>exact fun _ _=>Af.refl _
 | none _=>exact fun _ _=>Af.refl _
 | more _ d _ f=>
  intro b a;have c:=q5b d b a;exact c.trans (f (d.wf b a).1 (c.sm.c.trans a))
theorem Drain.wf {n:Nat} {H H':Hs} (h:Tp n H H'):Wf H->H.c=3->Wf H':=by
 induction h with
 | zero=>exact fun h _=>h
 | none _=>exact fun h _=>h
 | more _ d _ c=>exact fun b a=>c (d.wf b a).1 ((d.wf b a).2.c.trans a)
theorem qa8 {n:Nat} {H H':Hs} (h:C6 n H H'):Wf H->H.c=3->Af H H':=by
 induction h with
 | zero=>exact fun _ _=>Af.refl _
 | more t d _ l=>
  intro c a;have b:=q8v t c a;have f:=(t.wf c a).1;have g:=MB d f (b.sm.c.trans a);exact(b.trans g).trans (l (Drain.wf d f (b.sm.c.trans a)) ((b.trans g).sm.c.trans a))
end
def stt (H:Hs) (id:Int):Int:=(H.tx id.toNat).state
def To (H:Hs) (id:Int):Int:=(H.tx id.toNat).ae
def VB (H:Hs) (l:List Cm):Prop:=∀ (p:Nat) (c:Cm),l[p]? = Bs c->(1<=c.tx/\c.tx<=H.m)/\
 (c.ag=2\/(c.ag=3/\stt H c.tx=3/\c.ae=To H c.tx/\1<=c.ae/\AP (l.take p) 2 c.tx)\/(c.ag=4/\stt H c.tx=4))
def VC (H:Hs) (l:List Cm):Prop:=∀ c∈l,(1<=c.tx/\c.tx<=H.m)/\c.ag=3/\c.ae=To H c.tx/\1<=c.ae
structure Dt (H:Hs):Prop where
 pl:∀ k,k<2->∀ j,Lv H k j->VB H (lg H k j)
 p2:∀ j,Lv H 2 j->VC H (lg H 2 j)
 ct:∀ i,1<=i->i<=H.m->(H.tx i).state=3->1<=(H.tx i).ae
structure Bu (H H':Hs):Prop where
 m:H.m<=H'.m
 s3:∀ i,1<=i->i<=H.m->(H.tx i).state=3->(H'.tx i).state=3
 s4:∀ i,1<=i->i<=H.m->(H.tx i).state=4->(H'.tx i).state=4
 tm:∀ i,1<=i->i<=H.m->1<=(H.tx i).ae->(H'.tx i).ae=(H.tx i).ae
theorem Bu.refl (H:Hs):Bu H H:=⟨L1 _,fun _ _ _ h=>h,fun _ _ _ h=>h,fun _ _ _ _=>rfl⟩
theorem Bu.trans {A B C:Hs} (h:Bu A B) (k:Bu B C):Bu A C:=
 ⟨VO h.m k.m,fun i b a e=>k.s3 i b (VO a h.m) (h.s3 i b a e),fun i b a e=>k.s4 i b (VO a h.m) (h.s4 i b a e),
  fun i b a e=>(k.tm i b (VO a h.m) (by rw[h.tm i b a e];exact e)).trans (h.tm i b a e)⟩
theorem Bu.of {H H':Hs} (a:H'.m=H.m) (h:∀ i,(H'.tx i).state=(H.tx i).state/\(H'.tx i).ae=(H.tx i).ae):Bu H H':=
 ⟨by omega,fun i _ _ e=>(h i).1.trans e,fun i _ _ e=>(h i).1.trans e,fun i _ _ _=>(h i).2⟩
theorem AP.mono {l l':List Cm} {kind id:Int} (h:AP l kind id) (a:∀ c∈l,c∈l'):AP l' kind id:=by obtain⟨c,b,d⟩:=h;exact⟨c,a c b,d⟩
theorem VB.mono {H H':Hs} (t:Bu H H') {l l':List Cm} (h:VB H l) (f:l' <+: l):VB H' l':=fun p c g=>by
 have d:=getElem?_prefix f g;obtain⟨⟨q,x⟩,o⟩:=h p c d;have b:c.tx.toNat<=H.m:=by omega
 have a:1<=c.tx.toNat:=by omega
 refine⟨⟨q,by have:=t.m;omega⟩,o.imp id (Or.imp (fun⟨a1,a2,v,u,m⟩=>⟨a1,t.s3 _ a b a2,?_,u,?_⟩) (fun⟨a1,a2⟩=>⟨a1,t.s4 _ a b a2⟩))⟩
 ·rw[v];exact(t.tm _ a b (by show 1<=To H c.tx;omega)).symm
 ·obtain⟨r,rfl⟩:=f;have n:=(List.getElem?_eq_some_iff.1 g).1;rw[Wp (by omega)] at m;exact m
theorem VC.mono {H H':Hs} (t:Bu H H') {l l':List Cm} (h:VC H l) (b:l' <+: l):VC H' l':=fun c f=>by
 obtain⟨⟨o,p⟩,n,m,g⟩:=h c (b.subset f);have d:c.tx.toNat<=H.m:=by omega
 have a:1<=c.tx.toNat:=by omega
 exact⟨⟨o,by have:=t.m;omega⟩,n,by rw[m];exact(t.tm _ a d (by show 1<=To H c.tx;omega)).symm,g⟩
def BO (H H':Hs):Prop:=∀ k j,k<3->Lv H' k j->∃ i,Lv H k i/\lg H' k j <+: lg H k i
def AS (H H':Hs):Prop:=∀ i,1<=i->i<=H'.m->(H'.tx i).state=3->i<=H.m/\(H.tx i).state=3
theorem AS.of {H H':Hs} (a:H'.m=H.m) (h:∀ i,(H'.tx i).state=(H.tx i).state):AS H H':=fun i _ b e=>⟨by omega,(h i).symm.trans e⟩
theorem Dt.sub' {H H':Hs} (h:Dt H) (t:Bu H H') (s:BO H H') (d:∀ i,1<=i->i<=H'.m->(H'.tx i).state=3->1<=(H'.tx i).ae):Dt H':=
 ⟨fun k f j b=>by obtain⟨i,c,a⟩:=s k j (by omega) b;exact(h.pl k f i c).mono t a,
  fun j b=>by obtain⟨i,c,a⟩:=s 2 j (by omega) b;exact(h.p2 i c).mono t a,d⟩
theorem Dt.sub {H H':Hs} (h:Dt H) (t:Bu H H') (n:AS H H') (s:BO H H'):Dt H':=
 h.sub' t s (fun i c d e=>by obtain⟨a,b⟩:=n i c d e;have:=h.ct i c a b;rw[t.tm i c a this];exact this)
theorem BO.same {H H':Hs} (h:Bf H H'):BO H H':=fun k j _ a=>⟨j,h.lv.1 a,by rw[h.lg];exact VS _⟩
section
variable {H:Hs} {i:Nat}
theorem MQ {s j:Nat} {c:Cm} {b:Bool} (h:(((H.sh s).nd j).add c b).2.2≠0):(H.add s j c b).2=H:=by unfold Hs.add;rw[if_pos h]
theorem SJ (H:Hs) (s j:Nat) (c:Cm) (b:Bool):((H.add s j c b).2=H\/∀ a i,lg (H.add s j c b).2 a i=if a=s/\i=j then lg H s j++[c] else lg H a i)/\∀ a i,Lv (H.add s j c b).2 a i↔Lv H a i:=by
 by_cases d:(((H.sh s).nd j).add c b).2.2=0
 ·have e:=(qc7 d).1;have hs:=Bf.take ((H.an s j (((H.sh s).nd j).add c b).1.1).send (((H.sh s).nd j).add c b).1.2) s;have f:(H.add s j c b).2=((H.an s j (((H.sh s).nd j).add c b).1.1).send (((H.sh s).nd j).add c b).1.2).take s:=by unfold Hs.add;rw[if_neg (by simp[d])]
  rw[f];refine⟨.inr fun a i=>?_,fun a i=>?_⟩
  ·rw[hs.lg];show lg (H.an s j _) a i=_;rw[q4q,e,q3o];rfl
  ·rw[hs.lv];exact q5j (H:=H) (s:=s) (j:=j) (q48 _ c b).2
 ·rw[MQ d];exact⟨.inl rfl,fun _ _=>Yr⟩
theorem Hy (H:Hs) (s j:Nat) (c:Cm) (b:Bool):Bu H (H.add s j c b).2:=by
 have h:=EW H s j c b;exact Bu.of h.2.2.1 (fun i=>⟨(h.2.2.2.2 i).1,(h.2.2.2.2 i).2.2.2.2⟩)
theorem q7x {l:List Cm} {c:Cm} {p:Nat} (h:p<=l.length):(l++[c]).take p=l.take p:=Wp h
theorem Dt.add (h:Dt H) {s j:Nat} {c:Cm} (b:Bool) (u:Lv H s j) (v:1<=c.tx/\c.tx<=H.m)
  (z:s<2->c.ag=2\/(c.ag=3/\stt H c.tx=3/\c.ae=To H c.tx/\1<=c.ae/\AP (lg H s j) 2 c.tx)\/(c.ag=4/\stt H c.tx=4))
  (q:s=2->c.ag=3/\c.ae=To H c.tx/\1<=c.ae):Dt (H.add s j c b).2:=by
 obtain⟨l,x⟩:=SJ H s j c b;rcases l with l|l
 ·rw[l];exact h
 ·have t:=Hy H s j c b;have hs:=EW H s j c b;have n:∀ id,stt (H.add s j c b).2 id=stt H id:=fun id=>(hs.2.2.2.2 _).1
  have m:∀ id,To (H.add s j c b).2 id=To H id:=fun id=>(hs.2.2.2.2 _).2.2.2.2
  refine⟨fun k g a r=>?_,fun a r=>?_,fun a B A e=>by rw[(hs.2.2.2.2 a).2.2.2.2];exact h.ct a B (by rw[<- hs.2.2.1];exact A) ((hs.2.2.2.2 a).1.symm.trans e)⟩
  ·rw[l];split
   ·rename_i e;obtain⟨rfl,rfl⟩:=e;intro p d f;by_cases y:p<(lg H k a).length
    ·rw[Wc y] at f;have:=(h.pl k g a u).mono t (VS _) p d f;rw[q7x (by omega)];exact this
    ·rw[Wd (by omega)] at f;have o:p-(lg H k a).length=0:=by
      have:=(List.getElem?_eq_some_iff.1 f).1;simp at this;omega
     rw[o] at f;simp only[D0,VN] at f;subst f;rw[q7x (by omega),n,m,hs.2.2.1];have C:(lg H k a).take p=lg H k a:=List.take_of_length_le (by omega);rw[C];exact⟨v,z g⟩
   ·exact(h.pl k g a ((x k a).1 r)).mono t (VS _)
  ·rw[l];split
   ·rename_i e;obtain⟨rfl,rfl⟩:=e;intro d f;rcases List.mem_append.1 f with f|f
    ·exact(h.p2 a u).mono t (VS _) d f
    ·rw[VW] at f;subst f;rw[m,hs.2.2.1];exact⟨v,q rfl⟩
   ·exact(h.p2 a ((x 2 a).1 r)).mono t (VS _)
theorem Dt.a7 (h:Dt H) {k:Nat} {kind:Int} (g:1<=i) (f:i<=H.m) (d:k<2) (hs:(kind=3/\(H.tx i).state=3/\1<=(H.tx i).ae)\/(kind=4/\(H.tx i).state=4)):Dt (H.a7 i kind k):=by
 cases a:H.head k with
 | none=>rw[TC a];exact h
 | some j=>
  rw[TD a];split
  ·rename_i c;refine h.add Jx (EY a).1 (by show 1<=(i:Int)/\(i:Int)<=H.m;omega) (fun _=>?_) (fun e=>by omega);rcases hs with ⟨rfl,hs,b⟩|⟨rfl,hs⟩
   ·refine .inr (.inl ⟨rfl,hs,?_,?_,?_⟩)
    ·show(if (3:Int)=3 then(H.tx i).ae else 0)=_;rw[if_pos rfl];rfl
    ·show 1<=(if (3:Int)=3 then(H.tx i).ae else 0);rw[if_pos rfl];exact b
    ·have:=c.2;rw[ne_eq,q3g,Classical.not_not] at this;exact this
   ·exact .inr (.inr ⟨rfl,hs⟩)
  ·exact h
theorem Dt.aT {kind:Int} (a:1<=i):∀ (ks:List Nat) {H:Hs},Dt H->i<=H.m->(∀ k∈ks,k<2)->((kind=3/\(H.tx i).state=3/\1<=(H.tx i).ae)\/(kind=4/\(H.tx i).state=4))->Dt (Go.Proofs.YtccahlhdifadfaaGreatDoor.telld H i kind ks)
 | [],_,h,_,_,_=>h
 | k::ks,H,h,hi,hk,hs=>by
  have e:=KL H i kind k;exact Dt.aT a ks (h.a7 a hi (hk k VL) hs) (by rw[e.2.2.1];exact hi) (fun x b=>hk x (VM _ b)) (by rw[(e.2.2.2.2 i).1,(e.2.2.2.2 i).2.2.2.2];exact hs)
theorem q4k (i:Nat):∀ (ks:List Nat) (H:Hs),Bf H (reld H i ks)
 | [],H=>Bf.refl H
 | k::ks,H=>(Bf.rel H k i).trans (q4k i ks (H.rel k i))
theorem Dt.abort (h:Dt H) (o:1<=i) (m:i<=H.m) (hs:(H.tx i).state=1\/((H.tx i).state=2/\(H.tx i).ae=0)):Dt (H.abort i):=by
 rw[Tu];have t1:Bu H (H.aq i):=by
  refine⟨L1 _,fun a _ _ e=>?_,fun a _ _ e=>?_,fun a _ _ e=>?_⟩
  ·show(Ae H.tx i _ a).state=_;by_cases b:a=i
   ·subst b;rw[e] at hs;rcases hs with h|⟨h,_⟩ <;> cases h
   ·rw[AF b];exact e
  ·show(Ae H.tx i _ a).state=_;by_cases b:a=i
   ·subst b;rw[Ay]
   ·rw[AF b];exact e
  ·show(Ae H.tx i _ a).ae=_;by_cases b:a=i
   ·subst b;rw[Ay]
   ·rw[AF b]
 have b:=Rm i (H.tx i).ai (H.aq i);have g:Bu (H.aq i) (reld (H.aq i) i (H.tx i).ai):=Bu.of b.2.2.1 (fun a=>⟨(b.2.2.2.2 a).1,(b.2.2.2.2 a).2.2.2.2⟩);have c:AS H (reld (H.aq i) i (H.tx i).ai):=fun a p d e=>by
  rw[(b.2.2.2.2 a).1] at e;have e:(Ae H.tx i _ a).state=3:=e;refine⟨by rw[b.2.2.1] at d;exact d,?_⟩;by_cases f:a=i
  ·subst f;rw[Ay] at e;cases e
  ·rw[AF f] at e;exact e
 have n:=h.sub (t1.trans g) c (BO.same ((Bf.aw H i _).trans (q4k i _ _)));refine Dt.aT o _ n (by rw[b.2.2.1];exact m) (fun k l=>DI l) (.inr ⟨rfl,?_⟩);rw[(b.2.2.2.2 i).1];show(Ae H.tx i _ i).state=4;rw[Ay]
theorem IV (h:BQ H) {s j:Nat} (hs:s<H.c) (f:Lv H s j) {m:Ms} (g:m∈H.net.l):∃ q,Lv H s q/\(((H.sh s).nd j).step m).1.log <+: lg H s q:=by
 have b:∀ d:Nd,d.log=((H.sh s).nd j).log->∃ q,Lv H s q/\d.log <+: lg H s q:=fun d e=>⟨j,f,by rw[e];exact VS _⟩
 obtain⟨L,p,a⟩:=h.at_ hs f;have t:=qc6 h hs f g;unfold Nd.step at t ⊢;split
 ·exact b _ rfl
 ·rename_i r;rw[if_neg r] at t;simp only at t ⊢;split
  ·exact b _ rfl
  ·rename_i v;rw[if_neg v] at t;split
   ·exact b _ rfl
   ·rename_i u;rw[if_neg u] at t;split
    ·rename_i l;rw[if_pos l] at t;have e:=l.2.1;simp only[Wq,decide_eq_true_eq,beq_iff_eq] at e;obtain⟨e1,x⟩:=e;rw[a.at_] at e1;have o:p-1<L.length:=by have:=(List.getElem?_eq_some_iff.1 a.ix).1;omega
     obtain⟨q,c⟩:∃ q,L[p-1]? = Bs q:=⟨_,K0 o⟩
     obtain⟨n,_⟩:=h.cy g hs (a.cfg.lt q (O0 c)) (x.trans (a.a4 (by omega) c));exact⟨q,n,t.lo q ((q3j a.cfg.sorted c a.ix).1 (by omega)) n⟩
    ·split
     ·exact b _ rfl
     ·exact b _ rfl
theorem MM (h:BQ H) (n:H.c=3) {k:Nat} {m:Ms} (l:H.net.l[k]? = Bs m):BO H (({ H with net:=takeS H.net k } : Hs).arrive m):=by
 intro a q o c;cases f:Hs.node { H with net:=takeS H.net k } m.a4 with
 | none=>rw[OG f] at c ⊢;exact⟨q,c,VS _⟩
 | some r=>
  obtain⟨s,j⟩:=r;obtain⟨hs,g,_⟩:=q6q (H:={ H with net:=takeS H.net k }) n f;rw[OH f] at c ⊢;have b:=Bf.take ((({ H with net:=takeS H.net k } : Hs).an s j (((H.sh s).nd j).step m).1).send (((H.sh s).nd j).step m).2) s;have t:=qc6 h (s:=s) (j:=j) hs g (O0 l);have d:Lv H a q:=(q5j (H:={ H with net:=takeS H.net k }) t.id).1 (b.lv.1 c);rw[b.lg];show ∃ i,Lv H a i/\lg (({ H with net:=takeS H.net k } : Hs).an s j (((H.sh s).nd j).step m).1) a q <+: lg H a i;rw[q4q];split
  ·rename_i e;obtain⟨rfl,rfl⟩:=e;exact IV h (s:=a) (j:=q) (by rw[n];exact o) g (O0 l)
  ·exact⟨q,d,VS _⟩
theorem QK {s j:Nat} : BO H (Hs.aO s H j):=fun a q _ b=>by
 refine⟨q,(Fh s j a q).1 b,?_⟩;show lg (H.an s j _) a q <+: _;rw[q4q];split
 ·rename_i e;obtain⟨rfl,rfl⟩:=e;rw[(E7 _).2.1];exact VS _
 ·exact VS _
theorem q5z:(∀ a,((H.timed i).tx a).state=(H.tx a).state/\((H.tx a).ae≠0->((H.timed i).tx a).ae=(H.tx a).ae))/\(H.timed i).m=H.m:=by
 refine⟨fun a=>⟨q4f H i a,fun b=>?_⟩,(Ro H i).2.2.1⟩;unfold Hs.timed;split
 ·rename_i h;show(Ae H.tx i _ a).ae=_;by_cases e:a=i
  ·subst e;exact absurd h b
  ·rw[AF e]
 ·rfl
theorem Dt.step {H':Hs} (s:BZ H H') (U:BQ H) (C:Wf H) (R:H.c=3) (h:Dt H):Dt H'/\Bu H H':=by
 cases s with
 | @abort i g f hs=>
  refine⟨h.abort g f hs,?_⟩;obtain⟨q,_,y⟩:=Nc H i;refine⟨by rw[q.m];exact L1 _,fun a _ _ e=>?_,fun a _ _ e=>?_,fun a _ _ _=>(y a).2.2.2.2⟩
  ·rw[(y a).1];split
   ·rename_i l;subst l;rw[e] at hs;rcases hs with h|⟨h,_⟩ <;> cases h
   ·exact e
  ·rw[(y a).1];split
   ·rfl
   ·exact e
 | @tell i k kind g f n hs=>
  have e:=KL H i kind k;refine⟨?_,Bu.of e.2.2.1 (fun a=>⟨(e.2.2.2.2 a).1,(e.2.2.2.2 a).2.2.2.2⟩)⟩;exact h.a7 g f n (hs.imp (fun⟨a,b⟩=>⟨a,b,h.ct i g f b⟩) id)
 | @prep i k j b g f n o u hs M v N=>
  exact⟨h.add b (EY o).1 (by show 1<=(i:Int)/\(i:Int)<=H.m;omega) (fun _=>.inl rfl) (fun e=>by have:=DI n;omega),Hy H k j _ b⟩
 | @place i k a g f n Z hs=>
  have t:Bu H (H.aA i k a):=Bu.of rfl (fun x=>⟨q1v H i k a x,by
   show(Ae H.tx i _ x).ae=_;by_cases e:x=i
   ·subst e;rw[Ay]
   ·rw[AF e]⟩)
  exact⟨h.sub t (AS.of rfl (q1v H i k a)) (BO.same (Bf.aw H i _)),t⟩
 | @timed i g f hs u=>
  obtain⟨q,B⟩:=q5z (H:=H) (i:=i);have d:=Ro H i;have t:Bu H (H.timed i):=⟨by rw[B];exact L1 _,fun a _ _ e=>(q a).1.trans e,fun a _ _ e=>(q a).1.trans e,fun a _ _ e=>(q a).2 (by omega)⟩
  exact⟨h.sub t (AS.of B (fun a=>(q a).1)) (BO.same ⟨d.1,d.2.1,d.2.2.2.2,fun s=>by rw[d.2.2.2.1],fun s=>by rw[d.2.2.2.1],fun s=>by rw[d.2.2.2.1]⟩),t⟩
 | @decide i j b g f o u hs M=>
  refine⟨h.add b (EY o).1 (by show 1<=(i:Int)/\(i:Int)<=H.m;omega) (fun e=>by omega) (fun _=>⟨rfl,rfl,?_⟩),Hy H 2 j _ b⟩;have:=C.cL i g f;show 1<=(H.tx i).ae;omega
 | @commit i g f hs u=>
  have t:Bu H (H.a3 i 3):=by
   refine⟨L1 _,fun a _ _ e=>?_,fun a _ _ e=>?_,fun a _ _ _=>?_⟩
   ·show(Ae H.tx i _ a).state=_;by_cases l:a=i
    ·subst l;rw[Ay]
    ·rw[AF l];exact e
   ·show(Ae H.tx i _ a).state=_;by_cases l:a=i
    ·subst l;rw[e] at hs;cases hs
    ·rw[AF l];exact e
   ·show(Ae H.tx i _ a).ae=_;by_cases l:a=i
    ·subst l;rw[Ay]
    ·rw[AF l]
  refine⟨h.sub' t (BO.same (Bf.aw H i _)) (fun a T S e=>?_),t⟩;show 1<=(Ae H.tx i _ a).ae;have e:(Ae H.tx i _ a).state=3:=e;by_cases l:a=i
  ·subst l;rw[Ay];obtain⟨j,p,c,q1,G,X,F,_⟩:=u;have z:=h.p2 j (EY q1).1 c (O0 G);have E:=z.2.2.1;have W:=z.2.2.2;rw[F] at E;have V:To H (a:Int)=(H.tx a).ae:=rfl;show 1<=(H.tx a).ae;omega
  ·rw[AF l] at e ⊢;exact h.ct a T S e
 | @came i k g f n hs o v=>
  have t:Bu H (H.came i k):=Bu.of rfl (fun x=>by
   show(Ae H.tx i _ x).state=_/\(Ae H.tx i _ x).ae=_;by_cases e:x=i
   ·subst e;rw[Ay];exact⟨rfl,rfl⟩
   ·rw[AF e];exact⟨rfl,rfl⟩)
  exact⟨h.sub t (AS.of rfl (fun x=>by
   show(Ae H.tx i _ x).state=_;by_cases e:x=i
   ·subst e;rw[Ay]
   ·rw[AF e])) (BO.same (Bf.aw H i _)),t⟩
 | @got i x mode g f hs I O o v K Q=>
  have t:Bu H (H.aX i (Ad x) x mode):=Bu.of rfl (fun _=>⟨rfl,rfl⟩);exact⟨h.sub t (AS.of rfl (fun _=>rfl)) (BO.same (Bf.al rfl rfl rfl)),t⟩
 | @wait i x mode g f hs I O o v J K Q=>
  have t:Bu H ((H.aX i (Ad x) x mode).aN i x mode):=Bu.of rfl (fun a=>by
   show(Ae H.tx i _ a).state=_/\(Ae H.tx i _ a).ae=_;by_cases e:a=i
   ·subst e;rw[Ay];exact⟨rfl,rfl⟩
   ·rw[AF e];exact⟨rfl,rfl⟩)
  exact⟨h.sub t (AS.of rfl (fun a=>by
   show(Ae H.tx i _ a).state=_;by_cases e:a=i
   ·subst e;rw[Ay];rfl
   ·rw[AF e])) (BO.same ((Bf.al (x:={ H.sh (Ad x) with tab:=An (H.sh (Ad x)).tab i x mode }) rfl rfl rfl).trans (Bf.aw _ i _))),t⟩
 | @tick s j hs Y=>
  have t:Bu H (Hs.aO s H j):=Bu.of rfl (fun _=>⟨rfl,rfl⟩);exact⟨h.sub t (AS.of rfl (fun _=>rfl)) QK,t⟩
 | @arrive k m n=>
  have t:Bu H (({ H with net:=takeS H.net k } : Hs).arrive m)/\AS H (({ H with net:=takeS H.net k } : Hs).arrive m):=by
   cases A:Hs.node { H with net:=takeS H.net k } m.a4 with
   | none=>rw[OG A];exact⟨Bu.of rfl (fun _=>⟨rfl,rfl⟩),AS.of rfl (fun _=>rfl)⟩
   | some r=>
    obtain⟨s,j⟩:=r;rw[OH A];have e:=BF.take ((({ H with net:=takeS H.net k } : Hs).an s j (((H.sh s).nd j).step m).1).send (((H.sh s).nd j).step m).2) s;exact⟨Bu.of e.m (fun a=>⟨(e.tx a).1,(e.tx a).2.2.2.2⟩),AS.of e.m (fun a=>(e.tx a).1)⟩
  exact⟨h.sub t.1 t.2 (MM U R n),t.1⟩
end
section
variable {H:Hs}
theorem Wf.ca (h:Wf H) {s:Nat} {x:Bg} (l:x.nd=(H.sh s).nd) (g:x.ak=(H.sh s).ak) (d:Dn x.tab) (f:Do x.sto):Wf (H.al s x):=by
 have e:∀ k,((H.al s x).sh k).nd=(H.sh k).nd/\((H.al s x).sh k).ak=(H.sh k).ak/\((((H.al s x).sh k).tab=x.tab/\((H.al s x).sh k).sto=x.sto)\/(((H.al s x).sh k).tab=(H.sh k).tab/\((H.al s x).sh k).sto=(H.sh k).sto)):=fun k=>by
  by_cases b:k=s
  ·subst b;rw[show(H.al k x).sh k=x from Ay _ _ _];exact⟨l,g,.inl ⟨rfl,rfl⟩⟩
  ·rw[show(H.al s x).sh k=H.sh k from AF b _];exact⟨rfl,rfl,.inr ⟨rfl,rfl⟩⟩
 refine Wf.of (H':=H.al s x) h rfl rfl rfl rfl (fun k j a c=>by rw[(e k).1];exact h.nd k j a c) (fun k a=>?_) (fun k a=>?_) (fun k _=>(e k).2.1) h.net rfl h.tx (fun _=>rfl)
 ·rcases(e k).2.2 with ⟨e2,_⟩|⟨e2,_⟩
  ·rw[e2];exact d
  ·rw[e2];exact h.tab k a
 ·rcases(e k).2.2 with ⟨_,e2⟩|⟨_,e2⟩
  ·rw[e2];exact f
  ·rw[e2];exact h.sto k a
theorem Wf.ay (h:Wf H) {s j:Nat} {ids:List Int} (hs:s<H.c) (b:j<H.n) (a:∀ x∈ids,0<=x/\x<=60):Wf (Hs.ay s ids H j):=by
 have d:=h.c3;have c:=h.n4;have w:=q8s (M0 (h.nd s j hs b) (H.sh s).ab a) (by omega) (by omega);exact Wf.send (h.an w.1) w.2
theorem q6w (s:Nat) (ids:List Int):∀ (l:List Nat) (H:Hs),(l.foldl (Hs.ay s ids) H).n=H.n/\(l.foldl (Hs.ay s ids) H).c=H.c/\(l.foldl (Hs.ay s ids) H).m=H.m
 | [],_=>⟨rfl,rfl,rfl⟩
 | j::l,H=>by
  obtain⟨c,b,a⟩:=q6w s ids l (Hs.ay s ids H j);exact⟨c,b,a⟩
theorem Wf.bK {s:Nat} {ids:List Int} (b:∀ x∈ids,0<=x/\x<=60):∀ (l:List Nat) {H:Hs},Wf H->s<H.c->(∀ j∈l,j<H.n)->Wf (l.foldl (Hs.ay s ids) H)
 | [],_,h,_,_=>h
 | j::l,_,h,hs,hl=>Wf.bK b l (h.ay hs (hl j VL) b) hs (fun a c=>hl a (VM _ c))
theorem Wf.ids (h:Wf H) {s:Nat} (hs:s<H.c):∀ x∈(H.sh s).ids H.n,0<=x/\x<=60:=by
 intro x b;unfold Bg.ids at b;obtain⟨j,a,rfl⟩:=List.mem_map.1 b;have a:j<H.n:=by unfold Bg.aj at a;exact List.mem_range.1 (List.mem_filter.1 a).1
 have d:=h.c3;have c:=h.n4;exact(h.nd s j hs a).cI (by omega) (by omega)
theorem Wf.aW (h:Wf H) {s:Nat} (hs:s<H.c):Wf (H.aW s):=by
 unfold Hs.aW;simp only;have a:=h.ids hs;have g:Wf (H.al s { H.sh s with ab:=Xa ((H.sh s).ab+1),size:=((H.sh s).aj H.n).length }):=h.ca rfl rfl (h.tab s hs) (h.sto s hs);have f:=Wf.bK a ((H.sh s).aj H.n) g hs (fun j d=>by unfold Bg.aj at d;exact List.mem_range.1 (List.mem_filter.1 d).1);have b:=q6w s ((H.sh s).ids H.n) ((H.sh s).aj H.n) (H.al s { H.sh s with ab:=Xa ((H.sh s).ab+1),size:=((H.sh s).aj H.n).length });generalize List.foldl (Hs.ay s ((H.sh s).ids H.n)) (H.al s { H.sh s with ab:=Xa ((H.sh s).ab+1),size:=((H.sh s).aj H.n).length }) ((H.sh s).aj H.n)=H2 at *;have c:s<H2.c:=by rw[b.2.1];exact hs
 exact(f.ca (x:={ H2.sh s with tab:=fun _=>B0,sto:=fun _=>[],done:=0 }) rfl rfl Dn.none_ Do.none_).take c
theorem Wf.fix (h:Wf H) {s:Nat} (hs:s<H.c):Wf (H.fix s):=by
 unfold Hs.fix;split
 ·exact h
 ·exact h.aW hs
theorem Ol (H:Hs) (i:Nat):Sz H (H.a5 i):=by
 unfold Hs.a5;split
 ·exact(Nc H i).1.sz
 ·exact Sz.refl H
theorem Wf.a5 (h:Wf H) (b:H.c=3) {i:Nat} (c:1<=i) (a:i<=H.m):Wf (H.a5 i):=by
 unfold Hs.a5;split
 ·exact h.abort b c a
 ·exact h
end
def lkV (P:Aw) (id:Int) (k:Sx) (a:Int):Hi:=if a=0 then .tuple #[pw (P.gt id.toNat),pw (P.gs (Ad k)),.nilIface] else .tuple #[.pointer B0,.pointer B0,.iface 79 (.int .i64 a)]
def LkP (P:Aw) (own:Ai) (id:Int) (k:Sx) (w:B1) (r:Int×Hs) (e:WA) (w':B1):Prop:=e=.returned (lkV P id k r.1)/\Ch P own r.2 w w'
def Gq (P:Aw) (own:Ai) (i s:Nat) (w:B1) (r:Int×Hs) (e:WA) (w':B1):Prop:=e=.returned (if r.1=0 then .tuple #[pw (P.gt i),pw (P.gs s),.nilIface] else .tuple #[.pointer B0,.pointer B0,.iface 79 (.int .i64 r.1)])/\Ch P own r.2 w w'
theorem Gq.no {P:Aw} {own:Ai} {i s:Nat} {w w':B1} {r:Int×Hs} {a:Int} {H2:Hs} (h:r=(a,H2)) (c:a≠0) (b:Ch P own H2 w w'):Gq P own i s w r (.returned (.tuple #[.pointer B0,.pointer B0,.iface 79 (.int .i64 a)])) w':=by
 subst h;exact⟨by rw[if_neg c],b⟩
theorem Gq.yes {P:Aw} {own:Ai} {i s:Nat} {w w':B1} {r:Int×Hs} {H2:Hs} (h:r=(0,H2)) (a:Ch P own H2 w w'):Gq P own i s w r (.returned (.tuple #[.pointer (Bs ⟨P.gt i,0,B0⟩),.pointer (Bs ⟨P.gs s,0,B0⟩),.nilIface])) w':=by
 subst h;exact⟨by rw[if_pos rfl];rfl,a⟩
theorem Gq.c6 {P:Aw} {own:Ai} {i s:Nat} {w w':B1} {r:Int×Hs} {e:WA} {k:Sx} (h:Gq P own i s w r e w') (a:Ad k=s):LkP P own i k w r e w':=by
 subst a;exact h
section
variable {w w':B1} {own own':Ai} {P:Aw} {H:Hs}
theorem Ik {Z:Tg->Prop} {a:Nat} {t:TypeId} {f:Array Hi} (b:HZ Z w own w' own') (d:Ab w a t f) (c:own a=B0):Ab w' a t f/\own' a=B0:=
 ⟨b.fr.ah d (fun hs=>hs.owned c),(b.ext a d.lt).trans c⟩
theorem Pn {b n:Nat} {f:Int->Option Int} (h:Aa BC w b n (Db f)) {o:Int} (c:E3 o):(Instr.lookup 61 (.map (Bs b)) (.int .i64 o) T2).run Tryz.prog w=.ok (.tuple #[.int .i64 ((f o).getD 0),.bool (f o).isSome]) w:=by
 have a:(zeroValue 3).run Tryz.prog w=.ok (.int .i64 0) w:=by kernel_rfl
 have:=(h.look Tryz.underlying61 a (x:=o) c).1;rw[show BC.val o=Wi .i64 o from rfl] at this;rw[this];unfold Db;cases f o <;> rfl
def Ed (P:Aw) (own:Ai) (H:Hs) (l:List Int) (w:B1) (v:Hi) (wr:B1):Prop:=∃ q:Nat,v=.int .i64 q/\q<=l.length/\Ch P own (woundd H (l.take q)) w wr
theorem q9p {T T':Tb} {tx mode d:Int} {x:Sx} {ok:Bool} {l:List Int} (h:DA T ⟨tx,x,mode⟩ ok l d T') (g:BW mode) (f:x.length<=20) :
  (CC (Ac T x).ws tx=T2/\ok=Jx/\l=[]/\d=9)\/(CC (Ac T x).ws tx=Jx/\As (Ac T x).h tx mode (Ac T x).ws=T2/\ok=T2/\l=[]/\d=0)\/
  (CC (Ac T x).ws tx=Jx/\As (Ac T x).h tx mode (Ac T x).ws=Jx/\(Ac T x).ws.length=50/\ok=Jx/\l=[]/\d=4)\/
  (CC (Ac T x).ws tx=Jx/\As (Ac T x).h tx mode (Ac T x).ws=Jx/\(Ac T x).ws.length≠50/\ok=Jx/\d=0/\HJ (Ac T x).h tx mode l):=by
 cases h with
 | arg h=>exact absurd g h
 | long _ h=>exact absurd f (by simpa using h)
 | twice _ _ a=>exact .inl ⟨a,rfl,rfl,rfl⟩
 | got _ _ a c=>exact .inr (.inl ⟨a,c,rfl,rfl,rfl⟩)
 | full _ _ a c b=>exact .inr (.inr (.inl ⟨a,c,b,rfl,rfl,rfl⟩))
 | waits _ _ a c b m=>exact .inr (.inr (.inr ⟨a,c,b,rfl,rfl,m⟩))
theorem q8p (h:Int->Option Int) (tx mode:Int):(EV h tx mode).length<=61:=by
 unfold EV;exact VO (List.length_filter_le _ _) (by simp)
theorem MY:(Tryz.prog.info? 129).map (fun i=>(i.zero,i.size,i.bytes))=Bs (Bs (.agg #[.string ⟨#[]⟩,.int .i64 0]),2,24):=by kernel_rfl
theorem HI.cn (h:HI w own P H) {i:Nat} {v:KN} (f:Cx w own i (P.gt i) v (H.tx i)) {k:Sx} {mode:Int} {V':Hi} (l:Aq w w' v.Vx.ownBlock V'.ownBlock)
  (o:w'.ownsRow 0 129 2 V' ((H.tx i).af.length+1) ((H.tx i).af.flatMap Ei++Ei (k,mode))):∃ own',HI (w'.setCell ⟨P.gt i,8,B0⟩ V') own' P (H.aN i k mode)/\AA w own (w'.setCell ⟨P.gt i,8,B0⟩ V') own'/\∃ v',Cx (w'.setCell ⟨P.gt i,8,B0⟩ V') own' i (P.gt i) v' ((H.aN i k mode).tx i):=by
 have m:Fr (fun b=>v.Vx.ownBlock=Bs b\/w.heap.size<=b) w w':=l.1.mono (fun b _ e=>.inl e.symm);have n:Ext own (DW own w.heap.size (fun b=>V'.ownBlock=Bs b) (.tx i)) w.heap.size:=Rn;have g:w'.ownsRow 0 129 2 V' ((H.tx i).af++[(k,mode)]).length (((H.tx i).af++[(k,mode)]).flatMap Ei):=by
  rw[VP,List.flatMap_append];simpa using o
 have q:∀ b,V'.ownBlock=Bs b->DW own w.heap.size (fun b=>V'.ownBlock=Bs b) (.tx i) b=Bs (.tx i):=fun b c=>Rl (by
  rcases l.2 with e|⟨u,e,r⟩
  ·exact .inl (f.xt b (by rw[<- e];exact c))
  ·rw[e] at c;injection c with c;exact .inr (by omega)) c
 have d:=f.bM n m g q;have a:Fr (OS own (fun t=>t=.tx i)) w (w'.setCell ⟨P.gt i,8,B0⟩ V'):=
  (l.1.mono (T:=OS own (fun t=>t=.tx i)) (fun b _ e=>⟨_,f.xt b e.symm,rfl⟩)).setCell (p:=⟨P.gt i,8,B0⟩) (.inl ⟨_,f.gt,rfl⟩) _
 have hI:=h.setTx' (t':={ H.tx i with af:=(H.tx i).af++[(k,mode)] }) a n (Rk a.size (fun b c=>VH (o.lt b c).2 (Fr.ax (P.gt i) w' 8 V').size)) ⟨{ v with Vx:=V' },d⟩;refine⟨_,hI,⟨n,GR a (fun _=>Dv),(by first|exact Qc (by simp)|exact fun _ _ h=>h)⟩,{ v with Vx:=V' },?_⟩;rw[show(H.aN i k mode).tx i = { H.tx i with af:=(H.tx i).af++[(k,mode)] } from Tx _ _ _];exact d
theorem Jy (h:HI w own P H) (wf:Wf H) (cj:El own) (hc:H.c=3) (id:Int) (k:Sx) (hk:k∈names) (mode:Int) (hm:BW mode):VX Tryz.prog 35 #[pw P.g,.int .i64 id,.string ⟨k.toArray⟩,.int .i64 mode] w (LkP P own id k w (H.lock id k mode)):=by
 have b1:=KJ hk;have cG:(⟨k.toArray⟩:ByteArray).size=k.length:=by simp[ByteArray.size]
 have bC:VJ w.heap.size w (w.alloc (.cells #[.string ⟨k.toArray⟩] 9)):=(S2 w.heap.size w).alloc (L1 _) _;have bD:Ab (w.alloc (.cells #[.string ⟨k.toArray⟩] 9)) w.heap.size 9 #[.string ⟨k.toArray⟩]:=Ab.new w _ _;have aJ:=LH (h.below bC);have bE:=LH (HZ.below (Z:=BN) own bC);have cu:=LH bD;have aZ:=LH (show own w.heap.size=B0 from h.free (L1 _));have HF:=LH (q4s (h.below bC) (by have:=wf.bC;omega) id);have cp:=bD.cell 0;have cy:=bD.lt;simp only[Ft,D0,N2] at cp;have aG:=LH wf;clear h bC bD wf;unfold pw at *;go_enter Tryz.func35,Tryz.ntmps35;go_upto_region 1 with (fail)
 generalize (w.alloc _)=w1 at *;generalize w.heap.size=kb at *;by_cases hb:id<1\/H.m<id
 ·have z:=LH (show LkP P own id k w (H.lock id k mode) (.returned (.tuple #[.pointer B0,.pointer B0,.iface 79 (.int .i64 7)])) w1 from by rw[q1l hb];exact⟨rfl,own,aJ.o,bE.o⟩);rw[q71 hb] at HF;clear hb;go_wp2_with fail;refine HF.o.mono ?_;rintro e w2 ⟨rfl,rfl⟩;go_wp2_with fail;go_ret3;exact z.o
 ·obtain⟨i,rfl⟩:∃ i:Nat,id=i:=⟨id.toNat,by omega⟩
  have h1:1<=i:=by omega
  have hi:i<=H.m:=by omega
  rw[q5a h1 hi] at HF;unfold pw at HF;obtain⟨v,hv⟩:=aJ.o.tx i h1 hi;have HV:=LH hv;obtain⟨_,k1,_,k3,_,_,k8,gl⟩:=hv.cells;clear hv hb;by_cases s1:(H.tx i).state=1
  ·rw[s1] at k1;have ca:=LH (fun h5=>q6v (mode:=mode) h1 hi s1 b1 h5);have bt:=LH (fun h5 h6=>q5m (mode:=mode) h1 hi s1 b1 h5 h6);have bI:=LH (fun h5 h6 h7=>q5k (mode:=mode) h1 hi s1 b1 h5 h6 h7);have bH:=LH (fun h5 h6 h7=>qc9 (mode:=mode) h1 hi s1 b1 h5 h6 h7);have cs:=LH (Fv aJ.o hc ⟨k.toArray⟩ (by omega));rw[Du] at cs;have ci:=KM k;have ct:=LH (q70 aJ.o aG.o (s:=Ad k) (by omega));have bG:=LH (fun h=>q3y (H:=H.came i (Ad k)) (i:=i) (k:=k) (mode:=mode) h);have bJ:=LH (fun h h2=>q5o (H:=H.came i (Ad k)) (i:=i) (k:=k) (mode:=mode) h h2);have bK:=LH (fun h h2 h3=>q4p (H:=H.came i (Ad k)) (i:=i) (k:=k) (mode:=mode) h h2 h3);have bF:=LH (fun h h2 h3=>q3x (H:=H.came i (Ad k)) (i:=i) (k:=k) (mode:=mode) h h2 h3);unfold pw at *;clear s1;generalize H.lock i k mode=cF at *;generalize cm:Ad k=s at *;have a0:=LH cm;clear cm;obtain⟨vh,bQ⟩:=aJ.o.hs;obtain⟨_,c3,_,_,gg⟩:=bQ.cells;obtain⟨r3,q3,cr,cH,co⟩:=bQ.bR (s:=s) (by omega);rw[cr,hc] at c3;unfold pw at co;clear bQ cr;go_wp2_with fail;refine HF.o.mono ?_;rintro e w2 ⟨rfl,rfl⟩;go_wp2_with fail;refine cs.o.mono ?_;rintro e w1 ⟨rfl,rfl⟩;go_wp2_with fail;refine ct.o.mono ?_;rintro e w2 ⟨rfl,bY⟩;have bP:AA w1 own w2 own:=HZ.below own bY;have am:=LH (aJ.o.below bY);have b2:=LH (bE.o.trans bP);have cn:=Ik bP cu.o aZ.o;have bL:=LH cn.1;clear bY bP cn c3 co gg k1 k3 k8 gl cp cy aJ bE cu ct HV;rcases bB:H.head s with _|j
   ·have cl:=ca.o bB;have z:=LH (Gq.no (i:=i) (s:=s) cl (by decide) ⟨own,am.o,b2.o⟩);clear bB cl;unfold Dk;go_wp2_with fail;go_ret3;exact z.o.c6 a0.o
   ·have bq:=LH (show H.head s≠B0 by rw[bB];simp);obtain⟨vt,bA⟩:=am.o.tx i h1 hi;have HV:=LH bA;obtain⟨_,k1,_,k3,_,_,k8,gl⟩:=bA.cells;obtain⟨vs,cg⟩:=am.o.sh s (by omega);obtain⟨_,_,m2,_,_,sl⟩:=cg.cells;have V:=Pn bA.ad (o:=(s:Int)) (FD (by omega) (by omega));clear bB bA cg;unfold Dk pw;cases ap:(H.tx i).ad s with
    | none=>
     have bp:=LH (show ¬Um H i s from fun⟨e,h,_⟩=>by rw[ap] at h;cases h);rw[ap] at V;clear ap;go_upto_region 16 with (fail)
     clear V k1 k8;have br:=LH (HV.o.ad.fr ((Fr.refl (fun _=>False) w2).drew) (fun h=>h));have bO:w2.drew.cell? ⟨P.gt i,3,B0⟩=Bs (.map (Bs vt.bs)):=k3;have bN:w2.drew.cell? ⟨P.gs s,2,B0⟩=Bs (.int .i64 (H.sh s).ab):=m2;have c0:P.gt i<w2.drew.heap.size:=gl;have bM:P.gs s<w2.drew.heap.size:=sl;clear k3 m2 gl sl;refine XM 9 (by kernel_rfl) (by kernel_rfl) ?_;change wpStill _ _ (Ym _) _ _ _;simp only[WU,XN,Xd,Yt]
     repeat still_step
     refine wpStill_nil ?_;refine TF (C:=BC) rfl 61 3 Tryz.underlying61 (.tmp 80) (.tmp 81) (.tmp 85) rfl (by simp[Xg]) br.o (by unfold VZ;omega) (s:Int) (.int .i64 (H.sh s).ab) (by simp[Xg];rfl) (by simp[Xg]) (FD (by omega) (by omega)) ?_;intro w3 aN ba;have ac:Fr (fun b=>b=vt.bs) w2 w3:=((Fr.refl _ w2).drew).trans ba;rw[qce] at aN;have aC:Aa BC w3 vt.bs 100 (Db (AG (H.tx i).ad s (H.sh s).ab)):=by
      refine(aN.tight DC (fun a _ ha=>?_)).mono (show DC.length<=100 from by rw[Uq];decide);unfold Db at ha;cases e:AG (H.tx i).ad s (H.sh s).ab a with
      | none=>rw[e] at ha;exact absurd rfl ha
      | some q=>
       unfold AG at e;split at e
       ·exact Qa (by omega) (by omega)
       ·have:=((aG.o.tx i h1 hi).sh a q e).1;exact Qa (by omega) (by omega)
     have a1:=HV.o.bV ac aC;have ar:Fr (OS own (fun t=>t=.tx i)) w2 w3:=ac.mono (fun b _ e=>⟨_,by rw[e];exact HV.o.st.resolve_right (cj _ _),rfl⟩);have aF:HI w3 own P (H.came i s):=am.o.setTx' ar (Ext.refl own _) (fun b hb=>VH (am.o.lt b hb) ar.size) ⟨_,a1⟩;have aM:AA w2 own w3 own:=⟨Ext.refl own _,GR ar (fun _=>Dv),fun _ _ h=>h⟩
     have aS:=aG.o.came h1 hi ci;have Y:=Ik aM bL.o aZ.o;have af:=Y.1.cell 0;have bb:=Y.1.lt;simp only[Ft,D0] at af;have ay:E4 { H.tx i with ad:=AG (H.tx i).ad s (H.sh s).ab }:=by
      have:=aS.tx i h1 hi;unfold Hs.came at this;rw[Tx] at this;exact this
     have K:=qao a1 ay k af;obtain⟨_,n1,_,_,_,_,n8,nl⟩:=a1.cells;obtain⟨A8,c8,bf,_,_⟩:=AK a1.af;rw[bf] at n8 K;have aw:=LH K;have b0:=LH aF;have aU:=LH (b2.o.trans aM);have bz:=LH Y.1;have ax:=LH aS;have c5:=LH a1;clear K aF aM Y aS ay a1 ar aC aN ac ba bO bN c0 bM br bf;go_wp2_with fail;refine aw.o.mono ?_;rintro e w4 ⟨rfl,Q⟩;cases x:CM (H.tx i).af k with
     | true=>
      have z:=LH (Gq.no (i:=i) (s:=s) (bI.o bq.o bp.o x) (by decide) ⟨own,b0.o.below Q,aU.o.trans (HZ.below own Q)⟩);clear x Q;go_wp2_with fail;go_ret3;exact z.o.c6 a0.o
     | false=>
      have bv:=LH (b0.o.below Q);have bm:=LH (aU.o.trans (HZ.below own Q));have X:=Ik (HZ.below (Z:=BN) own Q) bz.o aZ.o;have bx:=LH X.1;have V:=q9u (bv.o.below (S2 w4.heap.size w4).drew) (show s<(H.came i s).c from by show s<H.c;omega) i mode ⟨k.toArray⟩ (by have:=aG.o.bC;omega) (by rw[Du];exact hk) hm (ax.o.tab s (by show s<H.c;omega));rw[Du] at V;have aI:=LH V;have ak:=LH (bH.o bq.o bp.o x);have c2:=LH x;have d:=Wm ((show Ab w4.drew _ _ _ from X.1).cell 0) (show kb<w4.drew.heap.size from X.1.lt);simp only[Ft,D0] at d;clear V x X Q af bb n8 bz b0 aw;go_upto_region 19 with (fail)
      clear n1 nl;refine nW ?_;refine CU (fun W=>W.cell? ⟨kb,0,B0⟩=Bs (.string ⟨k.toArray⟩)/\kb<W.heap.size) 14 (fun _ _ _ _ _ h=>h) (fun f=>?_);refine nD 0 [1,2,6,7,8,9,10,11,12,13] f d ?_;refine nD 1 [2,6,7,8,9,10,11,12,13] f d ?_;refine nD 2 [6,7,8,9,10,11,12,13] f d ?_;refine nD 3 [6,7,8,9,10,11,12,13] f d ?_;refine nA 4 [6,7,8,9,10,11,12,13] rfl rfl f d (fun w' a8=>by obtain⟨p0,pl⟩:=a8;go_simp;rfl) ?_;refine nD 5 [6,7,8,9,10,11,12,13] f d ?_;clear d;refine nG 6 (fun F n=>?_);go_simp;refine aI.o.mono ?_;rintro e w5 ⟨ok,l,er,A,c,G,rfl,hP,bi,be,aB,bk⟩;have aL:AA w4 own w5 G:=(HZ.below own (S2 w4.heap.size w4).drew).trans (be.mono (fun _=>Fo));have J:=Ik aL bx.o aZ.o;have d:=Wm (J.1.cell 0) J.1.lt;simp only[Ft,D0] at d;have al:=LH J.1;have aY:=LH J.2;have a6:=LH (show HI w5 G P ((H.came i s).aX i s k mode) from bi);have ah:=LH (bm.o.trans aL);have HP:=LH hP;have aX:=LH aB;have HA:=LH bk;clear aL J bi be hP aB bk aI bv bm bx;go_simp;refine n _ _ (fun _=>d) ?_;clear n F;refine nG 7 (fun F n=>?_);go_simp;refine n _ _ (fun _=>d) ?_;clear n F;refine nD 8 [11,12,13] f d ?_;refine nD 9 [12,13] f d ?_;refine nD 10 [13] f d ?_;refine nG 11 (fun F n=>?_);go_simp;refine n _ _ (fun _=>d) ?_;clear n F;refine nG 12 (fun F n=>?_);go_simp;refine n _ _ (fun _=>d) ?_;clear n F;refine nG 13 (fun F n=>?_);go_simp;refine n _ _ (fun _=>d) ?_;clear n F;refine nX ?_;clear f;rcases q9p HP.o hm b1 with ⟨q1,rfl,rfl,rfl⟩|⟨q1,q2,rfl,rfl,rfl⟩|⟨q1,q2,q3,rfl,rfl,rfl⟩|⟨q1,q2,q3,rfl,rfl,b5⟩
      ·have z:=LH (Gq.no (i:=i) (s:=s) (ak.o.trans (bG.o q1)) (by decide) ⟨G,a6.o,ah.o⟩);rw[show CX 9=.iface 79 (.int .i64 9) from rfl];clear q1 d;go_wp2_with fail;go_ret3;exact z.o.c6 a0.o
      ·have z:=LH (Gq.yes (i:=i) (s:=s) (ak.o.trans (bJ.o q1 q2)) ⟨G,a6.o,ah.o⟩);rw[show CX 0=.nilIface from rfl];clear q1 q2 d;go_wp2_with fail;go_ret3;exact z.o.c6 a0.o
      ·have z:=LH (Gq.no (i:=i) (s:=s) (ak.o.trans (bK.o q1 q2 q3)) (by decide) ⟨G,a6.o,ah.o⟩);rw[show CX 4=.iface 79 (.int .i64 4) from rfl];clear q1 q2 q3 d;go_wp2_with fail;go_ret3;exact z.o.c6 a0.o
      ·have bu:=LH (ak.o.trans (bF.o q1 q2 q3));have bU:=Fc (fun o m ho=>((ax.o.tab s (by show s<H.c;omega)).at_ k).hold o m ho) b5;subst bU;rw[show CX 0=.nilIface from rfl];clear q1 q2 q3 d b5;have av:=ax.o.aX (mode:=mode) h1 (show i<=(H.came i s).m from hi) (show s<(H.came i s).c by show s<H.c;omega) hk;have az:CM (((H.came i s).aX i s k mode).tx i).af k=Jx:=by
        show CM ((H.came i s).tx i).af k=Jx;unfold Hs.came;rw[Tx];exact c2.o
       have bX:((H.came i s).aX i s k mode).c=3:=hc;have bT:((H.came i s).aX i s k mode).m=H.m:=rfl;have b7:=fun o (ho:o∈EV (Ac ((H.came i s).sh s).tab k).h (i:Int) mode)=>q8o ho
       have cx:=q8p (Ac ((H.came i s).sh s).tab k).h (i:Int) mode;generalize EV (Ac ((H.came i s).sh s).tab k).h (i:Int) mode=l at *;clear bG bJ bK bF ak HP ca bt bI bH ax c5 b2 aU am bL;generalize (H.came i s).aX i s k mode=H5 at *;have cA:=LH av;have bn:=LH (av.aN (mode:=mode) h1 (show i<=H5.m by omega) hk az);have cC:=LH b7;obtain⟨v5,a9⟩:=a6.o.tx i h1 (by omega);have ai:=LH a9;have cf:=(av.tx i h1 (by omega)).b5;obtain⟨_,_,_,_,_,_,n8,nl⟩:=a9.cells;obtain⟨A9,c9,aT,_,_⟩:=AK a9.af;have N:=a9.af;rw[aT] at n8 N;have aj:=LH N;have aV:=LH aT;clear a9 aT N av az b7;go_upto_region 23 with (fail)
       refine nW ?_;refine CU (fun W=>W.cell? ⟨P.gt i,8,B0⟩=Bs (.slice A9 (H5.tx i).af.length c9)/\W.cell? ⟨kb,0,B0⟩=Bs (.string ⟨k.toArray⟩)) 10 (fun _ _ _ _ _ h=>h) (fun f=>?_);have d:w5.drew.cell? ⟨P.gt i,8,B0⟩=Bs (.slice A9 (H5.tx i).af.length c9)/\w5.drew.cell? ⟨kb,0,B0⟩=Bs (.string ⟨k.toArray⟩):=⟨n8,(show Ab w5.drew _ _ _ from al.o).cell 0⟩
       refine nD 0 [10,11,12] f d ?_;refine nD 1 [2,3,4,9,10,11,12] f d ?_;refine nD 2 [3,4,9,10,11,12] f d ?_;refine nD 3 [4,9,10,11,12] f d ?_;refine nA 4 [9,10,11,12] rfl rfl f d (fun w' a8=>by obtain⟨p0,p1⟩:=a8;go_simp;rfl) ?_;refine nA 5 [7,8,9,10,11,12] rfl rfl f d (fun w' a8=>by obtain⟨p0,p1⟩:=a8;go_simp;rfl) ?_;refine nD 6 [7,8,9,10,11,12] f d ?_;refine nD 7 [8,9,10,11,12] f d ?_;have O:∀ o q p,q<w5.heap.size->(w5.alloc o).cell? ⟨q,p,B0⟩=w5.cell? ⟨q,p,B0⟩:=fun o q p hq=>WY w5 o ⟨q,p,B0⟩ hq
       refine nG 8 (fun F n=>?_);go_simp;refine n _ _ (fun _=>⟨(O _ _ _ nl).trans d.1,(O _ _ _ al.o.lt).trans d.2⟩) ?_;clear n F d O;refine nG 9 (fun F n=>?_);refine TE w5.drew w5.heap.size rfl _ (.tmp 113) (.tmp 117) 76 rfl 0 129 _ 2 24 Tryz.underlying76 MY rfl (by decide) _ _ _ #[.string ⟨k.toArray⟩,.int .i64 mode] rfl aj.o 1 rfl _ rfl rfl (by simp[Wy]) (by unfold VZ;omega) (by omega) (VK _) ?_;intro V2 w6 M y;have U:Aq w5 w6 v5.Vx.ownBlock V2.ownBlock:=by rw[aV.o];exact⟨⟨y.1.os,y.1.tape,y.1.output,y.1.size,y.1.block⟩,y.2⟩
       obtain⟨B,bh,bd,v7,bR⟩:=a6.o.cn (i:=i) (k:=k) (mode:=mode) ai.o U M;have b9:¬Bs (P.gt i)=v5.Vx.ownBlock:=fun e=>ai.o.aQ.2.1 e.symm
       have b4:¬Bs kb=v5.Vx.ownBlock:=fun e=>by have:=ai.o.xt kb e.symm;rw[aY.o] at this;cases this
       have ab:=U.1.ah ai.o.ah b9;have b8:=U.1.ah al.o b4;have y1:=ab.frozen 8;have yl:=ab.lt;have y0:∃ u,w6.cell? ⟨P.gt i,8,B0⟩=Bs u:=by
        have:=ab.cell 8;unfold OE at this;simp only[Ft,D0,N2] at this;exact⟨_,this⟩
       obtain⟨u0,y0⟩:=y0;have bj:w6.cell? ⟨P.gt i,8,B0⟩=Bs (.slice A9 (H5.tx i).af.length c9)/\w6.cell? ⟨kb,0,B0⟩=Bs (.string ⟨k.toArray⟩):=⟨by
        have:=ab.cell 8;unfold OE at this;simp only[Ft,D0,N2] at this;rw[this,aV.o],b8.cell 0⟩
       have bw:=LH bj;have cb:=LH bh;have a4:=LH bd;obtain⟨A7,c7,bZ,_,_⟩:=AK M;subst bZ;clear y U b9 b4 ab b8 bj bh bd bR M v7;go_simp;refine n _ _ (fun _=>bw.o) ?_;clear n F;refine nG 10 (fun F n=>?_);go_simp;refine n _ _ nZ ?_;clear n F;refine nG 11 (fun F n=>?_);go_simp;refine n _ _ nZ ?_;clear n F;refine nG 12 (fun F n=>?_);go_simp;refine n _ _ nZ ?_;clear n F;refine nX ?_;clear f y0 y1 yl bw n8 nl;generalize (w6.setCell _ _)=w7 at *;have aa:=Ik a4.o al.o aY.o;have cc:=LH aa.1;have c6:=LH aa.2;have aA:Rd w7 w5.heap.size 1 A l.length (l.map (Wi .i64)):=aX.o.fr a4.o.fr (L1 _) (fun g an e h0 hs=>hs.owned (HA.o g an e h0));have bo:=LH aA;have cd:=LH (fun b o (e:A=Bs ⟨b,o,B0⟩) (h0:0<l.length)=>((a4.o.ext b (by
        obtain⟨g,an,u,e2,hg,_⟩:=aX.o.bQ (k:=0) h0;rw[e] at e2;injection e2 with e2;injection e2 with e2;omega)).trans (HA.o b o e h0):B b=B0))
       have bl:=LH (ah.o.trans a4.o);have aR:(H5.aN i k mode).c=3:=bX;have y:(H5.aN i k mode).m=H.m:=bT;have aH:=LH (show w5.heap.size<=w7.heap.size from a4.o.fr.size);clear aa aA a4 ah a6 al aY aX HA ai aV aj;generalize H5.aN i k mode=H6 at *;go_wp2_with fail;go_loopw [123] (Ed P B H6 l w7) (fun v _=>l.length-(intOf v).toNat)
       case atStart=>exact⟨0,rfl,VK _,B,cb.o,HZ.refl _ _ _⟩
       case round=>
        obtain⟨q,rfl,hq,T,S,R⟩:=hrel;by_cases cw:(q:Int)<l.length
        ·obtain⟨r,o,u,hA,hr,hu,bV⟩:=(bo.o.fr R.fr aH.o (fun g an e h0 hs=>hs.owned (cd.o g an e h0))).bQ (k:=q) (by omega);have hx:l[q]? = Bs l[q]:=K0 (by omega);rw[VT,hx] at hu;simp only[Wv,VN] at hu;subst hu hA;have cv:r<wr.heap.size:=VH hr (VO aH.o R.fr.size);have aW:=LH (q8q (H:=H6) hx);have a2:=q42 (l.take q) H6;have a3:=bn.o.bo (l.take q) aR;have bW:(woundd H6 (l.take q)).c=3:=a2.c.trans aR;have bS:(woundd H6 (l.take q)).m=H.m:=a2.m.trans y;clear a2 hx;generalize l[q]=oo at *;generalize woundd H6 (l.take q)=H8 at *;have a7:=LH (q4s S (by have:=a3.bC;omega) oo);have a5:=LH S;have ag:=LH R;have c4:=LH a3;clear S R a3;by_cases aQ:oo<1\/(H8.m:Int)<oo
         ·rw[q71 aQ] at a7;have I:H8.aL oo=H8:=by unfold Hs.aL;rw[if_neg (by rintro ⟨a,b,_⟩;omega)]
          have z:=LH (show Ed P B H6 l w7 (.int .i64 ((q+1:Nat):Int)) wr from⟨q+1,rfl,by omega,T,by rw[aW.o,I];exact a5.o,ag.o⟩);clear aQ I;go_wp2_with fail;refine a7.o.mono ?_;rintro e w9 ⟨rfl,rfl⟩;go_wp2_with fail;go_roundw
          ·exact z.o
          ·simp[intOf];omega
         ·obtain⟨j,rfl⟩:∃ j:Nat,oo=j:=⟨oo.toNat,by omega⟩
          have aP:1<=j:=by omega
          have aO:j<=H8.m:=by omega
          rw[q5a aP aO] at a7;unfold pw at a7;obtain⟨vj,b6⟩:=a5.o.tx j aP aO;obtain⟨_,j1,_,_,_,_,_,jl⟩:=b6.cells;clear aQ b6;by_cases sj:(H8.tx j).state=1
          ·have I:H8.aL j=H8.abort j:=by unfold Hs.aL;rw[if_pos ⟨by omega,by omega,sj⟩];rfl
           have aK:=LH (q3s a5.o c4.o bW aP aO);have c1:=LH I;rw[sj] at j1;unfold pw at aK;clear I sj;go_wp2_with fail;refine a7.o.mono ?_;rintro e w9 ⟨rfl,rfl⟩;go_wp2_with fail;refine aK.o.mono ?_;rintro e w9 ⟨rfl,b3,bg,bc⟩;have z:=LH (show Ed P B H6 l w7 (.int .i64 ((q+1:Nat):Int)) w9 from⟨q+1,rfl,by omega,b3,by rw[aW.o,c1.o];exact bg,ag.o.trans bc⟩);clear bg bc j1 jl bV;go_wp2_with fail;go_roundw
           ·exact z.o
           ·simp[intOf];omega
          ·have I:H8.aL j=H8:=by unfold Hs.aL;rw[if_neg (by rintro ⟨_,_,a⟩;exact sj a)]
           have z:=LH (show Ed P B H6 l w7 (.int .i64 ((q+1:Nat):Int)) wr from⟨q+1,rfl,by omega,T,by rw[aW.o,I];exact a5.o,ag.o⟩);have e1:((H8.tx j).state == 1)=Jx:=by simpa using sj
           clear I sj;go_wp2_with fail;refine a7.o.mono ?_;rintro e w9 ⟨rfl,rfl⟩;go_wp2_with fail;go_roundw
           ·exact z.o
           ·simp[intOf];omega
        ·obtain rfl:q=l.length:=by omega
         rw[WR] at S;have a2:=q42 l H6;have a3:=bn.o.bo l aR;have bS:(woundd H6 l).m=H.m:=a2.m.trans y;obtain⟨v8,ao⟩:=S.tx i h1 (by omega);have aD:=Ik R cc.o c6.o;have ae:=aD.1.cell 0;simp only[Ft,D0] at ae;have K:=qan ao (a3.tx i h1 (by omega)) k ae;obtain⟨_,_,_,_,_,_,n8,nl⟩:=ao.cells;obtain⟨cD,cz,aE,_,_⟩:=AK ao.af;rw[aE] at n8 K;have aw:=LH K;have a5:=LH S;have ag:=LH (bl.o.trans R);clear K aD ae ao aE a3 a2 S R;generalize woundd H6 l=H8 at *;go_wp2_with fail;refine aw.o.mono ?_;rintro e w9 ⟨rfl,au⟩;have aq:Ch P own H8 w w9:=⟨T,a5.o.below au,ag.o.trans (HZ.below T au)⟩
         have E:=bu.o;cases x:CM (H8.tx i).af k with
         | true=>
          rw[x,if_pos rfl] at E;have z:=LH (Gq.no (i:=i) (s:=s) E (by decide) aq);clear x au aq E n8;go_wp2_with fail;go_ret3;exact z.o.c6 a0.o
         | false=>
          rw[x,if_neg (by decide)] at E;have z:=LH (Gq.yes (i:=i) (s:=s) E aq);clear x au aq E n8;go_wp2_with fail;go_ret3;exact z.o.c6 a0.o
    | some ee=>
     by_cases he:ee=(H.sh s).ab
     ·have bp:=LH (show ¬Um H i s from fun⟨e,h,h2⟩=>by rw[ap] at h;injection h with h;exact h2 (h▸he));rw[ap] at V;have d1:(ee != (H.sh s).ab)=Jx:=by simpa using he
      clear ap he;go_upto_region 16 with (fail)
      clear V k1 k8;have br:=LH (HV.o.ad.fr ((Fr.refl (fun _=>False) w2).drew) (fun h=>h));have bO:w2.drew.cell? ⟨P.gt i,3,B0⟩=Bs (.map (Bs vt.bs)):=k3;have bN:w2.drew.cell? ⟨P.gs s,2,B0⟩=Bs (.int .i64 (H.sh s).ab):=m2;have c0:P.gt i<w2.drew.heap.size:=gl;have bM:P.gs s<w2.drew.heap.size:=sl;clear k3 m2 gl sl;refine XM 9 (by kernel_rfl) (by kernel_rfl) ?_;change wpStill _ _ (Ym _) _ _ _;simp only[WU,XN,Xd,Yt]
      repeat still_step
      refine wpStill_nil ?_;refine TF (C:=BC) rfl 61 3 Tryz.underlying61 (.tmp 80) (.tmp 81) (.tmp 85) rfl (by simp[Xg]) br.o (by unfold VZ;omega) (s:Int) (.int .i64 (H.sh s).ab) (by simp[Xg];rfl) (by simp[Xg]) (FD (by omega) (by omega)) ?_;intro w3 aN ba;have ac:Fr (fun b=>b=vt.bs) w2 w3:=((Fr.refl _ w2).drew).trans ba;rw[qce] at aN;have aC:Aa BC w3 vt.bs 100 (Db (AG (H.tx i).ad s (H.sh s).ab)):=by
       refine(aN.tight DC (fun a _ ha=>?_)).mono (show DC.length<=100 from by rw[Uq];decide);unfold Db at ha;cases e:AG (H.tx i).ad s (H.sh s).ab a with
       | none=>rw[e] at ha;exact absurd rfl ha
       | some q=>
        unfold AG at e;split at e
        ·exact Qa (by omega) (by omega)
        ·have:=((aG.o.tx i h1 hi).sh a q e).1;exact Qa (by omega) (by omega)
      have a1:=HV.o.bV ac aC;have ar:Fr (OS own (fun t=>t=.tx i)) w2 w3:=ac.mono (fun b _ e=>⟨_,by rw[e];exact HV.o.st.resolve_right (cj _ _),rfl⟩);have aF:HI w3 own P (H.came i s):=am.o.setTx' ar (Ext.refl own _) (fun b hb=>VH (am.o.lt b hb) ar.size) ⟨_,a1⟩;have aM:AA w2 own w3 own:=⟨Ext.refl own _,GR ar (fun _=>Dv),fun _ _ h=>h⟩
      have aS:=aG.o.came h1 hi ci;have Y:=Ik aM bL.o aZ.o;have af:=Y.1.cell 0;have bb:=Y.1.lt;simp only[Ft,D0] at af;have ay:E4 { H.tx i with ad:=AG (H.tx i).ad s (H.sh s).ab }:=by
       have:=aS.tx i h1 hi;unfold Hs.came at this;rw[Tx] at this;exact this
      have K:=qao a1 ay k af;obtain⟨_,n1,_,_,_,_,n8,nl⟩:=a1.cells;obtain⟨A8,c8,bf,_,_⟩:=AK a1.af;rw[bf] at n8 K;have aw:=LH K;have b0:=LH aF;have aU:=LH (b2.o.trans aM);have bz:=LH Y.1;have ax:=LH aS;have c5:=LH a1;clear K aF aM Y aS ay a1 ar aC aN ac ba bO bN c0 bM br bf;go_wp2_with fail;refine aw.o.mono ?_;rintro e w4 ⟨rfl,Q⟩;cases x:CM (H.tx i).af k with
      | true=>
       have z:=LH (Gq.no (i:=i) (s:=s) (bI.o bq.o bp.o x) (by decide) ⟨own,b0.o.below Q,aU.o.trans (HZ.below own Q)⟩);clear x Q;go_wp2_with fail;go_ret3;exact z.o.c6 a0.o
      | false=>
       have bv:=LH (b0.o.below Q);have bm:=LH (aU.o.trans (HZ.below own Q));have X:=Ik (HZ.below (Z:=BN) own Q) bz.o aZ.o;have bx:=LH X.1;have V:=q9u (bv.o.below (S2 w4.heap.size w4).drew) (show s<(H.came i s).c from by show s<H.c;omega) i mode ⟨k.toArray⟩ (by have:=aG.o.bC;omega) (by rw[Du];exact hk) hm (ax.o.tab s (by show s<H.c;omega));rw[Du] at V;have aI:=LH V;have ak:=LH (bH.o bq.o bp.o x);have c2:=LH x;have d:=Wm ((show Ab w4.drew _ _ _ from X.1).cell 0) (show kb<w4.drew.heap.size from X.1.lt);simp only[Ft,D0] at d;clear V x X Q af bb n8 bz b0 aw;go_upto_region 19 with (fail)
       clear n1 nl;refine nW ?_;refine CU (fun W=>W.cell? ⟨kb,0,B0⟩=Bs (.string ⟨k.toArray⟩)/\kb<W.heap.size) 14 (fun _ _ _ _ _ h=>h) (fun f=>?_);refine nD 0 [1,2,6,7,8,9,10,11,12,13] f d ?_;refine nD 1 [2,6,7,8,9,10,11,12,13] f d ?_;refine nD 2 [6,7,8,9,10,11,12,13] f d ?_;refine nD 3 [6,7,8,9,10,11,12,13] f d ?_;refine nA 4 [6,7,8,9,10,11,12,13] rfl rfl f d (fun w' a8=>by obtain⟨p0,pl⟩:=a8;go_simp;rfl) ?_;refine nD 5 [6,7,8,9,10,11,12,13] f d ?_;clear d;refine nG 6 (fun F n=>?_);go_simp;refine aI.o.mono ?_;rintro e w5 ⟨ok,l,er,A,c,G,rfl,hP,bi,be,aB,bk⟩;have aL:AA w4 own w5 G:=(HZ.below own (S2 w4.heap.size w4).drew).trans (be.mono (fun _=>Fo));have J:=Ik aL bx.o aZ.o;have d:=Wm (J.1.cell 0) J.1.lt;simp only[Ft,D0] at d;have al:=LH J.1;have aY:=LH J.2;have a6:=LH (show HI w5 G P ((H.came i s).aX i s k mode) from bi);have ah:=LH (bm.o.trans aL);have HP:=LH hP;have aX:=LH aB;have HA:=LH bk;clear aL J bi be hP aB bk aI bv bm bx;go_simp;refine n _ _ (fun _=>d) ?_;clear n F;refine nG 7 (fun F n=>?_);go_simp;refine n _ _ (fun _=>d) ?_;clear n F;refine nD 8 [11,12,13] f d ?_;refine nD 9 [12,13] f d ?_;refine nD 10 [13] f d ?_;refine nG 11 (fun F n=>?_);go_simp;refine n _ _ (fun _=>d) ?_;clear n F;refine nG 12 (fun F n=>?_);go_simp;refine n _ _ (fun _=>d) ?_;clear n F;refine nG 13 (fun F n=>?_);go_simp;refine n _ _ (fun _=>d) ?_;clear n F;refine nX ?_;clear f;rcases q9p HP.o hm b1 with ⟨q1,rfl,rfl,rfl⟩|⟨q1,q2,rfl,rfl,rfl⟩|⟨q1,q2,q3,rfl,rfl,rfl⟩|⟨q1,q2,q3,rfl,rfl,b5⟩
       ·have z:=LH (Gq.no (i:=i) (s:=s) (ak.o.trans (bG.o q1)) (by decide) ⟨G,a6.o,ah.o⟩);rw[show CX 9=.iface 79 (.int .i64 9) from rfl];clear q1 d;go_wp2_with fail;go_ret3;exact z.o.c6 a0.o
       ·have z:=LH (Gq.yes (i:=i) (s:=s) (ak.o.trans (bJ.o q1 q2)) ⟨G,a6.o,ah.o⟩);rw[show CX 0=.nilIface from rfl];clear q1 q2 d;go_wp2_with fail;go_ret3;exact z.o.c6 a0.o
       ·have z:=LH (Gq.no (i:=i) (s:=s) (ak.o.trans (bK.o q1 q2 q3)) (by decide) ⟨G,a6.o,ah.o⟩);rw[show CX 4=.iface 79 (.int .i64 4) from rfl];clear q1 q2 q3 d;go_wp2_with fail;go_ret3;exact z.o.c6 a0.o
       ·have bu:=LH (ak.o.trans (bF.o q1 q2 q3));have bU:=Fc (fun o m ho=>((ax.o.tab s (by show s<H.c;omega)).at_ k).hold o m ho) b5;subst bU;rw[show CX 0=.nilIface from rfl];clear q1 q2 q3 d b5;have av:=ax.o.aX (mode:=mode) h1 (show i<=(H.came i s).m from hi) (show s<(H.came i s).c by show s<H.c;omega) hk;have az:CM (((H.came i s).aX i s k mode).tx i).af k=Jx:=by
         show CM ((H.came i s).tx i).af k=Jx;unfold Hs.came;rw[Tx];exact c2.o
        have bX:((H.came i s).aX i s k mode).c=3:=hc;have bT:((H.came i s).aX i s k mode).m=H.m:=rfl;have b7:=fun o (ho:o∈EV (Ac ((H.came i s).sh s).tab k).h (i:Int) mode)=>q8o ho
        have cx:=q8p (Ac ((H.came i s).sh s).tab k).h (i:Int) mode;generalize EV (Ac ((H.came i s).sh s).tab k).h (i:Int) mode=l at *;clear bG bJ bK bF ak HP ca bt bI bH ax c5 b2 aU am bL;generalize (H.came i s).aX i s k mode=H5 at *;have cA:=LH av;have bn:=LH (av.aN (mode:=mode) h1 (show i<=H5.m by omega) hk az);have cC:=LH b7;obtain⟨v5,a9⟩:=a6.o.tx i h1 (by omega);have ai:=LH a9;have cf:=(av.tx i h1 (by omega)).b5;obtain⟨_,_,_,_,_,_,n8,nl⟩:=a9.cells;obtain⟨A9,c9,aT,_,_⟩:=AK a9.af;have N:=a9.af;rw[aT] at n8 N;have aj:=LH N;have aV:=LH aT;clear a9 aT N av az b7;go_upto_region 23 with (fail)
        refine nW ?_;refine CU (fun W=>W.cell? ⟨P.gt i,8,B0⟩=Bs (.slice A9 (H5.tx i).af.length c9)/\W.cell? ⟨kb,0,B0⟩=Bs (.string ⟨k.toArray⟩)) 10 (fun _ _ _ _ _ h=>h) (fun f=>?_);have d:w5.drew.cell? ⟨P.gt i,8,B0⟩=Bs (.slice A9 (H5.tx i).af.length c9)/\w5.drew.cell? ⟨kb,0,B0⟩=Bs (.string ⟨k.toArray⟩):=⟨n8,(show Ab w5.drew _ _ _ from al.o).cell 0⟩
        refine nD 0 [10,11,12] f d ?_;refine nD 1 [2,3,4,9,10,11,12] f d ?_;refine nD 2 [3,4,9,10,11,12] f d ?_;refine nD 3 [4,9,10,11,12] f d ?_;refine nA 4 [9,10,11,12] rfl rfl f d (fun w' a8=>by obtain⟨p0,p1⟩:=a8;go_simp;rfl) ?_;refine nA 5 [7,8,9,10,11,12] rfl rfl f d (fun w' a8=>by obtain⟨p0,p1⟩:=a8;go_simp;rfl) ?_;refine nD 6 [7,8,9,10,11,12] f d ?_;refine nD 7 [8,9,10,11,12] f d ?_;have O:∀ o q p,q<w5.heap.size->(w5.alloc o).cell? ⟨q,p,B0⟩=w5.cell? ⟨q,p,B0⟩:=fun o q p hq=>WY w5 o ⟨q,p,B0⟩ hq
        refine nG 8 (fun F n=>?_);go_simp;refine n _ _ (fun _=>⟨(O _ _ _ nl).trans d.1,(O _ _ _ al.o.lt).trans d.2⟩) ?_;clear n F d O;refine nG 9 (fun F n=>?_);refine TE w5.drew w5.heap.size rfl _ (.tmp 113) (.tmp 117) 76 rfl 0 129 _ 2 24 Tryz.underlying76 MY rfl (by decide) _ _ _ #[.string ⟨k.toArray⟩,.int .i64 mode] rfl aj.o 1 rfl _ rfl rfl (by simp[Wy]) (by unfold VZ;omega) (by omega) (VK _) ?_;intro V2 w6 M y;have U:Aq w5 w6 v5.Vx.ownBlock V2.ownBlock:=by rw[aV.o];exact⟨⟨y.1.os,y.1.tape,y.1.output,y.1.size,y.1.block⟩,y.2⟩
        obtain⟨B,bh,bd,v7,bR⟩:=a6.o.cn (i:=i) (k:=k) (mode:=mode) ai.o U M;have b9:¬Bs (P.gt i)=v5.Vx.ownBlock:=fun e=>ai.o.aQ.2.1 e.symm
        have b4:¬Bs kb=v5.Vx.ownBlock:=fun e=>by have:=ai.o.xt kb e.symm;rw[aY.o] at this;cases this
        have ab:=U.1.ah ai.o.ah b9;have b8:=U.1.ah al.o b4;have y1:=ab.frozen 8;have yl:=ab.lt;have y0:∃ u,w6.cell? ⟨P.gt i,8,B0⟩=Bs u:=by
         have:=ab.cell 8;unfold OE at this;simp only[Ft,D0,N2] at this;exact⟨_,this⟩
        obtain⟨u0,y0⟩:=y0;have bj:w6.cell? ⟨P.gt i,8,B0⟩=Bs (.slice A9 (H5.tx i).af.length c9)/\w6.cell? ⟨kb,0,B0⟩=Bs (.string ⟨k.toArray⟩):=⟨by
         have:=ab.cell 8;unfold OE at this;simp only[Ft,D0,N2] at this;rw[this,aV.o],b8.cell 0⟩
        have bw:=LH bj;have cb:=LH bh;have a4:=LH bd;obtain⟨A7,c7,bZ,_,_⟩:=AK M;subst bZ;clear y U b9 b4 ab b8 bj bh bd bR M v7;go_simp;refine n _ _ (fun _=>bw.o) ?_;clear n F;refine nG 10 (fun F n=>?_);go_simp;refine n _ _ nZ ?_;clear n F;refine nG 11 (fun F n=>?_);go_simp;refine n _ _ nZ ?_;clear n F;refine nG 12 (fun F n=>?_);go_simp;refine n _ _ nZ ?_;clear n F;refine nX ?_;clear f y0 y1 yl bw n8 nl;generalize (w6.setCell _ _)=w7 at *;have aa:=Ik a4.o al.o aY.o;have cc:=LH aa.1;have c6:=LH aa.2;have aA:Rd w7 w5.heap.size 1 A l.length (l.map (Wi .i64)):=aX.o.fr a4.o.fr (L1 _) (fun g an e h0 hs=>hs.owned (HA.o g an e h0));have bo:=LH aA;have cd:=LH (fun b o (e:A=Bs ⟨b,o,B0⟩) (h0:0<l.length)=>((a4.o.ext b (by
         obtain⟨g,an,u,e2,hg,_⟩:=aX.o.bQ (k:=0) h0;rw[e] at e2;injection e2 with e2;injection e2 with e2;omega)).trans (HA.o b o e h0):B b=B0))
        have bl:=LH (ah.o.trans a4.o);have aR:(H5.aN i k mode).c=3:=bX;have y:(H5.aN i k mode).m=H.m:=bT;have aH:=LH (show w5.heap.size<=w7.heap.size from a4.o.fr.size);clear aa aA a4 ah a6 al aY aX HA ai aV aj;generalize H5.aN i k mode=H6 at *;go_wp2_with fail;go_loopw [123] (Ed P B H6 l w7) (fun v _=>l.length-(intOf v).toNat)
        case atStart=>exact⟨0,rfl,VK _,B,cb.o,HZ.refl _ _ _⟩
        case round=>
         obtain⟨q,rfl,hq,T,S,R⟩:=hrel;by_cases cw:(q:Int)<l.length
         ·obtain⟨r,o,u,hA,hr,hu,bV⟩:=(bo.o.fr R.fr aH.o (fun g an e h0 hs=>hs.owned (cd.o g an e h0))).bQ (k:=q) (by omega);have hx:l[q]? = Bs l[q]:=K0 (by omega);rw[VT,hx] at hu;simp only[Wv,VN] at hu;subst hu hA;have cv:r<wr.heap.size:=VH hr (VO aH.o R.fr.size);have aW:=LH (q8q (H:=H6) hx);have a2:=q42 (l.take q) H6;have a3:=bn.o.bo (l.take q) aR;have bW:(woundd H6 (l.take q)).c=3:=a2.c.trans aR;have bS:(woundd H6 (l.take q)).m=H.m:=a2.m.trans y;clear a2 hx;generalize l[q]=oo at *;generalize woundd H6 (l.take q)=H8 at *;have a7:=LH (q4s S (by have:=a3.bC;omega) oo);have a5:=LH S;have ag:=LH R;have c4:=LH a3;clear S R a3;by_cases aQ:oo<1\/(H8.m:Int)<oo
          ·rw[q71 aQ] at a7;have I:H8.aL oo=H8:=by unfold Hs.aL;rw[if_neg (by rintro ⟨a,b,_⟩;omega)]
           have z:=LH (show Ed P B H6 l w7 (.int .i64 ((q+1:Nat):Int)) wr from⟨q+1,rfl,by omega,T,by rw[aW.o,I];exact a5.o,ag.o⟩);clear aQ I;go_wp2_with fail;refine a7.o.mono ?_;rintro e w9 ⟨rfl,rfl⟩;go_wp2_with fail;go_roundw
           ·exact z.o
           ·simp[intOf];omega
          ·obtain⟨j,rfl⟩:∃ j:Nat,oo=j:=⟨oo.toNat,by omega⟩
           have aP:1<=j:=by omega
           have aO:j<=H8.m:=by omega
           rw[q5a aP aO] at a7;unfold pw at a7;obtain⟨vj,b6⟩:=a5.o.tx j aP aO;obtain⟨_,j1,_,_,_,_,_,jl⟩:=b6.cells;clear aQ b6;by_cases sj:(H8.tx j).state=1
           ·have I:H8.aL j=H8.abort j:=by unfold Hs.aL;rw[if_pos ⟨by omega,by omega,sj⟩];rfl
            have aK:=LH (q3s a5.o c4.o bW aP aO);have c1:=LH I;rw[sj] at j1;unfold pw at aK;clear I sj;go_wp2_with fail;refine a7.o.mono ?_;rintro e w9 ⟨rfl,rfl⟩;go_wp2_with fail;refine aK.o.mono ?_;rintro e w9 ⟨rfl,b3,bg,bc⟩;have z:=LH (show Ed P B H6 l w7 (.int .i64 ((q+1:Nat):Int)) w9 from⟨q+1,rfl,by omega,b3,by rw[aW.o,c1.o];exact bg,ag.o.trans bc⟩);clear bg bc j1 jl bV;go_wp2_with fail;go_roundw
            ·exact z.o
            ·simp[intOf];omega
           ·have I:H8.aL j=H8:=by unfold Hs.aL;rw[if_neg (by rintro ⟨_,_,a⟩;exact sj a)]
            have z:=LH (show Ed P B H6 l w7 (.int .i64 ((q+1:Nat):Int)) wr from⟨q+1,rfl,by omega,T,by rw[aW.o,I];exact a5.o,ag.o⟩);have e1:((H8.tx j).state == 1)=Jx:=by simpa using sj
            clear I sj;go_wp2_with fail;refine a7.o.mono ?_;rintro e w9 ⟨rfl,rfl⟩;go_wp2_with fail;go_roundw
            ·exact z.o
            ·simp[intOf];omega
         ·obtain rfl:q=l.length:=by omega
          rw[WR] at S;have a2:=q42 l H6;have a3:=bn.o.bo l aR;have bS:(woundd H6 l).m=H.m:=a2.m.trans y;obtain⟨v8,ao⟩:=S.tx i h1 (by omega);have aD:=Ik R cc.o c6.o;have ae:=aD.1.cell 0;simp only[Ft,D0] at ae;have K:=qan ao (a3.tx i h1 (by omega)) k ae;obtain⟨_,_,_,_,_,_,n8,nl⟩:=ao.cells;obtain⟨cD,cz,aE,_,_⟩:=AK ao.af;rw[aE] at n8 K;have aw:=LH K;have a5:=LH S;have ag:=LH (bl.o.trans R);clear K aD ae ao aE a3 a2 S R;generalize woundd H6 l=H8 at *;go_wp2_with fail;refine aw.o.mono ?_;rintro e w9 ⟨rfl,au⟩;have aq:Ch P own H8 w w9:=⟨T,a5.o.below au,ag.o.trans (HZ.below T au)⟩
          have E:=bu.o;cases x:CM (H8.tx i).af k with
          | true=>
           rw[x,if_pos rfl] at E;have z:=LH (Gq.no (i:=i) (s:=s) E (by decide) aq);clear x au aq E n8;go_wp2_with fail;go_ret3;exact z.o.c6 a0.o
          | false=>
           rw[x,if_neg (by decide)] at E;have z:=LH (Gq.yes (i:=i) (s:=s) E aq);clear x au aq E n8;go_wp2_with fail;go_ret3;exact z.o.c6 a0.o
     ·have ch:Um H i s:=⟨ee,ap,he⟩
      have ck:=bt.o bq.o ch;have aK:=LH (q3s am.o aG.o hc h1 hi);rw[ap] at V;have d1:(ee != (H.sh s).ab)=T2:=by simpa using he
      unfold pw at aK;have bt:=LH ck;clear ap he ch ck;go_wp2_with fail;refine aK.o.mono ?_;rintro e w3 ⟨rfl,ce,aF,cq⟩;have z:=LH (Gq.no (i:=i) (s:=s) bt.o (by decide) ⟨ce,aF,b2.o.trans cq⟩);clear aF cq k1 k3 k8 gl m2 sl V;go_wp2_with fail;go_ret3;exact z.o.c6 a0.o
  ·have z:=LH (show LkP P own i k w (H.lock i k mode) (.returned (.tuple #[.pointer B0,.pointer B0,.iface 79 (.int .i64 6)])) w1 from by rw[q5l h1 hi s1];exact⟨rfl,own,aJ.o,bE.o⟩);have e1:((H.tx i).state != 1)=T2:=by simpa using s1
   clear s1;go_wp2_with fail;refine HF.o.mono ?_;rintro e w2 ⟨rfl,rfl⟩;go_wp2_with fail;go_ret3;exact z.o
end
end Go.Proofs.YtccahlhdifadfaaGreatDoor
