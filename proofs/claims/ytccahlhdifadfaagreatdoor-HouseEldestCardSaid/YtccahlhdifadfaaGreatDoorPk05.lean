import Derived.Test.YtccahlhdifadfaaGreatDoorPk04
import Derived.Below
import Derived.ChangeSame
import Derived.Test.YtccahlhdifadfaaGreatDoorRows
import Derived.WalkKit
import Derived.ProofKit
import Derived.OpenShut
import Derived.Carry
import Derived.Deep.Slices
import Derived.Deep.DeepHandedRow
import Derived.LaidMore
import Derived.LaidLaws
import Derived.LaidHandle
import Derived.MakeChecks
import Derived.Stop.Joined
namespace Go.Proofs.YtccahlhdifadfaaGreatDoor
open Go.RowKit
open _root_.Bool renaming false → Jx, true → VJ, and_eq_true → Wj, not_eq_true' → XE, or_eq_true → X8
open _root_.Classical renaming byContradiction → V5, not_not → XR
open _root_.Go renaming World → D0, Value → O0, TypeId → VV, DataW → YW, step → Y6, MemPlace → Zc
open _root_.Go.DataW renaming TrodAll → YA
open _root_.Go.IntWalk renaming i64_in → V4
open _root_.Go.RowKit renaming Below → VP
open _root_.Go.RowKit.Below renaming refl → VK
open _root_.Go.World renaming block_lt_of_cell? → Wa
open _root_.Int renaming le_refl → WD
open _root_.List renaming getElem?_eq_getElem → L1, mem_of_getElem? → S2, mem_cons_self → VH, mem_cons_of_mem → VI, flatMap_cons → VM, prefix_refl → VQ, length_append → VS, mem_append_left → VT, findIdx?_eq_some_iff_getElem → VU, mem_singleton → VW, eq_nil_of_length_eq_zero → Wd, length_map → We, getElem?_append_left → Wg, range' → Wh, getElem?_append_right → Wk, length_cons → Wl, getElem_mem → Wv, append_nil → WE, flatMap_append → WG, map_cons → WH, range → WS, mem_append_right → WZ, pairwise_map → W8, prefix_append → Xq, mem_range'_1 → Xz, filter_congr → XA, append_assoc → XB, mem_append → XG, map_nil → XN, map_congr_left → X9, flatMap_nil → Yc, nodup_append → Yj, Nodup → Yw, sublist_append_right → YO, sublist_append_left → YV, find?_eq_none → Y0, sublist_cons_self → Y7
open _root_.List.Nodup renaming length_le_of_subset → WI
open _root_.List.Sublist renaming refl → XC
open _root_.Nat renaming le_refl → K0, zero_le → VN, le_trans → VO, le_succ → WT, lt_succ_self → YK
open _root_.Option renaming some → Bs, none → B0
open _root_.Option.some renaming inj → WR
open _root_.Or renaming imp → YQ
variable {P1:Aq} {h u z:Bool} {e tx:Int} {T T':List AZ} {g pa pv:List Zc} {m:Ms} {i j k n o s:Nat} {c d:Nd} {x y:Sx} {α:Type} {tb:VV} {v:O0} {W w w1:D0}
set_option linter.all false
set_option maxRecDepth 100000
set_option maxHeartbeats 16000000
section
variable {H H':Hs} {G:Gh} {B:Int} {i:Nat}
def Gh.more (G:Gh) (i:Nat) (x:Sx) (v:Option Sx):Gh:=⟨G.E,fun t=>if t=i then G.rd t++[(x,v)] else G.rd t⟩
def G6 {v u:Option Sx} {t:Nat} : (y,u)∈(G.more i x v).rd t↔(y,u)∈G.rd t\/(t=i/\y=x/\u=v):=by
 show(y,u)∈(if t=i then G.rd t++[(x,v)] else G.rd t)↔_;by_cases e:t=i
 ·rw[if_pos e,XG,VW,Prod.mk.injEq];simp[e]
 ·rw[if_neg e];simp[e]
def Jk {v:Option Sx} {t:Nat} : Cj H (G.more i x v) t y↔Cj H G t y\/(t=i/\y=x):=by
 unfold Cj Rdx;simp only[G6];constructor
 ·rintro (h|⟨u,h|⟨e,c,_⟩⟩)
  ·exact .inl (.inl h)
  ·exact .inl (.inr ⟨u,h⟩)
  ·exact .inr ⟨e,c⟩
 ·rintro ((h|⟨u,h⟩)|⟨e,c⟩)
  ·exact .inl h
  ·exact .inr ⟨u,.inl h⟩
  ·exact .inr ⟨v,.inr ⟨e,c,rfl⟩⟩
def SI.read (h:SI H G (fun _ _=>False)) (a:Ad H B) (O:Ir H i) (hs:(H.tx i).state=1) {x:Sx} {j:Nat} (K:(H.tx i).ae (Aa x)=Bs (H.sh (Aa x)).aa) (J:H.head (Aa x)=Bs j)
  (E:Hd (H.sh (Aa x)).tab x i 1):SI H (G.more i x (Bc H G.E x)) (fun _ _=>False):=by
 have N:=E4 x;refine⟨h.gt,h.t2,h.dn,h.pw,h.wl,h.cv,fun t d=>⟨fun y f=>?_,(h.wc t d).2⟩,h.se,fun t k d z c D y f=>⟨(h.ho t k d z c D y f).1,fun I=>?_⟩,h.tp,h.tu,h.st,h.en,fun t w y d C u c L f q=>?_,h.tm,fun t d y v A=>?_,h.wt,h.ww,h.wn⟩
 ·rcases Jk.1 f with g|⟨e,n⟩
  ·exact(h.wc t d).1 y g
  ·subst e n;exact Dy.2 ⟨by omega,by rw[K];simp⟩
 ·obtain⟨v,A⟩:=I;rcases G6.1 A with g|⟨e,n,_⟩
  ·exact(h.ho t k d z c D y f).2 ⟨v,g⟩
  ·subst e n f;exact E
 ·rcases Jk.1 f with g|⟨e,n⟩
  ·exact h.dm t w y d C u c L g q
  ·subst e n;exact h.touch a J E C u c q
 ·rcases G6.1 A with g|⟨e,n,M⟩
  ·exact h.ri t d y v g
  ·subst e n M;exact⟨fun _=>rfl,fun g=>by omega⟩
def qbi {l l':List Pr} {p:Pr} (h:Ci l p=Bs l'):(l'.map (·.key)=l.map (·.key)/\p.key∈l.map (·.key))\/(l'.map (·.key)=l.map (·.key)++[p.key]/\p.key ∉ l.map (·.key)):=by
 unfold Ci at h;split at h
 ·rename_i k c;injection h with h;subst h;rw[VU] at c;obtain⟨f,d,_⟩:=c;have d:l[k].key=p.key:=(Mf _ _).1 d;refine .inl ⟨?_,by rw[<- d];exact List.mem_map_of_mem (Wv f)⟩;rw[List.map_set,<- d];apply List.ext_getElem?;intro q;rw[List.getElem?_set];split
  ·rename_i e;subst e;rw[List.getElem?_map,L1 f];simp[f]
  ·rfl
 ·rename_i c;split at h
  ·cases h
  ·injection h with h;subst h;refine .inr ⟨by simp,fun e=>?_⟩;rw[List.findIdx?_eq_none_iff] at c;obtain⟨q,g,e⟩:=List.mem_map.1 e;have:=c q g;rw[Bool.eq_false_iff] at this;exact this ((Mf _ _).2 e)
def QX {l l':List Pr} {p:Pr} (h:Ci l p=Bs l') : (∃ q∈l',sx q.key=y)↔(∃ q∈l,sx q.key=y)\/y=sx p.key:=by
 have e:∀ (m:List Pr),(∃ q∈m,sx q.key=y)↔∃ k∈m.map (·.key),sx k=y:=fun m=>by
  constructor
  ·rintro ⟨q,d,e⟩;exact⟨q.key,List.mem_map_of_mem d,e⟩
  ·rintro ⟨k,c,e⟩;obtain⟨q,d,rfl⟩:=List.mem_map.1 c;exact⟨q,d,e⟩
 rw[e,e];rcases qbi h with ⟨f,n⟩|⟨f,n⟩
 ·rw[f];exact⟨.inl,fun g=>g.elim id (fun g=>⟨p.key,n,g.symm⟩)⟩
 ·rw[f];constructor
  ·rintro ⟨k,c,e⟩;rcases List.mem_append.1 c with g|g
   ·exact .inl ⟨k,g,e⟩
   ·rw[List.mem_singleton.1 g] at e;exact .inr e.symm
  ·rintro (⟨k,c,e⟩|e)
   ·exact⟨k,VT _ c,e⟩
   ·exact⟨p.key,by simp,e.symm⟩
def I2 {l l':List Pr} {p:Pr} (h:Ci l p=Bs l') (d:(l.map (·.key)).Nodup):(l'.map (·.key)).Nodup:=by
 rcases qbi h with ⟨c,f⟩|⟨c,f⟩
 ·rw[c];exact d
 ·rw[c,Yj];exact⟨d,by simp,fun a n b g e=>by rw[List.mem_singleton.1 g] at e;exact f (e▸n)⟩
def Hs.c8 (H:Hs) (i:Nat) (l:List Pr):Hs:=H.au i { H.tx i with ad:=l }
def MD (H:Hs) (l:List Pr) (h:j≠i):(H.c8 i l).tx j=H.tx j:=As h _
def qbw (H:Hs) (i:Nat) (l:List Pr):(H.c8 i l).tx i = { H.tx i with ad:=l }:=An _ _ _
def PL (H:Hs) (i:Nat) (l:List Pr) (j:Nat):((H.c8 i l).tx j).state=(H.tx j).state/\((H.c8 i l).tx j).ae=(H.tx j).ae/\((H.c8 i l).tx j).ag=(H.tx j).ag/\((H.c8 i l).tx j).aj=(H.tx j).aj:=by
 by_cases e:j=i
 ·subst e;rw[qbw];exact⟨rfl,rfl,rfl,rfl⟩
 ·rw[MD H l e];exact⟨rfl,rfl,rfl,rfl⟩
def SI.write (h:SI H G (fun _ _=>False)) (a:Ad H B) (hi:Ir H i) (hs:(H.tx i).state=1) {p:Pr} {l:List Pr} {j:Nat} (hl:Ci (H.tx i).ad p=Bs l) (hc:(H.tx i).ae (Aa (sx p.key))=Bs (H.sh (Aa (sx p.key))).aa)
  (hh:H.head (Aa (sx p.key))=Bs j) (U:Hd (H.sh (Aa (sx p.key))).tab (sx p.key) i 2):SI (H.c8 i l) G (fun _ _=>False):=by
 have hk:=E4 (sx p.key);have f:=PL H i l;have S:=fun j=>MD H (i:=i) (j:=j) l
 have I:∀ j,((H.c8 i l).tx j).af=(H.tx j).af:=fun j=>Dp (f j).2.1
 have z:∀ j y,Wr (H.c8 i l) j y->Wr H j y\/(j=i/\y=sx p.key):=fun j y g=>by
  by_cases e:j=i
  ·subst e;unfold Wr at g;rw[qbw] at g;rcases(QX hl).1 g with g|g
   ·exact .inl g
   ·exact .inr ⟨rfl,g⟩
  ·exact .inl ((Wr.congr (by rw[S j e])).1 g)
 have M:∀ j y,Cj (H.c8 i l) G j y->Cj H G j y\/(j=i/\y=sx p.key):=fun j y g=>by
  rcases g with g|g
  ·rcases z j y g with g|g
   ·exact .inl (.inl g)
   ·exact .inr g
  ·exact .inl (.inr g)
 have O:∀ j,BK H j->BK (H.c8 i l) j:=fun j U=>U.mono (f j).2.2.1 (f j).2.1 (fun _ _=>rfl) (fun k j _ hj e=>⟨j,hj,e⟩)
 have L:(H.tx i).ag=0:=V5 fun e=>by rcases(h.tp i hi e).1 with e|e <;> omega
 have Q:∀ A y,Bc (H.c8 i l) A y=Bc H A y:=fun A y=>QT (fun j _=>by
  by_cases e:j=i
  ·subst e;unfold Ik;rw[(f j).1,if_neg (by omega),if_neg (by omega)]
  ·exact Tx (f j).1 (by rw[S j e]))
 refine⟨h.gt,h.t2,h.dn,fun k q hk hq c a0 h2=>?_,h.wl,h.cv,fun t n=>⟨fun y E=>?_,?_⟩,fun t n k x e D=>?_,fun t k n x d D y E=>⟨fun hr=>?_,fun hr=>?_⟩,fun t n K=>?_,fun t u n hu=>?_,fun t n=>?_,⟨h.en.1,fun t n=>?_,fun t n d=>?_⟩,
  fun t w y n hw N d V E Y=>?_,fun v w y V h1 h2=>?_,fun t n y v hv=>?_,fun k x y o m Z=>?_,fun t k n x d D y m E=>?_,fun t n y m hm=>?_⟩
 ·obtain⟨q1,X,q3⟩:=h.pw k q hk hq c a0 h2;have e:c.tx.toNat≠i:=fun e=>q1 (by rw[e];exact hs)
  rw[S _ e];exact⟨q1,X,q3⟩
 ·rw[I];rcases M t y E with g|⟨e,R⟩
  ·exact(h.wc t n).1 y g
  ·subst e R;exact Dy.2 ⟨by omega,by rw[hc];simp⟩
 ·by_cases e:t=i
  ·subst e;rw[qbw];exact I2 hl (h.wc t n).2
  ·rw[S t e];exact(h.wc t n).2
 ·rw[I] at x;rw[(f t).2.1] at D;exact h.se t n k x e D
 ·rw[(f t).1] at d;rw[(f t).2.1] at D;rcases z t y hr with g|⟨e,R⟩
  ·exact(h.ho t k n x d D y E).1 g
  ·subst e R E;exact U
 ·rw[(f t).1] at d;rw[(f t).2.1] at D;exact(h.ho t k n x d D y E).2 hr
 ·rw[(f t).2.2.1] at K;rw[(f t).1,I];exact h.tp t n K
 ·rw[(f t).2.2.1,(f u).2.2.1];exact h.tu t u n hu
 ·rw[(f t).1];exact h.st t n
 ·rw[(f t).1];exact h.en.2.1 t n
 ·rw[(f t).1] at d;exact h.en.2.2 t n d
 ·rw[(f w).1] at d;rw[(f t).1] at V;have J:Wr H w y:=by
   rcases z w y Y with g|⟨e,_⟩
   ·exact g
   ·subst e;omega
  rcases M t y E with g|⟨e,R⟩
  ·exact O w (h.dm t w y n hw N d V g J)
  ·subst e R;exact O w (h.touch a hh (U.mono (by decide)) hw N d J)
 ·rw[(f v).2.2.1,(f w).2.2.1];intro t1 t2;have g1:Wr H v y:=by
   rcases z v y h1 with g|⟨e,_⟩
   ·exact g
   ·subst e;exact absurd L t1
  have g2:Wr H w y:=by
   rcases z w y h2 with g|⟨e,_⟩
   ·exact g
   ·subst e;exact absurd L t2
  exact h.tm v w y V g1 g2 t1 t2
 ·rw[(f t).1,Q];obtain⟨q1,X⟩:=h.ri t n y v hv;exact⟨q1,fun g A C hE=>by rw[Q];exact X g A C hE⟩
 ·rw[(f _).1,(f _).2.1];exact h.wt k x y o m Z
 ·rw[(f t).1] at d;rw[(f t).2.1] at D;rw[(f t).2.2.2];exact h.ww t k n x d D y m E
 ·rw[I];rw[(f t).2.2.2] at hm;exact h.wn t n y m hm
def OP.write (h:OP H) (i:Nat) (l:List Pr):OP (H.c8 i l):=fun j e hs k d=>by
 have c:=PL H i l j;rw[c.1] at hs;rw[Dp c.2.1] at d;rw[c.2.1];exact h j e hs k d
def M9 (a:Ad H B) {q:Nat} (g:k<3) (hl:Lv H k j) (d:((H.sh k).nd j).head=VJ) (e:Lv H k q):j<=q:=by
 have c:k<H.c:=by rw[a.c];exact g
 obtain⟨L,p,at_⟩:=a.ch.at_ c hl;rw[at_.head] at d;have f:p=0:=by simpa using d
 subst f;exact at_.first e
def M8 (a:Ad H B) (d:k<3) (hl:Lv H k j) (f:((H.sh k).nd j).head=VJ):H.head k=Bs j:=by
 cases e:H.head k with
 | none=>
  exfalso;unfold Hs.head Bm.cy at e;rw[Y0] at e;exact e j (ET.2 hl) f
 | some g=>
  obtain⟨c,h⟩:=Cu e;have q:=M9 a d hl f c;have n:=M9 a d c h hl;rw[show g=j by omega]
structure FailF (H H':Hs):Prop where
 m:H'.m=H.m
 n:H'.n=H.n
 tx:H'.tx=H.tx
 sh:∀ k,(H'.sh k).nd=(H.sh k).nd/\(H'.sh k).tab=(H.sh k).tab/\(H'.sh k).sto=(H.sh k).sto/\(H'.sh k).done=(H.sh k).done/\(H'.sh k).aa=(H.sh k).aa
 ao:∀ k d,(H'.sh k).ao d=Jx->(H.sh k).ao d=Jx
def Eu (H:Hs) (id:Int):FailF H (H.fail id):=by
 cases f:H.node id with
 | none=>rw[q4l f];exact⟨rfl,rfl,rfl,fun _=>⟨rfl,rfl,rfl,rfl,rfl⟩,fun _ _ h=>h⟩
 | some q=>
  obtain⟨s,j⟩:=q;rw[q4k f];have e:∀ k,((H.aK s id).sh k=H.sh k)\/(H.aK s id).sh k = { H.sh k with ao:=fun i=>decide (i=id) || (H.sh k).ao i }:=fun k=>by
   by_cases g:k=s
   ·subst g;exact .inr (An _ _ _)
   ·exact .inl (As g _)
  refine⟨rfl,rfl,rfl,fun k=>?_,fun k d c=>?_⟩
  ·show((H.aK s id).sh k).nd=_/\((H.aK s id).sh k).tab=_/\((H.aK s id).sh k).sto=_/\((H.aK s id).sh k).done=_/\((H.aK s id).sh k).aa=_;rcases e k with e|e <;> rw[e] <;> exact⟨rfl,rfl,rfl,rfl,rfl⟩
  ·have c:((H.aK s id).sh k).ao d=Jx:=c;rcases e k with e|e
   ·rw[e] at c;exact c
   ·rw[e] at c;exact(Bool.or_eq_false_iff.1 c).2
def SI.fail (h:SI H G (fun _ _=>False)) (a:Ad H B) (id:Int):SI (H.fail id) G (fun _ _=>False):=by
 have f:=Eu H id;have d:∀ k j,lg (H.fail id) k j=lg H k j:=fun k j=>by unfold lg;rw[(f.sh k).1]
 have c:∀ k j,Lv (H.fail id) k j->Lv H k j:=fun k j ⟨g,e⟩=>by
  rw[(f.sh k).1] at e;exact⟨by rw[f.n] at g;exact g,f.ao k _ e⟩
 refine h.same ⟨f.m,fun k j _ hl=>c k j hl,fun k j n q=>?_,fun k j _ _=>by rw[d];exact VQ _,fun k j _ hl=>⟨j,c k j hl,by rw[d];exact VQ _⟩,fun k j _ _=>d k j,fun k _=>(f.sh k).2,fun i=>by rw[f.tx];exact⟨rfl,rfl,rfl,rfl,rfl⟩⟩;obtain⟨g,e⟩:=Cu q;rw[(f.sh k).1] at e;exact M8 a n (c k j g) e
def OP.fail (h:OP H) (id:Int):OP (H.fail id):=fun j d hs k c=>by
 have f:=Eu H id;rw[f.tx] at hs c ⊢;rw[(f.sh k).2.2.2.2];exact h j ⟨d.1,by have:=d.2;rw[f.m] at this;exact this⟩ hs k c
def SI.cH (h:SI H G (fun _ _=>False)) (a:Ad H B) (n:B<=999000) (d:H.m<=40) (r:E8 H H'):SI H' G (fun _ _=>False)/\OP H':=by
 obtain⟨v,u1⟩:=a.b4 n;have s1:=h.b4 a n;have g:([0,1,2].foldl Hs.a9 H).m<=40:=by rw[u1.m];exact d
 have f:Ag ([0,1,2].foldl Hs.a9 H) ([0,1,2].foldl Hs.a9 H).aY:=q4r _ (fun i u=>by
  rw[Xz] at u;omega)
 obtain⟨s2,e⟩:=SI.star f s1 v g;have q:([0,1,2].foldl Hs.a9 H).aY.m<=40:=by rw[f.sm.m];exact g
 have c:=q2m r e.wf e.c;exact⟨(SI.star c s2 e q).1,OP.star c (OP.aY _)⟩
structure AD (H:Hs) (G:Gh) (B:Int):Prop where
 a:Ad H B
 s:SI H G (fun _ _=>False)
 o:OP H
def AD.mono {B':Int} (h:AD H G B) (c:B<=B'):AD H G B':=⟨h.a.mono c,h.s,h.o⟩
def AD.star (h:AD H G B) (s:Ag H H') (c:H.m<=40):AD H' G B:=⟨(Ad.star s h.a).1,(SI.star s h.s h.a c).1,OP.star s h.o⟩
def AD.act (h:AD H G B) (c:B<=999000) (r:EP H H'):Ad H' (B+3):=(h.a.act c r (D:=fun _=>True) (fun _ _ _ _=>trivial)).1
def AD.net (h:AD H G B) (c:B<=999000) {l:List Ms} (hl:∀ m∈l,m∈H.net.l):AD { H with net:=⟨l,H.net.ao⟩ } G (B+3):=⟨h.act c (.net hl),h.s.net _,h.o.net _⟩
def AD.begin (h:AD H G B) (d:B<=999000) (e:H.m<60) (c:G.rd (H.m+1)=[]):AD H.begin G (B+3):=⟨h.act d (.begin e),h.s.begin h.a c,h.o.begin⟩
def AD.fail (h:AD H G B) (c:B<=999000) (id:Int):AD (H.fail id) G (B+3):=⟨h.act c (.fail id),h.s.fail h.a id,h.o.fail id⟩
def AD.cH (h:AD H G B) (d:B<=999000) (c:H.m<=40) (r:E8 H H'):AD H' G (B+3):=⟨h.act d (.fix r),(h.s.cH h.a d c r).1,(h.s.cH h.a d c r).2⟩
def AD.ends (h:AD H G B) (n:B<=999000) (g:H.m<=40) (c:Ir H i) (hs:(H.tx i).state=1) (f:(H.tx i).aj=[]) (r:DL (H.ending i) H'):AD H' ⟨G.E++[i],G.rd⟩ (B+3):=by
 have d:Wf (H.ending i):=h.a.wf.ending c.1 c.2;have e:=q2m r d h.a.c;have q:=h.act n (.ends c.1 c.2 hs f (.refl _));have s1:=h.s.ending h.o c hs f;exact⟨h.act n (.ends c.1 c.2 hs f e),(SI.star e s1 q g).1,OP.star e (h.o.ending i)⟩
def Ll (c:List Pr) (x:Sx):Option Pr:=c.reverse.find? (fun p=>sx p.key == x)
inductive UC (H:Hs) (G:Gh) (B:Int) (id:Int) (x:Sx):(Int×Sx×Bool)×Hs->Prop where
 | bad {c:Int} {H':Hs} (hc:c≠0) (h:AD H' G B) (s:Ag H H'):UC H G B id x ((c,[],Jx),H')
 | own {i:Nat} {p:Pr} {H':Hs} (hid:id=i) (hi:Ir H i) (hs:(H'.tx i).state=1) (hw:(H'.tx i).ad=(H.tx i).ad) (ho:Ll (H.tx i).ad x=Bs p) (h:AD H' G B) (s:Ag H H'):UC H G B id x ((0,sx p.val,!p.gone),H')
 | read {i:Nat} {v:Option Sx} {H':Hs} (hid:id=i) (hi:Ir H i) (hs:(H'.tx i).state=1) (hw:(H'.tx i).ad=(H.tx i).ad) (ho:Ll (H.tx i).ad x=B0) (h:AD H' (G.more i x v) B) (s:Ag H H'):UC H G B id x ((0,fnd v),H')
def AD.get (h:AD H G B) (g:H.m<=40) (id:Int) {x:Sx} (y:x∈names):UC H G B id x (H.get id x):=by
 have d:=QO (id:=id) (mode:=1) h.a.wf h.a.c y (by unfold Br;omega);have c:=h.star d g;have A:=d.sm.m;unfold Hs.get;simp only;by_cases q:(H.lock id x 1).1=0
 ·rw[if_neg (by simpa using q)];obtain⟨i,rfl,n,hs,D,C,z,u⟩:=(h.s.cO h.a g y (by unfold Br;omega) q).ix;rw[show((i:Int)).toNat=i by omega];have f:Ir (H.lock i x 1).2 i:=⟨n.1,by rw[A];exact n.2⟩
  have v:Ll ((H.lock i x 1).2.tx i).ad x=Ll (H.tx i).ad x:=by rw[u]
  unfold Ll at v;cases e:((H.lock i x 1).2.tx i).ad.reverse.find? (fun p=>sx p.key == x) with
  | some p=>exact .own rfl n hs u (by unfold Ll;rw[<- v];exact e) c d
  | none=>
   cases w:(H.lock i x 1).2.head (Aa x) with
   | none=>exact absurd w C
   | some j=>
    simp only;rw[c.s.sv c.a f hs w z];exact .read rfl n hs u (by unfold Ll;rw[<- v];exact e) ⟨c.a,c.s.read c.a f hs D w z,c.o⟩ d
 ·rw[if_pos (by simpa using q)];exact .bad q c d
inductive PutO (H:Hs) (G:Gh) (B:Int) (id:Int) (p:Pr):Int×Hs->Prop where
 | bad {c:Int} {H':Hs} (hc:c≠0) (h:AD H' G B) (s:Ag H H'):PutO H G B id p (c,H')
 | ok {i:Nat} {l:List Pr} {H':Hs} (hid:id=i) (hi:Ir H i) (hs:(H'.tx i).state=1) (hw:(H'.tx i).ad=(H.tx i).ad) (hl:Ci (H.tx i).ad ⟨p.key,if p.gone then⟨#[]⟩ else p.val,p.gone⟩=Bs l) (h:AD (H'.c8 i l) G (B+3)) (s:Ag H H'):PutO H G B id p (0,H'.c8 i l)
def AD.put (h:AD H G B) (E:B<=999000) (g:H.m<=40) (id:Int) {p:Pr} (u:sx p.key∈names):PutO H G B id p (H.put id p):=by
 have d:=QO (id:=id) (mode:=2) h.a.wf h.a.c u (by unfold Br;omega);have n:=h.star d g;have z:=d.sm.m;have c:=h.act E (TE h.a.wf h.a.c id u);unfold Hs.put at c ⊢;by_cases f:40<p.val.size
 ·rw[if_pos f];exact .bad (by decide) h (.refl _)
 ·rw[if_neg f] at c ⊢;simp only at c ⊢;by_cases q:(H.lock id (sx p.key) 2).1=0
  ·rw[if_neg (by simpa using q)] at c ⊢;obtain⟨i,rfl,w,hs,D,A,C,x⟩:=(h.s.cO h.a g u (by unfold Br;omega) q).ix;rw[show((i:Int)).toNat=i by omega] at c ⊢;have v:Ir (H.lock i (sx p.key) 2).2 i:=⟨w.1,by rw[z];exact w.2⟩
   cases e:Ci ((H.lock i (sx p.key) 2).2.tx i).ad ⟨p.key,if p.gone then⟨#[]⟩ else p.val,p.gone⟩ with
   | none=>exact .bad (by decide) n d
   | some l=>
    rw[e] at c;cases y:(H.lock i (sx p.key) 2).2.head (Aa (sx p.key)) with
    | none=>exact absurd y A
    | some j=>
     exact .ok rfl w hs x (by rw[<- x];exact e) ⟨c,n.s.write n.a v hs e D y C,n.o.write i l⟩ d
  ·rw[if_pos (by simpa using q)];exact .bad q n d
end
def bs (x:Sx):ByteArray:=⟨x.toArray⟩
def Qo (x:Sx):sx (bs x)=x:=Dh x
section
variable {H H':Hs} {G:Gh} {B:Int} {i:Nat}
def q6x (H:Hs) (i a:Nat) (t:Bl) (h:t.ad=(H.tx i).ad):((H.au i t).tx a).ad=(H.tx a).ad:=by
 show(Af H.tx i t a).ad=_;by_cases e:a=i
 ·subst e;rw[An,h]
 ·rw[As e]
def Tf (H:Hs) (s a:Nat):((H.take s).tx a).ad=(H.tx a).ad:=((Bz.take H s).tx a).2.1
def Bp.wr (s:Bp H H') (a:Nat):(H'.tx a).ad=(H.tx a).ad:=by
 cases s with
 | @abort i=>exact((If H i).2.2 a).2.1
 | @tell i k kind=>exact((DF H i kind k).2.2.2.2 a).2.1
 | prep=>exact((C0 _ _ _ _ _).2.2.2.2 a).2.1
 | @place i k at_=>exact q6x H i a _ rfl
 | @timed i=>
  unfold Hs.timed;split
  ·exact q6x _ i a _ rfl
  ·rfl
 | decide=>exact((C0 _ _ _ _ _).2.2.2.2 a).2.1
 | @commit i=>exact q6x H i a _ rfl
 | @came i k=>exact q6x H i a _ rfl
 | got=>rfl
 | @wait i x mode=>exact q6x _ i a _ rfl
 | tick=>rfl
 | @arrive k m d=>
  cases c:Hs.node { H with net:=takeS H.net k } m.a4 with
  | none=>rw[Ig c]
  | some q=>
   obtain⟨s,j⟩:=q;rw[Ih c,Tf];rfl
def Ag.wr (s:Ag H H') (a:Nat):(H'.tx a).ad=(H.tx a).ad:=by
 induction s with
 | refl=>rfl
 | step h _ c=>exact c.trans (h.wr a)
end
def Emp (x:Bm):Prop:=x.tab=(fun _=>B0)/\x.sto=(fun _=>[])/\x.done=0
def Uf {H:Hs} (c:∀ j,lg (H.fix s) s j=[]) (f:Emp (H.sh s)):Emp ((H.fix s).sh s):=by
 by_cases hl:(H.sh s).ah H.n=[]
 ·unfold Hs.fix;rw[if_pos hl];exact f
 ·rw[q8s hl] at c ⊢;unfold Hs.bh at c ⊢;simp only at c ⊢;generalize List.foldl (Hs.a5 s ((H.sh s).ids H.n)) (H.ar s { H.sh s with aa:=wrap64 ((H.sh s).aa+1),size:=((H.sh s).ah H.n).length }) ((H.sh s).ah H.n)=H2 at *;generalize hM:H2.ar s { H2.sh s with tab:=fun _=>B0,sto:=fun _=>[],done:=0 } = M at *;have d:Emp (M.sh s):=by rw[<- hM,Cl];exact⟨rfl,rfl,rfl⟩
  have e:M.take s=M:=GH (fun j _=>by
   have g:lg M s j=[]:=by
    have:=c j;unfold lg at this ⊢;rw[(Bz.take M s).nd] at this;exact this
   rw[g,d.2.2];rfl)
  rw[e];exact d
def q9w {n:Nat} (f:n<=4):∀ q,q<=3->∀ s,Emp ((AG n q).sh s)
 | 0,_=>fun _=>⟨rfl,rfl,rfl⟩
 | q+1,x=>fun s=>by
  have w:=q9w f q (by omega);obtain⟨u,z⟩:=UZ f q (by omega);obtain⟨y,_⟩:=UZ f (q+1) x;have h:=u.c;have c:=u.new q (K0 _);have d:=y.lg;have e:AG n (q+1)=(AG n q).cc.fix q:=by
   show(AG n q).cc.fix (AG n q).c=_;rw[h]
  rw[e] at d ⊢;have v:=(u.ch.cc (by rw[h];exact c) (fun s j _ _=>z _)).fix;rw[h] at v;by_cases g:s=q
  ·subst g;exact Uf (d s) (w s)
  ·rw[v.sh s g];exact w s
def AD.new (g:n<=4):AD (BD n) ⟨[],fun _=>[]⟩ 1:=by
 obtain⟨z,D,_⟩:=q86 g;have f:=q9w g 3 (K0 _);have e:=(UZ g 3 (K0 _)).1.lg;rw[<- Et] at f e;have d:∀ i,¬Ir (BD n) i:=fun i h=>by have:=h.1;have:=h.2;omega
 refine⟨z,⟨fun k _=>by rw[(f k).1];exact GT.none_,fun x=>by rw[(f 2).1],fun k j _ _=>by rw[(f k).2.2,e];rfl,fun k j _ _ c u=>(by rw[e] at u;cases u),fun k j _ _=>by rw[e];exact⟨fun q c h=>by simp at h,fun q c h=>by simp at h⟩,
  fun k j _ _=>by rw[e,(f k).1,(f k).2.1];exact⟨fun w y=>(nomatch y),EM.nil⟩,fun i h=>absurd h (d i),fun i h=>absurd h (d i),fun i k h=>absurd h (d i),fun i h=>absurd h (d i),fun i j h=>absurd h (d i),fun i h=>absurd h (d i),
  ⟨List.nodup_nil,fun i h=>(nomatch h),fun i h=>absurd h (d i)⟩,fun t w x h=>absurd h (d t),fun v w x h=>?_,fun t h=>absurd h (d t),fun k _ x o m h=>?_,fun i k h=>absurd h (d i),fun i h=>absurd h (d i)⟩,fun i h=>absurd h (d i)⟩
 ·obtain⟨A,C,h,_⟩:=h;simp at h
 ·rw[(f k).1] at h;cases h
def q5r (x:ActX):List O0:=[.int .i64 x.aD,.int .i64 x.tx,.int .i64 x.a,.string x.val]
def RM:∀ (l:List ActX) (j:Nat) (x:ActX),l[j]? = Bs x->∀ i,i<4->(l.flatMap q5r)[j*4+i]? = (q5r x)[i]?
 | [],j,p,h,i,c=>by simp at h
 | q::l,0,p,h,i,c=>by
  simp at h;subst h;rw[VM,Wg (by show _<4;omega)];simp
 | q::l,j+1,p,h,i,c=>by
  have f:l[j]? = Bs p:=by simpa using h
  have e:(j+1)*4+i=(j*4+i)+4:=by omega
  have d:(q5r q).length=4:=rfl;rw[e,VM,Wk (by rw[d];omega),d,Nat.add_sub_cancel];exact RM l j p f i c
def Rd.d7 {B:Nat} {A:Option Addr} {l:List ActX} (h:Rd w B 4 A n (l.flatMap q5r)) (hl:l.length=n) (v:j<n):∃ g c x,A=Bs ⟨g,c,B0⟩/\g<B/\l[j]? = Bs x/\
  w.cell? ⟨g,c+j*4,B0⟩=Bs (.int .i64 x.aD)/\w.cell? ⟨g,c+j*4+1,B0⟩=Bs (.int .i64 x.tx)/\w.cell? ⟨g,c+j*4+2,B0⟩=Bs (.int .i64 x.a)/\w.cell? ⟨g,c+j*4+3,B0⟩=Bs (.string x.val):=by
 obtain⟨g,c,e,u,f⟩:=h.2 (by omega);have q:l[j]? = Bs l[j]:=L1 (by omega);have d:=RM l j _ q;exact⟨g,c,l[j],e,u,q,f (j*4) _ (d 0 (by omega)),f (j*4+1) _ (d 1 (by omega)),f (j*4+2) _ (d 2 (by omega)),f (j*4+3) _ (d 3 (by omega))⟩
def CV.begin {own:Ah} {P:Aq} {H:Hs} {r:Nat} {safe:Bool} (K:Eg w w1 own P H) (q:VF w r o k) (nodes:Int) (d:VP w1.heap.size w1 W) (c:Ae W w1.heap.size 37 #[pw P.g,.slice B0 0 0,.int .i64 0,.bool safe,.int .i64 nodes]) :
  CV W own P (fun b=>b=w1.heap.size) w1.heap.size r o k H [] 0 safe nodes n:=by
 have u:=K.below d;have A:=q.lt0;have z:=q.lt;have v:=K.bl.size;refine⟨u.hi,u.ns,⟨.slice B0 0 0,[],⟨c,World.ownsRow_nil _ _ _ _,fun x g=>(nomatch g),fun i j x y h=>by simp at h⟩,rfl,fun b d=>?_⟩,q.fr (DG u.bl) (fun h=>by omega) (fun h=>by omega),?_,?_,?_,?_⟩
 ·rcases d with rfl|d|⟨x,g,_⟩
  ·rfl
  ·simp[Value.ownBlock] at d
  ·cases g
 ·cases e:own 0 with
  | none=>rfl
  | some t=>have:=K.lo 0 (by rw[e];simp);omega
 ·cases e:own r with
  | none=>rfl
  | some t=>have:=K.lo r (by rw[e];simp);omega
 ·rintro b rfl;exact⟨K.hi.free (K0 _),by omega,by omega⟩
 ·rintro b rfl;exact c.lt
def Ph {d:List (Int×Int)} {mode:Int} (h:US d tx mode=Jx) {w:Int×Int} (e:w∈d) (c:w.1<tx):w.2≠2/\mode≠2:=by
 unfold US at h;rw[List.any_eq_false] at h;have:=h w e;unfold AI at this;simp only[Wj,decide_eq_true_eq,X8,not_and,not_or] at this;exact this c
def Ng {h:Int->Option Int} {mode:Int} {n:List (Int×Int)} (r:Dt h) (d:Br mode) (g:Cc h tx mode n) {w:Int×Int} (q:w∈n) {p m:Int} (c:Au h tx mode p=Bs m) (f:w.1<p) (x:m=2\/w.2=2):h p=Bs m:=by
 by_cases e:p=tx
 ·subst e;rcases g with g|⟨_,u⟩
  ·rw[q80 d g] at c;exact c
  ·have y:=Ph u q f;by_cases v:mode<=AA h p
   ·rw[q80 d v] at c;exact c
   ·rw[q3z] at c;injection c with c;have:=r.hold p;unfold Br at d;omega
 ·rw[SN e] at c;exact c
def q7s:∀ (ws left:List (Int×Int)) (h:Int->Option Int),Dt h->(∀ w∈left++ws,Br w.2)->(left++ws).Pairwise (·.1 < ·.1)->Du h left->
  ∀ w∈(Do h left ws).2.1,∀ p m,(Do h left ws).1 p=Bs m->w.1<p->(m=2\/w.2=2)->h p=Bs m
 | [],left,h,r,C,hs,K=>fun w d p m c _ _=>by rw[q32] at c;exact c
 | v::ws,left,h,r,C,hs,K=>fun w d p m c n J=>by
  have f:=C v (by simp);have y:(left++ws).Pairwise (·.1 < ·.1):=hs.sublist (by simp);have I:∀ u∈left++ws,u.1≠v.1:=fun u q=>Fw hs q
  unfold Do at d c;by_cases e:Ai h v.1 v.2 left=VJ
  ·rw[if_pos e] at d c;have D:=QR.1 e;have L:=r.cG f D;have z:∀ u∈left++ws,Br u.2:=fun u q=>C u (by simp at *;rcases q with h|h;exact .inl h;exact .inr (.inr h))
   have A:=K.cG r f (fun u q=>I u (by simp[q]));have E:=q7s ws left (Au h v.1 v.2) L z y A w d p m c n J;have x:=(q71 ws left (Au h v.1 v.2) L z y A).di w d;by_cases M:p=v.1
   ·rcases List.mem_append.1 x with g|g
    ·exact Ng r f D g E n J
    ·have:=(List.pairwise_cons.1 (List.pairwise_append.1 hs).2.1).1 w g;omega
   ·rw[SN M] at E;exact E
  ·rw[if_neg e] at d c;exact q7s ws (left++[v]) h r (by simpa using C) (by simpa using hs) (K.snoc (fun D=>e (QR.2 D))) w d p m c n J
def QE {T:Tb} (g:GT T) {o m p:Int} (c:Wt (Bj T tx) x o m) (f:(Ac (Bj T tx) x).h p=Bs e) (h:o<p) (q:e=2\/m=2):Wt T x o m/\(Ac T x).h p=Bs e/\p≠tx:=by
 obtain⟨_,u⟩:=qbh g c;have d:=(qce g f).1;rw[(Ts T tx x).1] at f;unfold Wt at c;rw[(Ts T tx x).2] at c;have n:=g x;have:=q7s (AC (Ac T x).ws tx) [] (Be (Ac T x).h tx B0) (n.dy.off tx) (fun w c=>n.wm w (List.mem_filter.1 c).1) (q9u n.sorted tx) (Du.nil _) (o,m) c p e f h q;unfold Be at this;rw[if_neg d] at this;exact⟨u,this,d⟩
def TU {T:Tb} (g:GT T) {mode:Int} (q:Br mode) {o m p:Int} (d:Wt (Am T tx y mode) x o m) (c:(Ac (Am T tx y mode) x).h p=Bs e) (f:o<p) (u:e=2\/m=2) :
  (Wt T x o m\/(o=tx/\x=y/\m=mode/\Ai (Ac T y).h tx mode (Ac T y).ws=Jx))/\(Ac T x).h p=Bs e:=by
 refine⟨Er d,?_⟩;rcases UW T tx y mode x with h|⟨rfl,v,⟨n,h⟩|⟨n,h⟩⟩
 ·rw[h] at c;exact c
 ·unfold Wt at d;rw[h] at d c;exact Ng (g x).dy q (QR.1 n) d c f u
 ·rw[h] at c;exact c
def CX (d c:Nd):Prop:=c.id=d.id/\c.aa=d.aa/\c.nodes=d.nodes/\c.at_=d.at_
def CX.refl (d:Nd):CX d d:=⟨rfl,rfl,rfl,rfl⟩
def CX.trans {a b c:Nd} (h:CX a b) (k:CX b c):CX a c:=⟨k.1.trans h.1,k.2.1.trans h.2.1,k.2.2.1.trans h.2.2.1,k.2.2.2.trans h.2.2.2⟩
def CX.tick (d:Nd):CX d d.tick.1:=⟨(Ej d).1,(Ej d).2.2.1,(Ej d).2.2.2.1,(Ej d).2.2.2.2⟩
def CX.grow (d:Nd) (c:Cm):CX d (d.grow c).1:=by
 unfold Nd.grow;split
 ·exact CX.trans (b:=d.push c) ⟨rfl,rfl,rfl,rfl⟩ (CX.tick _)
 ·exact⟨rfl,rfl,rfl,rfl⟩
def CX.add (d:Nd) (c:Cm) (b:Bool):CX d (d.add c b).1.1:=by
 by_cases e:(d.add c b).2.2=0
 ·rw[(Oj e).1];exact .grow d c
 ·rw[qd3 e];exact .refl d
def CX.step (d:Nd) (m:Ms):CX d (d.step m).1:=by
 unfold Nd.step;split
 ·exact .refl d
 ·simp only;split
  ·exact .refl d
  ·split
   ·exact .refl d
   ·split
    ·exact .grow d _
    ·split
     ·exact⟨rfl,rfl,rfl,rfl⟩
     ·exact .refl d
structure AT (H H':Hs):Prop where
 n:H'.n=H.n
 c:H'.c=H.c
 nd:∀ s j,CX ((H.sh s).nd j) ((H'.sh s).nd j)
 ao:∀ s,(H'.sh s).ao=(H.sh s).ao
 aa:∀ s,(H'.sh s).aa=(H.sh s).aa
 size:∀ s,(H'.sh s).size=(H.sh s).size
 down:H'.net.ao=H.net.ao
def AT.refl (H:Hs):AT H H:=⟨rfl,rfl,fun _ _=>.refl _,fun _=>rfl,fun _=>rfl,fun _=>rfl,rfl⟩
def AT.trans {A B C:Hs} (h:AT A B) (k:AT B C):AT A C:=
 ⟨k.n.trans h.n,k.c.trans h.c,fun s j=>(h.nd s j).trans (k.nd s j),fun s=>(k.ao s).trans (h.ao s),fun s=>(k.aa s).trans (h.aa s),fun s=>(k.size s).trans (h.size s),k.down.trans h.down⟩
section
variable {H H':Hs} {i:Nat}
def AT.lv (h:AT H H') : Lv H' s j↔Lv H s j:=by unfold Lv;rw[h.n,h.ao,(h.nd s j).1]
def AT.head (h:AT H H') (k:Nat):H'.head k=H.head k:=Oh h.n (h.ao k) (fun j=>⟨(h.nd k j).1,by unfold Nd.head;rw[(h.nd k j).2.2.2]⟩)
def AT.live (h:AT H H') (k:Nat):(H'.sh k).ah H'.n=(H.sh k).ah H.n:=by
 unfold Bm.ah;rw[h.n,h.ao];exact XA (fun j _=>by rw[(h.nd k j).1])
def AT.cfg (h:AT H H') {L:List Nat} (g:Cfg H s L):Cfg H' s L:=
 ⟨g.sorted,by rw[h.n];exact g.lt,fun j c=>g.mem j (h.lv.1 c),fun j c=>by
  obtain⟨a,b,p,q1,d⟩:=g.nd j (h.lv.1 c);exact⟨by rw[(h.nd s j).2.1,h.aa];exact a,by rw[(h.nd s j).2.2.1];exact b,p,q1,by rw[(h.nd s j).2.2.2];exact d⟩⟩
def AT.au (H:Hs) (i:Nat) (t:Bl):AT H (H.au i t):=⟨rfl,rfl,fun _ _=>.refl _,fun _=>rfl,fun _=>rfl,fun _=>rfl,rfl⟩
def AT.take (H:Hs) (s:Nat):AT H (H.take s):=by
 have t:=Bz.take H s;have c:∀ k,((H.take s).sh k).nd=(H.sh k).nd/\((H.take s).sh k).ao=(H.sh k).ao/\((H.take s).sh k).aa=(H.sh k).aa/\((H.take s).sh k).size=(H.sh k).size:=fun k=>by
  by_cases e:k=s
  ·subst e;exact⟨t.nd,t.ao,t.aa,t.size⟩
  ·rw[t.sh k e];exact⟨rfl,rfl,rfl,rfl⟩
 exact⟨t.n,t.c,fun k j=>by rw[(c k).1];exact .refl _,fun k=>(c k).2.1,fun k=>(c k).2.2.1,fun k=>(c k).2.2.2,by rw[t.net]⟩
def AT.aq {s j:Nat} {d:Nd} (g:CX ((H.sh s).nd j) d):AT H (H.aq s j d):=by
 have c:∀ k a,CX ((H.sh k).nd a) (((H.aq s j d).sh k).nd a)/\((H.aq s j d).sh k).ao=(H.sh k).ao/\((H.aq s j d).sh k).aa=(H.sh k).aa/\((H.aq s j d).sh k).size=(H.sh k).size:=fun k a=>by
  by_cases e:k=s
  ·subst e;rw[D9];refine⟨?_,rfl,rfl,rfl⟩;show CX _ (Af (H.sh k).nd j d a);by_cases f:a=j
   ·subst f;rw[An];exact g
   ·rw[As f];exact .refl _
  ·rw[Ic H j d e];exact⟨.refl _,rfl,rfl,rfl⟩
 exact⟨rfl,rfl,fun k a=>(c k a).1,fun k=>(c k 0).2.1,fun k=>(c k 0).2.2.1,fun k=>(c k 0).2.2.2,rfl⟩
def AT.send (H:Hs) (ms:List Ms):AT H (H.send ms):=⟨rfl,rfl,fun _ _=>.refl _,fun _=>rfl,fun _=>rfl,fun _=>rfl,q31 _ _⟩
def AT.net (H:Hs) {n:AW} (h:n.ao=H.net.ao):AT H { H with net:=n }:=⟨rfl,rfl,fun _ _=>.refl _,fun _=>rfl,fun _=>rfl,fun _=>rfl,h⟩
def AT.add (H:Hs) (s j:Nat) (c:Cm) (b:Bool):AT H (H.add s j c b).2:=by
 unfold Hs.add;split
 ·exact .refl H
 ·exact((AT.aq (CX.add _ c b)).trans (.send _ _)).trans (.take _ _)
def AT.ax (H:Hs) (i:Nat) (kind:Int) (k:Nat):AT H (H.ax i kind k):=by
 cases c:H.head k with
 | none=>rw[I1 c];exact .refl H
 | some j=>
  rw[Ie c];split
  ·exact .add _ _ _ _ _
  ·exact .refl H
def AT.aN (i:Nat) (kind:Int):∀ (ks:List Nat) (H:Hs),AT H (telld H i kind ks)
 | [],H=>.refl H
 | k::ks,H=>(AT.ax H i kind k).trans (AT.aN i kind ks _)
def AT.bK (i:Nat):∀ (ks:List Nat) (H:Hs),AT H (reld H i ks)
 | [],H=>.refl H
 | k::ks,H=>by
  refine AT.trans (B:=H.rel k i) ?_ (AT.bK i ks (H.rel k i));have c:∀ a,(H.rel k i).sh a=if a=k then { H.sh k with tab:=Bj (H.sh k).tab i } else H.sh a:=fun a=>by
   show(Af H.sh k _ a)=_;unfold Af;rfl
  refine⟨rfl,rfl,fun a j=>?_,fun a=>?_,fun a=>?_,fun a=>?_,rfl⟩ <;> rw[c] <;> split <;> first|(rename_i e;subst e;first|rfl|exact .refl _)|first|rfl|exact .refl _
def AT.abort (H:Hs) (i:Nat):AT H (H.abort i):=by
 rw[Ia];exact((AT.au H i _).trans (.bK i _ _)).trans (.aN i 4 _ _)
def AT.tick (H:Hs) (s j:Nat):AT H (Hs.aG s H j):=(AT.aq (CX.tick _)).trans (.send _ _)
def AT.timed (H:Hs) (i:Nat):AT H (H.timed i):=by
 have e:=E3 H i;exact⟨e.1,e.2.1,fun s j=>by rw[e.2.2.2.1];exact .refl _,fun s=>by rw[e.2.2.2.1],fun s=>by rw[e.2.2.2.1],fun s=>by rw[e.2.2.2.1],by rw[e.2.2.2.2]⟩
def AT.arrive (H:Hs) (k:Nat) (m:Ms):AT H (({ H with net:=takeS H.net k } : Hs).arrive m):=by
 cases c:Hs.node { H with net:=takeS H.net k } m.a4 with
 | none=>rw[Ig c];exact .net H rfl
 | some r=>
  obtain⟨s,j⟩:=r;rw[Ih c];have e:AT H { H with net:=takeS H.net k }:=.net H rfl;exact((e.trans (AT.aq (H:={ H with net:=takeS H.net k }) (s:=s) (j:=j) (d:=(((H.sh s).nd j).step m).1) (CX.step _ m))).trans (.send _ _)).trans (.take _ _)
def AT.aU (H:Hs) (i k:Nat) (x:Sx) (mode:Int):AT H (H.aU i k x mode):=by
 have c:∀ a,(H.aU i k x mode).sh a=if a=k then { H.sh k with tab:=Am (H.sh k).tab i x mode } else H.sh a:=fun a=>by
  show(Af H.sh k _ a)=_;unfold Af;rfl
 refine⟨rfl,rfl,fun a j=>?_,fun a=>?_,fun a=>?_,fun a=>?_,rfl⟩ <;> rw[c] <;> split <;> first|(rename_i e;subst e;first|rfl|exact .refl _)|first|rfl|exact .refl _
def Bp.aR (s:Bp H H'):AT H H':=by
 cases s with
 | abort=>exact .abort _ _
 | tell=>exact .ax _ _ _ _
 | prep=>exact .add _ _ _ _ _
 | place=>exact .au _ _ _
 | timed=>exact .timed _ _
 | decide=>exact .add _ _ _ _ _
 | commit=>exact .au _ _ _
 | came=>exact .au _ _ _
 | @got i x mode=>exact .aU _ _ _ _ _
 | @wait i x mode=>exact(AT.aU _ _ _ _ _).trans (.au _ _ _)
 | tick=>exact .tick _ _ _
 | arrive=>exact .arrive _ _ _
def Ag.aR (s:Ag H H'):AT H H':=by
 induction s with
 | refl=>exact .refl _
 | step h _ c=>exact h.aR.trans c
def SzI (H:Hs):Prop:=∀ s,s<3->∀ j,Lv H s j->(H.sh s).size=(((H.sh s).nd j).nodes.length:Int)
def SzI.aR (h:SzI H) (c:AT H H'):SzI H':=fun s hs j d=>by
 rw[c.size,(c.nd s j).2.2.1];exact h s hs j (c.lv.1 d)
end
structure Bb (H:Hs) (ex:Int->Prop):Prop where
 src:∀ k,k<2->∀ x (o m:Int),(Ac (H.sh k).tab x).h o=Bs m->(1<=o/\o<=H.m)/\k∈(H.tx o.toNat).af/\((H.tx o.toNat).state=1\/(H.tx o.toNat).state=2\/∀ j,H.head k=Bs j->Ed (lg H k j) o)
 yb:∀ k,k<2->∀ x (o m p mp:Int),Wt (H.sh k).tab x o m->(Ac (H.sh k).tab x).h p=Bs mp->o<p->(mp=2\/m=2)->¬ex p->(H.tx p.toNat).state≠1
structure CaS (H H':Hs):Prop where
 m:H.m<=H'.m
 tab:∀ k,k<2->(H'.sh k).tab=(H.sh k).tab
 hd:∀ k j,k<2->H'.head k=Bs j->H.head k=Bs j/\lg H' k j=lg H k j
 cm:∀ i,1<=i->i<=H.m->∀ k∈(H.tx i).af,k∈(H'.tx i).af
 st:∀ i,1<=i->i<=H.m->(H'.tx i).state=(H.tx i).state\/((H.tx i).state=1/\(H'.tx i).state=2)
section
variable {H H':Hs} {G:Gh} {ex:Int->Prop} {i:Nat} {B:Int}
def Bb.mono {f:Int->Prop} (h:Bb H ex) (u:∀ p,ex p->f p):Bb H f:=⟨h.src,fun k q x o m p n a b c d e=>h.yb k q x o m p n a b c d (fun g=>e (u p g))⟩
def Bb.same (h:Bb H ex) (s:CaS H H'):Bb H' ex:=by
 refine⟨fun k c x o m q=>?_,fun k c x o m p g n d f C A=>?_⟩
 ·rw[s.tab k c] at q;obtain⟨⟨z,I⟩,E,D⟩:=h.src k c x o m q;have y:1<=o.toNat:=by omega
  have w:o.toNat<=H.m:=by omega
  refine⟨⟨z,by have:=s.m;omega⟩,s.cm _ y w k E,?_⟩;rcases s.st _ y w with e|⟨_,e⟩
  ·rw[e];exact D.imp id (YQ id (fun h j u=>by rw[(s.hd k j c u).2];exact h j (s.hd k j c u).1))
  ·exact .inr (.inl e)
 ·rw[s.tab k c] at n d;have v:=h.yb k c x o m p g n d f C A;obtain⟨⟨z,I⟩,_⟩:=h.src k c x p g d;rcases s.st p.toNat (by omega) (by omega) with e|⟨e,_⟩
  ·rw[e];exact v
  ·exact absurd e v
def Ns.ca (s:Ns H H'):CaS H H':=
 ⟨by rw[s.m];exact K0 _,fun k c=>(s.tab k (by omega)).1,fun k j c d=>⟨s.hd k j (by omega) d,s.lh k j (by omega) d⟩,fun i _ _ k c=>by rw[Dp (s.tx i).2.2.1];exact c,fun i _ _=>.inl (s.tx i).1⟩
def Ed.snoc {l:List Cm} {o:Int} (h:Ed l o) {c:Cm} (n:c.tx≠o\/c.ai=2):Ed (l++[c]) o:=by
 obtain⟨z,y,x⟩:=h;have e:∀ f,f=3\/f=4->¬Aj l f o->¬Aj (l++[c]) f o:=fun f C v w=>by
  obtain⟨d,q,A,u⟩:=w;rcases List.mem_append.1 q with g|g
  ·exact v ⟨d,g,A,u⟩
  ·rw[VW] at g;subst g;rcases n with n|n
   ·exact n u
   ·omega
 exact⟨z.mono (fun d q=>VT _ q),e 3 (.inl rfl) y,e 4 (.inr rfl) x⟩
def Bb.cW {c:Cm} {U:Nat->Int->Prop} (h:Bb H ex) (C:SI H G U) (hs:s<3) (Y:H.head s=Bs j) (a:SG H s j i c) (f:AddF H H' s j c):Bb H' ex:=by
 have S:∀ x,(H'.tx x).af=(H.tx x).af:=fun x=>Dp (f.tx x).2.2.1
 have Q:∀ k q,k≠s->lg H' k q=lg H k q:=fun k q e=>by rw[f.lg,if_neg (fun h=>e h.1)]
 have E:lg H' s j=lg H s j++[c]:=by rw[f.lg,if_pos ⟨rfl,rfl⟩]
 refine⟨fun k z x o m y=>?_,fun k z x o m p J u n v A R=>?_⟩
 ·rw[f.m,S,(f.tx _).1];by_cases e:k=s
  ·subst e;rw[f.tab] at y;have V:∀ m,(Ac (H.sh k).tab x).h o=Bs m->(c.tx≠o\/c.ai=2)->(1<=o/\o<=H.m)/\k∈(H.tx o.toNat).af/\((H.tx o.toNat).state=1\/(H.tx o.toNat).state=2\/∀ j,H'.head k=Bs j->Ed (lg H' k j) o):=fun m hm A=>by
    obtain⟨q1,D,K⟩:=h.src k z x o m hm;refine⟨q1,D,K.imp id (YQ id (fun h N d=>?_))⟩;rw[f.head,Y] at d;injection d with d;subst d;rw[E];exact(h _ Y).snoc A
   by_cases w:c.ai=2
   ·rw[Tr w] at y;obtain⟨M,X,_,_,_,_,_,L⟩:=a.pr w;have I:=QK c.ad (i:=c.tx) (C.gt k hs) (fun p n=>by rw[a.tx];exact L p n);rcases I.src x o m y with g|⟨g,_⟩
    ·exact V m g (.inr w)
    ·rw[a.tx] at g;subst g;have:=a.ir.1;have:=a.ir.2;rw[show((i:Int)).toNat=i by omega];exact⟨⟨by omega,by omega⟩,X,.inr (.inl M)⟩
   ·rw[QM (by rcases a.ai with g|g|g;exact absurd g w;exact .inl g;exact .inr g)] at y;obtain⟨O,g|⟨md,g⟩⟩:=qce (C.gt k hs) y
    ·exact V m g (.inl (Ne.symm O))
    ·obtain⟨w1,w2,Z,w4⟩:=C.wt k z x o md g;exact⟨w1,Dy.2 ⟨by omega,by rw[Z];simp⟩,.inl w2⟩
  ·rw[f.sh k e] at y;obtain⟨q1,D,K⟩:=h.src k z x o m y;exact⟨q1,D,K.imp id (YQ id (fun h N d=>by rw[f.head] at d;rw[Q k N e];exact h N d))⟩
 ·rw[(f.tx _).1];by_cases e:k=s
  ·subst e;rw[f.tab] at u n;by_cases w:c.ai=2
   ·rw[Tr w] at u n;obtain⟨M,X,_,_,_,_,_,L⟩:=a.pr w;have I:=QK c.ad (i:=c.tx) (C.gt k hs) (fun p n=>by rw[a.tx];exact L p n);unfold Wt at u;rw[I.ws] at u;rcases I.src x p J n with g|⟨g,_⟩
    ·exact h.yb k z x o m p J u g v A R
    ·rw[a.tx] at g;subst g;rw[show((i:Int)).toNat=i by have:=a.ir.1;omega,M]
     decide
   ·rw[QM (by rcases a.ai with g|g|g;exact absurd g w;exact .inl g;exact .inr g)] at u n;obtain⟨q1,D,_⟩:=QE (C.gt k hs) u n v A;exact h.yb k z x o m p J q1 D v A R
  ·rw[f.sh k e] at u n;exact h.yb k z x o m p J u n v A R
def Bb.ax {f:Nat->Int->Prop} (h:Bb H ex) (d:SI H G f) (g:Wf H) (e:CQ H) (v:1<=i) (u:i<=H.m) {kind:Int} {k:Nat} (q:k<2) (hs:(kind=3/\(H.tx i).state=3)\/(kind=4/\(H.tx i).state=4)):Bb (H.ax i kind k) ex:=by
 cases c:H.head k with
 | none=>rw[I1 c];exact h
 | some j=>
  rw[Ie c];split
  ·rename_i n;exact h.cW d (by omega) c (Fi g v u q hs (PB.1 n.1)) (q54 (b:=Jx) c (d.room e g.bz (by omega) c _ _) (d.dn k j (by omega) c))
  ·exact h
def Bb.aN {kind:Int} (f:1<=i):∀ (ks:List Nat) {H:Hs} {d:Nat->Int->Prop},Bb H ex->SI H G d->Wf H->CQ H->H.c=3->i<=H.m->(∀ k∈ks,k<2)->((kind=3/\(H.tx i).state=3)\/(kind=4/\(H.tx i).state=4))->Bb (Go.Proofs.YtccahlhdifadfaaGreatDoor.telld H i kind ks) ex
 | [],H,d,h,_,_,_,_,_,_,_=>h
 | k::ks,H,d,h,si,wf,lgi,hc,hi,hk,hs=>by
  have e:=DF H i kind k;have c:=hk k VH;exact Bb.aN f ks (h.ax si wf lgi f hi c hs) (si.ax wf lgi hc f hi c hs) (wf.ax f hi (by omega) _)
   (lgi.ax f hi c (hs.imp (fun⟨a,b⟩=>⟨a,b,lgi.ct i f hi b⟩) id)) (e.2.1.trans hc) (by rw[e.2.2.1];exact hi) (fun x g=>hk x (VI _ g)) (by rw[(e.2.2.2.2 i).1];exact hs)
def Bb.bf (h:Bb H ex) (L:SI H G (fun _ _=>False)) (h1:1<=i) (hi:i<=H.m):Bb (reld (H.al i) i (H.tx i).af) (fun p=>ex p/\p≠(i:Int)):=by
 have J:=q2o (H.tx i);have a1:∀ k∈(H.tx i).af,k<2:=fun k c=>BR c
 have a0:∀ k,k∈(H.tx i).af↔k∈(H.tx i).af:=fun _=>Iff.rfl
 generalize Q:(H.tx i).af=ks at *;have u:=FI i ks (H.al i);have O:=q7r i ks (H.al i) J;have R:∀ k,(reld (H.al i) i ks).head k=H.head k:=fun k=>(q9j i ks (H.al i) J k).trans (PA rfl rfl)
 have S:AK H (reld (H.al i) i ks):=(AK.au H i _).trans (Kn i ks _);generalize hK:reld (H.al i) i ks=K at *;have C:∀ a,((H.al i).tx a).state=(if a=i then 4 else(H.tx a).state)/\((H.al i).tx a).ae=(H.tx a).ae:=fun a=>by
  show((Af H.tx i _ a).state=_/\(Af H.tx i _ a).ae=_);by_cases e:a=i
  ·subst e;rw[An,if_pos rfl];exact⟨rfl,rfl⟩
  ·rw[As e,if_neg e];exact⟨rfl,rfl⟩
 have q:∀ a,(K.tx a).state=if a=i then 4 else(H.tx a).state:=fun a=>((u.2.2.2.2 a).1).trans (C a).1
 have D:∀ a,(K.tx a).af=(H.tx a).af:=fun a=>Dp (((u.2.2.2.2 a).2.2.1).trans (C a).2)
 have U:K.m=H.m:=u.2.2.1;have n:∀ k,(K.sh k).tab=if k∈ks then Bj (H.sh k).tab i else(H.sh k).tab:=fun k=>by rw[O];split <;> rfl
 have y:∀ k,k<2->∀ x (o m:Int),(Ac (H.sh k).tab x).h o=Bs m->o≠i->(1<=o/\o<=K.m)/\k∈(K.tx o.toNat).af/\((K.tx o.toNat).state=1\/(K.tx o.toNat).state=2\/∀ j,K.head k=Bs j->Ed (lg K k j) o):=fun k c x o m d f=>by
  obtain⟨q1,w,M⟩:=h.src k c x o m d;rw[U,D,q,if_neg (by omega)];exact⟨q1,w,M.imp id (YQ id (fun h j V=>by rw[S.lg];rw[R] at V;exact h j V))⟩
 have z:∀ k,k<2->k ∉ ks->∀ x (o m:Int),(Ac (H.sh k).tab x).h o=Bs m->o≠i:=fun k c J x o m d e=>by
  have:=(h.src k c x o m d).2.1;rw[e,show((i:Int)).toNat=i by omega,Q] at this;exact J this
 refine⟨fun k c x o m d=>?_,fun k c x o m p N I v A X he=>?_⟩
 ·rw[n] at d;split at d
  ·obtain⟨f,g|⟨md,g⟩⟩:=qce (L.gt k (by omega)) d
   ·exact y k c x o m g f
   ·obtain⟨w1,Z,Y,w4⟩:=L.wt k c x o md g;rw[U,D,q,if_neg (by omega)];exact⟨w1,Dy.2 ⟨by omega,by rw[Y];simp⟩,.inl Z⟩
  ·rename_i g;exact y k c x o m d (z k c g x o m d)
 ·rw[n] at I v;have E:p≠i->Wt (H.sh k).tab x o m->(Ac (H.sh k).tab x).h p=Bs N->(K.tx p.toNat).state≠1:=fun f q1 w=>by
   rw[q];split
   ·decide
   ·exact h.yb k c x o m p N q1 w A X (fun g=>he ⟨g,f⟩)
  split at I
  ·rename_i g;rw[if_pos g] at v;obtain⟨q1,w,M⟩:=QE (L.gt k (by omega)) I v A X;exact E M q1 w
  ·rename_i g;rw[if_neg g] at v;exact E (z k c g x p N v) I v
def JY (d:CQ H) (hs:(H.tx i).state=1\/((H.tx i).state=2/\(H.tx i).ag=0)):CQ (reld (H.al i) i (H.tx i).af):=by
 have c:=FI i (H.tx i).af (H.al i);have t1:BF H (H.al i):=by
  refine⟨K0 _,fun a _ _ e=>?_,fun a _ _ e=>?_,fun a _ _ e=>?_⟩
  ·show(Af H.tx i _ a).state=_;by_cases c:a=i
   ·subst c;rw[e] at hs;rcases hs with h|⟨h,_⟩ <;> cases h
   ·rw[As c];exact e
  ·show(Af H.tx i _ a).state=_;by_cases c:a=i
   ·subst c;rw[An]
   ·rw[As c];exact e
  ·show(Af H.tx i _ a).ag=_;by_cases c:a=i
   ·subst c;rw[An]
   ·rw[As c]
 have q:BF (H.al i) (reld (H.al i) i (H.tx i).af):=BF.of c.2.2.1 (fun a=>⟨(c.2.2.2.2 a).1,(c.2.2.2.2 a).2.2.2.2⟩);have f:AP H (reld (H.al i) i (H.tx i).af):=fun a u g e=>by
  rw[(c.2.2.2.2 a).1] at e;have e:(Af H.tx i _ a).state=3:=e;refine⟨by rw[c.2.2.1] at g;exact g,?_⟩;by_cases n:a=i
  ·subst n;rw[An] at e;cases e
  ·rw[As n] at e;exact e
 exact d.sub (t1.trans q) f (BJ.same ((AK.au H i _).trans (Kn i _ _)))
def Bb.abort (h:Bb H ex) (v:SI H G (fun _ _=>False)) (w:Wf H) (g:CQ H) (x:H.c=3) (d:1<=i) (c:i<=H.m) (hs:(H.tx i).state=1\/((H.tx i).state=2/\(H.tx i).ag=0)):Bb (H.abort i) (fun p=>ex p/\p≠(i:Int)):=by
 rw[Ia];have y:=h.bf v d c;have s2:=v.bf d c hs;have e:=FI i (H.tx i).af (H.al i);have f:Wf (reld (H.al i) i (H.tx i).af):=(w.al d c).bK i _ (fun k q=>by show k<H.c;have:=BR q;omega);have n:((reld (H.al i) i (H.tx i).af).tx i).state=4:=by
  rw[(e.2.2.2.2 i).1];show(Af H.tx i _ i).state=4;rw[An]
 have u:((reld (H.al i) i (H.tx i).af).tx i).af=(H.tx i).af:=Dp (by rw[(e.2.2.2.2 i).2.2.1];show(Af H.tx i _ i).ae=_;rw[An]);show Bb (Go.Proofs.YtccahlhdifadfaaGreatDoor.telld _ i 4 _) _;rw[u];exact Bb.aN (kind:=4) d (H.tx i).af y s2 f (JY g hs) (e.1.trans x) (by rw[e.2.2.1];exact c) (fun k q=>BR q) (.inr ⟨rfl,n⟩)
def Bb.prep (h:Bb H ex) (d:SI H G (fun _ _=>False)) (a:Ad H B) {k j:Nat} (b:Bool) (u:1<=i) (n:i<=H.m) (e:k∈(H.tx i).af) (c:H.head k=Bs j) (f:¬Aj (lg H k j) 2 i) (hs:(H.tx i).state=2)
  (q:(H.tx i).ae k=Bs (H.sh k).aa):Bb (H.add k j ⟨2,i,0,(H.tx i).of k⟩ b).2 ex:=by
 have g:=BR e;exact h.cW d (by omega) c (d.bX a u n e c f hs q) (q54 (b:=b) c (d.room a.bj a.wf.bz (by omega) c _ _) (d.dn k j (by omega) c))
def Bb.decide (h:Bb H ex) {j:Nat} (c:Cm) (b:Bool):Bb (H.add 2 j c b).2 ex:=by
 have e:=C0 H 2 j c b;refine h.same ⟨by rw[e.2.2.1];exact K0 _,fun k d=>by rw[qbu H 2 j c b (by omega)],fun k q d f=>?_,fun a _ _ k d=>by rw[Dp (e.2.2.2.2 a).2.2.1];exact d,fun a _ _=>.inl (e.2.2.2.2 a).1⟩;rw[UV] at f;exact⟨f,by unfold lg;rw[qbu H 2 j c b (by omega)]⟩
def Bb.timed (h:Bb H ex) (i:Nat):Bb (H.timed i) ex:=by
 have e:=E3 H i;have d:∀ a,((H.timed i).tx a).ae=(H.tx a).ae:=fun a=>by
  unfold Hs.timed;split
  ·show(Af H.tx i _ a).ae=_;by_cases e:a=i
   ·subst e;rw[An]
   ·rw[As e]
  ·rfl
 exact h.same ⟨by rw[e.2.2.1];exact K0 _,fun k c=>by rw[e.2.2.2.1],fun k q c f=>⟨by rw[<- PA e.1 (by rw[e.2.2.2.1])];exact f,by unfold lg;rw[e.2.2.2.1]⟩,fun a _ _ k c=>by rw[Dp (d a)];exact c,fun a _ _=>.inl (U4 H i a)⟩
def Bb.au (h:Bb H ex) {t:Bl} (hs:t.state=(H.tx i).state\/((H.tx i).state=1/\t.state=2)) (f:∀ k∈(H.tx i).af,k∈t.af):Bb (H.au i t) ex:=by
 refine h.same ⟨K0 _,fun _ _=>rfl,fun k q _ d=>⟨d,rfl⟩,fun a _ _ k c=>?_,fun a _ _=>?_⟩
 ·show k∈(Af H.tx i t a).af;by_cases e:a=i
  ·subst e;rw[An];exact f k c
  ·rw[As e];exact c
 ·show(Af H.tx i t a).state=_\/(_/\(Af H.tx i t a).state=_);by_cases e:a=i
  ·subst e;rw[An];exact hs
  ·rw[As e];exact .inl rfl
def Bb.commit (h:Bb H ex) (A:SI H G (fun _ _=>False)) (a:Ad H B) (O:1<=i) (L:i<=H.m) (hs:(H.tx i).state=2) (I:(H.tx i).ag≠0):Bb (H.az i 3) ex:=by
 have v:∀ b,((H.az i 3).tx b).state=(if b=i then 3 else(H.tx b).state)/\((H.az i 3).tx b).af=(H.tx b).af:=fun b=>by
  show(Af H.tx i _ b).state=_/\(Af H.tx i _ b).af=_;by_cases e:b=i
  ·subst e;rw[An,if_pos rfl];exact⟨rfl,rfl⟩
  ·rw[As e,if_neg e];exact⟨rfl,rfl⟩
 refine⟨fun k q x o m J=>?_,fun k q x o m p D E w y g M=>?_⟩
 ·obtain⟨q1,u,C⟩:=h.src k q x o m J;rw[(v _).1,(v _).2];refine⟨q1,u,?_⟩;split
  ·rename_i e;refine .inr (.inr (fun j z=>?_));have z:H.head k=Bs j:=z;rw[e] at u;have hl:=(Cu z).1;have N:=(A.tp i ⟨O,L⟩ I).2 k u j hl;have d:∀ n,n=3\/n=4->¬Aj (lg H k j) n i:=fun n K g=>by
    obtain⟨c,g,S,Q⟩:=g;obtain⟨p,w⟩:=List.mem_iff_getElem?.1 g;obtain⟨_,f⟩:=a.bj.pl k q j hl p c w;have R:Qp H c.tx=(H.tx i).state:=by rw[Q];rfl
    rcases f with f|f|f
    ·omega
    ·have:=f.2.1;omega
    ·have:=f.2;omega
   rw[show o=(i:Int) by omega];exact⟨N,d 3 (.inl rfl),d 4 (.inr rfl)⟩
  ·exact C
 ·rw[(v _).1];split
  ·decide
  ·exact h.yb k q x o m p D E w y g M
def Bb.came (h:Bb H ex) (i k:Nat):Bb (H.came i k) ex:=by
 refine h.au (.inl rfl) (fun q c=>?_);rw[Dy] at c ⊢;refine⟨c.1,?_⟩;show AO (H.tx i).ae k (H.sh k).aa q≠B0;unfold AO;split
 ·simp
 ·exact c.2
def Bb.aU {n:Int->Prop} {x:Sx} {mode:Int} (h:Bb H ex) (gt:GT (H.sh (Aa x)).tab) (S:1<=i) (R:i<=H.m) (hs:(H.tx i).state=1) (N:Br mode) (Q:(H.tx i).ae (Aa x)=Bs (H.sh (Aa x)).aa)
  (f:∀ p,ex p->n p) (K:Ai (Ac (H.sh (Aa x)).tab x).h i mode (Ac (H.sh (Aa x)).tab x).ws=Jx->∀ p q,(Ac (H.sh (Aa x)).tab x).h p=Bs q->(i:Int)<p->(q=2\/mode=2)->n p):Bb (H.aU i (Aa x) x mode) n:=by
 have c:∀ k,(H.aU i (Aa x) x mode).sh k=if k=Aa x then { H.sh (Aa x) with tab:=Am (H.sh (Aa x)).tab i x mode } else H.sh k:=fun k=>by
  show(Af H.sh (Aa x) _ k)=_;unfold Af;rfl
 have J:∀ k,(H.aU i (Aa x) x mode).head k=H.head k:=fun k=>by
  refine Oh rfl ?_ (fun j=>?_) <;> rw[c] <;> split
  ·rename_i e;rw[e]
  ·rfl
  ·rename_i e;rw[e];exact⟨rfl,rfl⟩
  ·exact⟨rfl,rfl⟩
 have I:∀ k j,lg (H.aU i (Aa x) x mode) k j=lg H k j:=fun k j=>by
  unfold lg;rw[c];split
  ·rename_i e;rw[e]
  ·rfl
 have O:=E4 x;refine⟨fun k C y o m u=>?_,fun k C y o m p q A v d D E=>?_⟩
 ·have w:∀ m,(Ac (H.sh k).tab y).h o=Bs m->(1<=o/\o<=H.m)/\k∈(H.tx o.toNat).af/\((H.tx o.toNat).state=1\/(H.tx o.toNat).state=2\/∀ j,(H.aU i (Aa x) x mode).head k=Bs j->Ed (lg (H.aU i (Aa x) x mode) k j) o):=fun m u=>by
   obtain⟨q1,z,M⟩:=h.src k C y o m u;exact⟨q1,z,M.imp id (YQ id (fun h j L=>by rw[I];rw[J] at L;exact h j L))⟩
  rw[c] at u;split at u
  ·rename_i e;subst e;rcases M0 u with g|⟨g,rfl⟩
   ·exact w m g
   ·subst g;show(_/\_<=(H.m:Int))/\_∈(H.tx _).af/\((H.tx _).state=1\/(H.tx _).state=2\/_)
    rw[show((i:Int)).toNat=i by omega];exact⟨⟨by omega,by omega⟩,Dy.2 ⟨by omega,by rw[Q];simp⟩,.inl hs⟩
  ·exact w m u
 ·rw[c] at A v;split at A
  ·rename_i e;subst e;rw[if_pos rfl] at v;obtain⟨q1,z⟩:=TU gt N A v d D;rcases q1 with q1|⟨rfl,rfl,rfl,q1⟩
   ·exact h.yb _ C y o m p q q1 z d D (fun g=>E (f p g))
   ·exact absurd (K q1 p q z d D) E
  ·rename_i e;rw[if_neg e] at v;exact h.yb k C y o m p q A v d D (fun g=>E (f p g))
def Bb.aF {o:Int} {l:List Int} (h:Bb H (·∈o::l)) (u:SI H G (fun _ _=>False)) (a:Ad H B):Bb (H.aF o) (·∈l):=by
 unfold Hs.aF;split
 ·rename_i g;refine(h.abort u a.wf a.bj a.c (by omega) (by omega) (.inl g.2.2)).mono (fun p c=>?_);rcases List.mem_cons.1 c.1 with e|e
  ·exact absurd e (by have:=c.2;omega)
  ·exact e
 ·rename_i g;refine⟨h.src,fun k n x q m p f w c d z y=>?_⟩;by_cases e:p=o
  ·subst e;obtain⟨⟨q1,v⟩,_⟩:=h.src k n x p f c;exact fun hs=>g ⟨q1,v,hs⟩
  ·exact h.yb k n x q m p f w c d z (fun g=>(List.mem_cons.1 g).elim e y)
def Bb.aX:∀ (l:List Int) {H:Hs},Bb H (·∈l)->SI H G (fun _ _=>False)->Ad H B->H.m<=40->Bb (Go.Proofs.YtccahlhdifadfaaGreatDoor.woundd H l) (·∈([]:List Int))
 | [],H,h,_,_,_=>h
 | o::l,H,h,si,a,h40=>by
  have c:=q5s a.wf o;obtain⟨s2,d⟩:=SI.star c si a h40;exact Bb.aX l (h.aF si a) s2 d (by rw[c.sm.m];exact h40)
def Bb.noEx (h:Bb H (·∈([]:List Int))):Bb H (fun _=>False):=h.mono (fun _ g=>(nomatch g))
def Bb.aV {k:Sx} {mode:Int} (h:Bb H (fun _=>False)) (A:SI H G (fun _ _=>False)) (a:Ad H B) (n:H.m<=40) (z:1<=i) (w:i<=H.m) (hs:(H.tx i).state=1) (J:k∈names) (u:Br mode) (K:H.head (Aa k)≠B0) (x:(H.tx i).ae (Aa k)=Bs (H.sh (Aa k)).aa)
  (E:B6 (H.tx i).aj k=Jx):Bb (H.aV i k mode).2 (fun _=>False):=by
 have f:=A.gt (Aa k) (by have:=E4 k;omega);by_cases c:Ch (Ac (H.sh (Aa k)).tab k).ws i=VJ
 ·rw[q2q c];show Bb (H.aU i (Aa k) k mode) _;rw[q8p (by unfold Am;rw[if_pos c])];exact h
 ·have c:Ch (Ac (H.sh (Aa k)).tab k).ws i=Jx:=by simpa using c
  by_cases d:Ai (Ac (H.sh (Aa k)).tab k).h i mode (Ac (H.sh (Aa k)).tab k).ws=VJ
  ·rw[q36 c d];exact h.aU f z w hs u x (fun _ g=>g) (fun g=>by rw[d] at g;cases g)
  ·have d:Ai (Ac (H.sh (Aa k)).tab k).h i mode (Ac (H.sh (Aa k)).tab k).ws=Jx:=by simpa using d
   by_cases y:(Ac (H.sh (Aa k)).tab k).ws.length=50
   ·rw[q37 c d y];show Bb (H.aU i (Aa k) k mode) _;rw[q8p (by unfold Am;rw[c,if_neg (by simp),d,if_neg (by simp),if_pos y])];exact h
   ·rw[q2c c d y];have e:=Bp.wait z w hs J u K x E c d;have s2:=A.step a n e;have O:=(a.step e).1;have N:Bb ((H.aU i (Aa k) k mode).aM i k mode) (·∈D8 (Ac (H.sh (Aa k)).tab k).h i mode):=by
     refine Bb.au ?_ (.inl rfl) (fun q I=>I);refine h.aU f z w hs u x (fun _ g=>g.elim) (fun _ p C D v L=>?_);have Q:=(h.src (Aa k) (E4 k) k p C D).1;have M:=a.wf.bz;unfold D8;refine List.mem_filter.2 ⟨List.mem_map.2 ⟨p.toNat,List.mem_range.2 (by omega),by show((p.toNat:Nat):Int)=p;omega⟩,?_⟩;rw[decide_eq_true_iff];exact⟨v,C,D,by unfold AI;simpa using L⟩
    exact(Bb.aX _ N s2 O n).noEx
def Bb.lock {id:Int} {k:Sx} {mode:Int} (h:Bb H (fun _=>False)) (z:SI H G (fun _ _=>False)) (a:Ad H B) (x:H.m<=40) (u:k∈names) (A:Br mode):Bb (H.lock id k mode).2 (fun _=>False):=by
 by_cases C:id<1\/H.m<id
 ·rw[Ty C];exact h
 ·obtain⟨i,rfl⟩:∃ i:Nat,id=i:=⟨id.toNat,by omega⟩
  have f:1<=i:=by omega
  have d:i<=H.m:=by omega
  by_cases hs:(H.tx i).state=1
  ·by_cases n:H.head (Aa k)=B0
   ·rw[q4i f d hs (Ea u) n];exact h
   ·by_cases c:Ps H i (Aa k)
    ·rw[q3s f d hs (Ea u) n c];exact(h.abort z a.wf a.bj a.c f d (.inl hs)).mono (fun _ g=>g.1)
    ·have y:(H.tx i).ae (Aa k)=B0\/(H.tx i).ae (Aa k)=Bs (H.sh (Aa k)).aa:=by
      cases e:(H.tx i).ae (Aa k) with
      | none=>exact .inl rfl
      | some v=>exact .inr (by rw[V5 (fun h=>c ⟨v,e,h⟩)])
     have w:=Bp.came f d (E4 k) hs n y;have s2:=z.step a x w;have D:=(a.step w).1;by_cases q:B6 (H.tx i).aj k=VJ
     ·rw[q3q f d hs (Ea u) n c q];exact h.came _ _
     ·have q:B6 (H.tx i).aj k=Jx:=by simpa using q
      rw[q6k f d hs (Ea u) n c q];refine(h.came i (Aa k)).aV s2 D x f d ?_ u A n ?_ ?_
      ·show(Af H.tx i _ i).state=1;rw[An];exact hs
      ·show(Af H.tx i _ i).ae _=_;rw[An];show AO _ _ _ _=_;unfold AO;rw[if_pos rfl];rfl
      ·show B6 (Af H.tx i _ i).aj k=Jx;rw[An];exact q
  ·rw[q3r f d hs];exact h
def Bb.fix {s:Nat} (h:Bb H ex) (E:SI H G (fun _ _=>False)) (a:Ad H B) (J:B<=1000000) (hs:s<3):Bb (H.fix s) ex:=by
 by_cases hl:(H.sh s).ah H.n=[]
 ·rw[qcw hl];exact h
 ·have t:=E.fixT a J hs hl;have f:=(a.fix J hs).2.2.2;have y:=f.lv;have C:∀ k,k≠s->(H.fix s).head k=H.head k:=fun k d=>PA f.n (f.sh k d)
  have D:∀ x,((H.fix s).tx x).af=(H.tx x).af:=fun x=>Dp (f.tx x).2.2.1
  refine⟨fun k d x o m g=>?_,fun k d x o m p M c I z Q O=>?_⟩
  ·rw[f.m,D,(f.tx _).1];by_cases e:k=s
   ·subst e;obtain⟨j,u,g,w,c,A,rfl⟩:=t.src x o m g;have n:Lv H k j:=(y k j (by rw[a.c];omega)).1 (Cu u).1;have N:=a.txLog d n c;refine⟨N,(E.pw k j d n w c A).2.1,.inr (.inr (fun q v=>?_))⟩;rw[u] at v;injection v with v;subst v;rw[f.lg];exact g
   ·rw[f.sh k e] at g;obtain⟨q1,L,K⟩:=h.src k d x o m g;exact⟨q1,L,K.imp id (YQ id (fun h j u=>by rw[f.lg];rw[C k e] at u;exact h j u))⟩
  ·rw[(f.tx _).1];by_cases e:k=s
   ·subst e;unfold Wt at c;rw[t.ws] at c;cases c
   ·rw[f.sh k e] at c I;exact h.yb k d x o m p M c I z Q O
end
inductive Ss:Hs->Hs->Prop where
 | abort {H:Hs} {i:Nat} (h1:1<=i) (hi:i<=H.m) (hs:(H.tx i).state=2) (ht:(H.tx i).ag=0)
   (hb:∃ k j,k∈(H.tx i).af/\H.head k=Bs j/\¬Aj (lg H k j) 2 i/\((H.tx i).ae k≠Bs (H.sh k).aa\/0<=((H.tx i).places k).getD 0)):Ss H (H.abort i)
 | tell {H:Hs} {i k:Nat} {kind:Int} (h1:1<=i) (hi:i<=H.m) (hk:k<2) (hs:(kind=3/\(H.tx i).state=3)\/(kind=4/\(H.tx i).state=4)):Ss H (H.ax i kind k)
 | prep {H:Hs} {i k j:Nat} (b:Bool) (h1:1<=i) (hi:i<=H.m) (hk:k∈(H.tx i).af) (hh:H.head k=Bs j) (hp:¬Aj (lg H k j) 2 i) (hs:(H.tx i).state=2) (ht:(H.tx i).ag=0)
   (he:(H.tx i).ae k=Bs (H.sh k).aa) (hpl:((H.tx i).places k).getD 0<0):Ss H (H.add k j ⟨2,i,0,(H.tx i).of k⟩ b).2
 | place {H:Hs} {i k:Nat} (a:Int) (h1:1<=i) (hi:i<=H.m) (hk:k∈(H.tx i).af) (ha:0<=a) (hs:(H.tx i).state=2) (hc:∀ j,H.head k=Bs j->Aj (lg H k j) 2 i):Ss H (H.a8 i k a)
 | timed {H:Hs} {i:Nat} (h1:1<=i) (hi:i<=H.m) (hs:(H.tx i).state=2) (hp:∀ k∈(H.tx i).af,AH H k 2 i):Ss H (H.timed i)
 | decide {H:Hs} {i j:Nat} (b:Bool) (h1:1<=i) (hi:i<=H.m) (hh:H.head 2=Bs j) (hp:¬Aj (lg H 2 j) 3 i) (hs:(H.tx i).state=2) (ht:(H.tx i).ag≠0):Ss H (H.add 2 j ⟨3,i,(H.tx i).ag,[]⟩ b).2
 | commit {H:Hs} {i:Nat} (h1:1<=i) (hi:i<=H.m) (hs:(H.tx i).state=2) (hp:AH H 2 3 i):Ss H (H.az i 3)
def Ss.b3 {H H':Hs} (s:Ss H H'):Bp H H':=by
 cases s with
 | abort d c hs f w=>exact .abort d c (.inr ⟨hs,f⟩)
 | tell d c g hs=>exact .tell d c g hs
 | prep b d c g n e hs f q h=>exact .prep b d c g n e hs f q h
 | place a d c g u hs v=>exact .place a d c g u hs
 | timed d c hs e=>exact .timed d c hs e
 | decide b d c n e hs f=>exact .decide b d c n e hs f
 | commit d c hs e=>exact .commit d c hs e
inductive Cr:Hs->Hs->Prop where
 | refl (H:Hs):Cr H H
 | step {A B C:Hs} (h:Ss A B) (r:Cr B C):Cr A C
def Cr.one {A B:Hs} (h:Ss A B):Cr A B:=.step h (.refl B)
def Cr.trans {A B C:Hs} (h:Cr A B) (k:Cr B C):Cr A C:=by
 induction h with
 | refl=>exact k
 | step h _ c=>exact .step h (c k)
def Cr.star {A B:Hs} (h:Cr A B):Ag A B:=by
 induction h with
 | refl=>exact .refl _
 | step h _ c=>exact .step h.b3 c
structure Bg (H:Hs) (G:Gh) (B:Int):Prop where
 a:Ad H B
 s:SI H G (fun _ _=>False)
 m40:H.m<=40
 ca:Bb H (fun _=>False)
 sz:SzI H
section
variable {H H':Hs} {G:Gh} {i:Nat} {B:Int}
def Qe (a:Ad H B) (d:AH H 2 3 i):(H.tx i).ag≠0:=by
 obtain⟨j,p,c,f,g,q,n,_⟩:=d;have h:=(a.bj.p2 j (Cu f).1 c (S2 g)).2.2;have e:c.ag=(H.tx i).ag:=by rw[h.1,n];rfl
 omega
def Bb.ss {ex:Int->Prop} (h:Bb H ex) (f:SI H G (fun _ _=>False)) (a:Ad H B) (s:Ss H H'):Bb H' ex:=by
 cases s with
 | abort d c hs q y=>exact(h.abort f a.wf a.bj a.c d c (.inr ⟨hs,q⟩)).mono (fun _ g=>g.1)
 | tell d c n hs=>exact h.ax f a.wf a.bj d c n hs
 | prep b d c n u e hs q w v=>exact h.prep f a b d c n u e hs w
 | place a d c n z hs x=>exact h.au (.inl rfl) (fun _ g=>g)
 | timed d c hs e=>exact h.timed _
 | decide b d c u e hs q=>exact h.decide _ _
 | commit d c hs e=>exact h.commit f a d c hs (Qe a e)
def Bg.ss (h:Bg H G B) (s:Ss H H'):Bg H' G B:=
 ⟨(h.a.step s.b3).1,h.s.step h.a h.m40 s.b3,by rw[s.b3.sm.m];exact h.m40,h.ca.ss h.s h.a s,h.sz.aR s.b3.aR⟩
def Bg.c9 (s:Cr H H'):Bg H G B->Bg H' G B:=by
 induction s with
 | refl=>exact id
 | step s _ c=>exact fun h=>c (h.ss s)
def Bg.tick (h:Bg H G B) {s j:Nat} (hs:s<3) (hl:Lv H s j):Bg (Hs.aG s H j) G B:=by
 have c:=Bp.tick hs hl;refine⟨(h.a.step c).1,h.s.step h.a h.m40 c,h.m40,h.ca.same (Ns.ca ?_),h.sz.aR c.aR⟩;exact Ns.nd (H:=H) hs (Ej _).1 (Ej _).2.2.2.2 (by rw[(Ej _).2.1];exact VQ _) (fun hl=>⟨j,hl,by rw[(Ej _).2.1];exact VQ _⟩) (fun _=>(Ej _).2.1) _ H.net
def Ml (h:SI H G (fun _ _=>False)) (a:Ad H B) (u:H.net.l[k]? = Bs m):Ns H (({ H with net:=takeS H.net k } : Hs).arrive m):=by
 cases d:Hs.node { H with net:=takeS H.net k } m.a4 with
 | none=>
  rw[Ig d];exact⟨rfl,fun _ _ _ h=>h,fun _ _ _ h=>h,fun _ _ _ _=>VQ _,fun _ j _ h=>⟨j,h,VQ _⟩,fun _ _ _ _=>rfl,fun _ _=>⟨rfl,rfl,rfl,rfl⟩,fun _=>⟨rfl,rfl,rfl,rfl,rfl⟩⟩
 | some r=>
  obtain⟨s,j⟩:=r;obtain⟨hs,hl,_⟩:=q3y (H:={ H with net:=takeS H.net k }) a.c d;have c:s<3:=by have:=a.c;have hs:s<H.c:=hs;omega
  rw[Ih d];have g:Ns H ((({ H with net:=takeS H.net k } : Hs).aq s j (((H.sh s).nd j).step m).1).send (((H.sh s).nd j).step m).2):=
   Ns.nd c (q4x _ m).2 (q8m _ m).1 (q4x _ m).1 (fun f=>qc7 a.ch (s:=s) (j:=j) (by rw[a.c];exact c) f (S2 u)) (fun v=>(q8m _ m).2 v) _ _
  have w:=h.same g;have e:(((({ H with net:=takeS H.net k } : Hs).aq s j (((H.sh s).nd j).step m).1).send (((H.sh s).nd j).step m).2).take s)=((({ H with net:=takeS H.net k } : Hs).aq s j (((H.sh s).nd j).step m).1).send (((H.sh s).nd j).step m).2):=GH (fun q n=>w.dn s q c n);show Ns H (((({ H with net:=takeS H.net k } : Hs).aq s j (((H.sh s).nd j).step m).1).send (((H.sh s).nd j).step m).2).take s);rw[e];exact g
def Bg.arrive (h:Bg H G B) {k:Nat} {m:Ms} (d:H.net.l[k]? = Bs m):Bg (({ H with net:=takeS H.net k } : Hs).arrive m) G B:=by
 have c:=Bp.arrive d;exact⟨(h.a.step c).1,h.s.step h.a h.m40 c,by rw[c.sm.m];exact h.m40,h.ca.same (Ml h.s h.a d).ca,h.sz.aR c.aR⟩
def qd2 (h:Bg H G B) (d:k<3) (f:H.head k=Bs j) (c:Cm) (b:Bool):¬(H.add k j c b).1<0:=by
 have e:=h.s.room h.a.bj h.a.wf.bz d f c b;unfold Hs.add;rw[if_neg (by simp[e])];have:=(Oj e).2;show ¬(((H.sh k).nd j).add c b).2.1<0;omega
def Aj.up {l l':List Cm} {kind id:Int} (h:Aj l kind id) (hl:l <+: l'):Aj l' kind id:=h.mono (fun _ c=>hl.subset c)
def Uk (b:Bool) (h:Bg H G B) (C:1<=i) (A:i<=H.m) (x:k∈(H.tx i).af) (hs:(H.tx i).state=2) :
  Cr H (H.aA i k b).1/\((H.aA i k b).2≠B0->∀ j,(H.aA i k b).1.head k=Bs j->Aj (lg (H.aA i k b).1 k j) 2 i):=by
 have S:=BR x;cases u:H.head k with
 | none=>rw[q5l u];exact⟨.refl H,fun _ j Q=>by rw[u] at Q;cases Q⟩
 | some j=>
  have E:Aj (lg H k j) 2 i->∀ q,H.head k=Bs q->Aj (lg H k q) 2 i:=fun g q n=>by rw[u] at n;injection n with n;subst n;exact g
  cases D:place ((H.sh k).nd j).log 2 i with
  | some p=>
   rw[q3t u D];obtain⟨c,U,O⟩:=q4g D;have d:Aj (lg H k j) 2 i:=⟨c,S2 U,O⟩
   exact⟨.one (.place p C A x (by omega) hs (E d)),fun _ q n=>E d q n⟩
  | none=>
   have w:=PB.1 D;by_cases J:Dd H i k
   ·by_cases L:(H.tx i).ag=0
    ·rw[q5m u D J L];refine⟨.one (.abort C A hs L ⟨k,j,x,u,w,?_⟩),fun g=>absurd rfl g⟩;rcases J with g|g|g
     ·omega
     ·exact .inl (fun e=>g (by rw[e];rfl))
     ·exact .inr g
    ·exact absurd ((h.s.tp i ⟨C,A⟩ L).2 k x j (Cu u).1) w
   ·have y:=J;unfold Dd at y;simp only[not_or] at y;obtain⟨X,z,V⟩:=y;have N:(H.tx i).ae k=Bs (H.sh k).aa:=by
     have Y:=(Dy.1 x).2;cases e:(H.tx i).ae k with
     | none=>exact absurd e Y
     | some v=>rw[e] at z;simp only[Option.getD_some,ne_eq,XR] at z;rw[z]
    have f:=C0 H k j ⟨2,i,0,(H.tx i).of k⟩ b;have K:(H.tx i).ag=0:=by have:=h.a.wf.cR i C A;omega
    have M:=Ss.prep b C A x u w hs K N (by omega);have R:=qd2 h (by omega) u ⟨2,i,0,(H.tx i).of k⟩ b;rw[q7g u D J R];have I:((H.add k j ⟨2,i,0,(H.tx i).of k⟩ b).2.tx i).af=(H.tx i).af:=by unfold Bl.af;rw[(f.2.2.2.2 i).2.2.1]
    obtain⟨Z,g2⟩:=QH R;have d:∀ q,(H.add k j ⟨2,i,0,(H.tx i).of k⟩ b).2.head k=Bs q->Aj (lg (H.add k j ⟨2,i,0,(H.tx i).of k⟩ b).2 k q) 2 i:=fun q n=>by
     rw[UV,u] at n;injection n with n;subst n;rw[Z];exact⟨_,WZ _ (List.mem_singleton.2 rfl),rfl,rfl⟩
    exact⟨.step M (.one (.place _ C (by rw[f.2.2.1];exact A) (by rw[I];exact x) (by omega) (by rw[(f.2.2.2.2 i).1];exact hs) d)),fun _ q n=>d q n⟩
def Cr.has (s:Cr H H') {kind id:Int} (h:∀ j,H.head k=Bs j->Aj (lg H k j) kind id):∀ j,H'.head k=Bs j->Aj (lg H' k j) kind id:=fun j c=>by
 rw[s.star.aR.head] at c;refine(h j c).up ?_;have:∀ {A C:Hs},Ag A C->BV A C:=fun {A C} d=>by
  induction d with
  | refl=>exact .refl _
  | step s _ e=>exact s.up.trans e
 exact(this s.star).lg k j
def JW (b:Nat->Bool) (v:1<=i):∀ (ks:List Nat) {H:Hs} (c:Bool),Bg H G B->i<=H.m->(H.tx i).state=2->(∀ k∈ks,k∈(H.tx i).af)->
  Cr H (Hs.a3 i b ks H c).1/\((Hs.a3 i b ks H c).2≠B0->∀ k∈ks,∀ j,(Hs.a3 i b ks H c).1.head k=Bs j->Aj (lg (Hs.a3 i b ks H c).1 k j) 2 i)
 | [],H,c,_,_,_,_=>⟨.refl H,fun _ k u=>by cases u⟩
 | k::ks,H,c,h,hi,hs,hks=>by
  have u:=hks k VH;obtain⟨w,C⟩:=Uk (b k) h v hi u hs;have A:=(Ge (b k) h.a.wf v hi u hs).2.1;have y:=q65 H i k (b k);have n:Hs.a3 i b (k::ks) H c=(match (H.aA i k (b k)).2 with|none=>((H.aA i k (b k)).1,B0)|some a=>Hs.a3 i b ks (H.aA i k (b k)).1 (c && a)):=rfl;rw[n];cases e:(H.aA i k (b k)).2 with
  | none=>exact⟨w,fun h=>absurd rfl h⟩
  | some a=>
   have d:(H.aA i k (b k)).2≠B0:=by rw[e];simp
   have q:((H.aA i k (b k)).1.tx i).af=(H.tx i).af:=by unfold Bl.af;rw[(A d).2]
   obtain⟨q1,z⟩:=JW b v ks (c && a) (Bg.c9 w h) (by rw[y.sm.m];exact hi) (by rw[y.on d];exact hs) (fun x f=>by rw[q];exact hks x (VI _ f));simp only;refine⟨w.trans q1,fun g x f=>?_⟩;rcases List.mem_cons.1 f with rfl|f
   ·exact q1.has (C d)
   ·exact z g x f
def q8j {kind:Int} (c:1<=i):∀ (ks:List Nat) {H:Hs},i<=H.m->(∀ k∈ks,k<2)->((kind=3/\(H.tx i).state=3)\/(kind=4/\(H.tx i).state=4))->Cr H (telld H i kind ks)
 | [],H,_,_,_=>.refl H
 | k::ks,H,hi,hk,hs=>by
  have e:=DF H i kind k;refine .step (.tell c hi (hk k VH) hs) ?_;exact q8j c ks (by rw[e.2.2.1];exact hi) (fun x d=>hk x (VI _ d)) (by rw[(e.2.2.2.2 i).1];exact hs)
def Fv (d:1<=i) (c:i<=H.m) (hs:(H.tx i).state=2) (e:AH H 2 3 i):Cr H (H.commit i):=by
 refine .step (.commit d c hs e) ?_;refine q8j (H:=H.az i 3) d _ c (fun _ f=>BR f) (.inl ⟨rfl,?_⟩);show(Af H.tx i _ i).state=3;rw[An]
def L8 (b:Bool) (y:Wf H) (v:1<=i) (n:i<=H.m) (hs:(H.tx i).state=2) (z:∀ k∈(H.tx i).af,AH H k 2 i):Cr H (H.aI i b).1:=by
 cases u:H.head 2 with
 | none=>rw[q67 u];exact .refl H
 | some j=>
  cases e:place ((H.sh 2).nd j).log 3 i with
  | some p=>
   rw[q66 u e];split
   ·exact .refl H
   ·rename_i w;obtain⟨c,J,I,E⟩:=q4g e;exact Fv v n hs ⟨j,p,c,u,J,I,E,by omega⟩
  | none=>
   rw[q85 u e];have f:=E3 H i;have D:=Ss.timed v n hs z;have q:(H.timed i).head 2=Bs j:=by rw[PA f.1 (by rw[f.2.2.2.1])];exact u
   have h:¬Aj (lg (H.timed i) 2 j) 3 i:=by unfold lg;rw[f.2.2.2.1];exact PB.1 e
   have d:=C0 (H.timed i) 2 j ⟨3,i,((H.timed i).tx i).ag,[]⟩ b;have g:((H.timed i).tx i).state=2:=(U4 H i i).trans hs;have x:Cr H ((H.timed i).add 2 j ⟨3,i,((H.timed i).tx i).ag,[]⟩ b).2:=.step D (.one (.decide b v (by rw[f.2.2.1];exact n) q h g (IF y v n)));split
   ·exact x
   ·rename_i A;split
    ·exact x
    ·rename_i w;obtain⟨C,K⟩:=QH A;refine x.trans (Fv v (by rw[d.2.2.1,f.2.2.1];exact n) (by rw[(d.2.2.2.2 i).1];exact g) ⟨j,(lg (H.timed i) 2 j).length,⟨3,i,((H.timed i).tx i).ag,[]⟩,(UV _ 2 j _ b 2).trans q,by rw[C];simp,rfl,rfl,?_⟩);omega
def Ei (H:Hs) (i:Nat):Prop:=((H.tx i).state=2->∀ k∈(H.tx i).af,∀ j,H.head k=Bs j->Aj (lg H k j) 2 i)/\((H.tx i).state=3\/(H.tx i).state=4->∀ k∈(H.tx i).af,∀ j,H.head k=Bs j->¬Ed (lg H k j) i)
def Uj (b:Nat->Bool) (h:Bg H G B) (u:1<=i) (q:i<=H.m) (hs:(H.tx i).state=2) :
  Cr H (H.ends i b).1/\((H.ends i b).2=Jx->∀ k∈(H.tx i).af,∀ j,(H.ends i b).1.head k=Bs j->Aj (lg (H.ends i b).1 k j) 2 i):=by
 obtain⟨n,v⟩:=JW b u (H.tx i).af VJ h q hs (fun _ h=>h);obtain⟨_,s2,s3⟩:=q83 b u (H.tx i).af VJ h.a.wf h.a.c q hs (fun _ h=>h) (q2o _);have f:=q40 i b (H.tx i).af H VJ;cases e:(Hs.a3 i b (H.tx i).af H VJ).2 with
 | none=>rw[q5k (show _=((Hs.a3 i b (H.tx i).af H VJ).1,B0) from by rw[<- e])];exact⟨n,fun h=>by cases h⟩
 | some a=>
  have c:(Hs.a3 i b (H.tx i).af H VJ).2≠B0:=by rw[e];simp
  cases a with
  | false=>rw[q4n (show _=((Hs.a3 i b (H.tx i).af H VJ).1,Bs Jx) from by rw[<- e])];exact⟨n,fun _=>v c⟩
  | true=>
   rw[q4m (show _=((Hs.a3 i b (H.tx i).af H VJ).1,Bs VJ) from by rw[<- e])];have g:((Hs.a3 i b (H.tx i).af H VJ).1.tx i).af=(H.tx i).af:=Dp (s2 c).2;have d:=L8 (b 2) (Bg.c9 n h).a.wf u (by rw[f.sm.m];exact q) (by rw[f.on c];exact hs) (by rw[g];exact s3 e);exact⟨n.trans d,fun _ k w=>d.has (v c k w)⟩
end
section
variable {H H':Hs} {G:Gh} {i t:Nat} {B:Int}
structure No (H H':Hs):Prop where
 m:H'.m=H.m
 sh:∀ t,(H'.tx t).ae=(H.tx t).ae
 s1:∀ t,(H.tx t).state=1->(H'.tx t).state=1
 s2:∀ t,(H'.tx t).state=2->(H.tx t).state=2
 s34:∀ t,((H.tx t).state=3->(H'.tx t).state=3)/\((H.tx t).state=4->(H'.tx t).state=4)
def No.refl (H:Hs):No H H:=⟨rfl,fun _=>rfl,fun _ h=>h,fun _ h=>h,fun _=>⟨fun h=>h,fun h=>h⟩⟩
def No.trans {A B C:Hs} (h:No A B) (k:No B C):No A C:=
 ⟨k.m.trans h.m,fun t=>(k.sh t).trans (h.sh t),fun t e=>k.s1 t (h.s1 t e),fun t e=>h.s2 t (k.s2 t e),fun t=>⟨fun e=>(k.s34 t).1 ((h.s34 t).1 e),fun e=>(k.s34 t).2 ((h.s34 t).2 e)⟩⟩
def No.of (c:H'.m=H.m) (h:∀ t,(H'.tx t).state=(H.tx t).state/\(H'.tx t).ae=(H.tx t).ae):No H H':=
 ⟨c,fun t=>(h t).2,fun t e=>(h t).1.trans e,fun t e=>(h t).1.symm.trans e,fun t=>⟨fun e=>(h t).1.trans e,fun e=>(h t).1.trans e⟩⟩
def IG (H:Hs) (i a:Nat):((H.timed i).tx a).ae=(H.tx a).ae/\((H.timed i).tx a).places=(H.tx a).places:=by
 unfold Hs.timed;split
 ·show(Af H.tx i _ a).ae=_/\(Af H.tx i _ a).places=_;by_cases e:a=i
  ·subst e;rw[An];exact⟨rfl,rfl⟩
  ·rw[As e];exact⟨rfl,rfl⟩
 ·exact⟨rfl,rfl⟩
def Ss.bE (s:Ss H H'):No H H':=by
 cases s with
 | @abort i h f hs q v=>
  obtain⟨n,_,d⟩:=If H i;refine⟨n.m,fun t=>(d t).2.2.1,fun t e=>?_,fun t e=>?_,fun t=>⟨fun e=>?_,fun e=>?_⟩⟩
  ·rw[(d t).1];split
   ·rename_i g;rw[g] at e;omega
   ·exact e
  ·rw[(d t).1] at e;split at e
   ·omega
   ·exact e
  ·rw[(d t).1];split
   ·rename_i g;rw[g] at e;omega
   ·exact e
  ·rw[(d t).1];split
   ·rfl
   ·exact e
 | tell=>exact .of (DF _ _ _ _).2.2.1 (fun t=>⟨((DF _ _ _ _).2.2.2.2 t).1,((DF _ _ _ _).2.2.2.2 t).2.2.1⟩)
 | prep=>exact .of (C0 _ _ _ _ _).2.2.1 (fun t=>⟨((C0 _ _ _ _ _).2.2.2.2 t).1,((C0 _ _ _ _ _).2.2.2.2 t).2.2.1⟩)
 | @place i k a=>
  refine .of rfl (fun t=>?_);show(Af H.tx i _ t).state=_/\(Af H.tx i _ t).ae=_;by_cases e:t=i
  ·subst e;rw[An];exact⟨rfl,rfl⟩
  ·rw[As e];exact⟨rfl,rfl⟩
 | @timed i=>exact .of (E3 H i).2.2.1 (fun t=>⟨U4 H i t,(IG H i t).1⟩)
 | decide=>exact .of (C0 _ _ _ _ _).2.2.1 (fun t=>⟨((C0 _ _ _ _ _).2.2.2.2 t).1,((C0 _ _ _ _ _).2.2.2.2 t).2.2.1⟩)
 | @commit i h f hs u=>
  have c:∀ t,((H.az i 3).tx t).state=(if t=i then 3 else(H.tx t).state)/\((H.az i 3).tx t).ae=(H.tx t).ae:=fun t=>by
   show(Af H.tx i _ t).state=_/\(Af H.tx i _ t).ae=_;by_cases e:t=i
   ·subst e;rw[An,if_pos rfl];exact⟨rfl,rfl⟩
   ·rw[As e,if_neg e];exact⟨rfl,rfl⟩
  refine⟨rfl,fun t=>(c t).2,fun t e=>?_,fun t e=>?_,fun t=>⟨fun e=>?_,fun e=>?_⟩⟩
  ·rw[(c t).1];split
   ·rename_i g;rw[g] at e;omega
   ·exact e
  ·rw[(c t).1] at e;split at e
   ·omega
   ·exact e
  ·rw[(c t).1];split
   ·rfl
   ·exact e
  ·rw[(c t).1];split
   ·rename_i g;rw[g] at e;omega
   ·exact e
def Cr.bE (s:Cr H H'):No H H':=by
 induction s with
 | refl=>exact .refl _
 | step h _ c=>exact h.bE.trans c
def No.af (h:No H H') (t:Nat):(H'.tx t).af=(H.tx t).af:=Dp (h.sh t)
def Ag.up (s:Ag H H'):BV H H':=by
 induction s with
 | refl=>exact .refl _
 | step s _ c=>exact s.up.trans c
def Kq (H H':Hs):Prop:=∀ k j,H.head k=Bs j->∃ d,lg H' k j=lg H k j++d/\∀ c∈d,c.ai=2->0<=c.tx/\(H.tx c.tx.toNat).state=2
def Kq.refl (H:Hs):Kq H H:=fun k j _=>⟨[],by simp,fun _ h=>(nomatch h)⟩
def Hp {c:Cm} (b:Bool) (w:H.head s=Bs j) (v:c.ai=2->0<=c.tx/\(H.tx c.tx.toNat).state=2):Kq H (H.add s j c b).2:=fun k q n=>by
 rcases(Hr H s j c b).1 with e|e
 ·rw[e];exact Kq.refl H k q n
 ·rw[e];split
  ·rename_i g;obtain⟨rfl,rfl⟩:=g;exact⟨[c],rfl,fun d f u=>by rw[VW] at f;subst f;exact v u⟩
  ·exact⟨[],by simp,fun _ h=>(nomatch h)⟩
def Kq.trans {A B C:Hs} (h:Kq A B) (k:Kq B C) (u:∀ s,B.head s=A.head s) (q:∀ t,(B.tx t).state=2->(A.tx t).state=2):Kq A C:=fun s j f=>by
 obtain⟨z,x,n⟩:=h s j f;obtain⟨y,w,e⟩:=k s j (by rw[u];exact f);refine⟨z++y,by rw[w,x,XB],fun c v d=>?_⟩;rcases List.mem_append.1 v with g|g
 ·exact n c g d
 ·exact⟨(e c g d).1,q _ (e c g d).2⟩
def Fj {kind:Int} (d:kind≠2) (k:Nat):Kq H (H.ax i kind k):=by
 cases c:H.head k with
 | none=>rw[I1 c];exact .refl H
 | some j=>
  rw[Ie c];split
  ·exact Hp _ c (fun e=>absurd e d)
  ·exact .refl H
def q96 {kind:Int} (c:kind≠2):∀ (ks:List Nat) (H:Hs),Kq H (telld H i kind ks)
 | [],H=>.refl H
 | k::ks,H=>(Fj c k).trans (q96 c ks _) (fun s=>(AT.ax H i kind k).head s) (fun t e=>by rw[((DF H i kind k).2.2.2.2 t).1] at e;exact e)
def Ss.lgx (s:Ss H H'):Kq H H':=by
 have c:∀ {H':Hs},(∀ k,(H'.sh k).nd=(H.sh k).nd)->Kq H H':=fun e k j _=>⟨[],by unfold lg;rw[e];simp,fun _ h=>(nomatch h)⟩
 cases s with
 | @abort i q f hs x z=>
  rw[Ia];have d:AK H (reld (H.al i) i (H.tx i).af):=(AK.au H i _).trans (Kn i _ _);have w:=FI i (H.tx i).af (H.al i);have v:Kq (reld (H.al i) i (H.tx i).af) (telld (reld (H.al i) i (H.tx i).af) i 4 ((reld (H.al i) i (H.tx i).af).tx i).af):=q96 (by decide) _ _;refine(c d.nd).trans v (fun s=>Oh d.n (d.ao s) (fun j=>by rw[d.nd];exact⟨rfl,rfl⟩)) (fun t e=>?_);rw[(w.2.2.2.2 t).1] at e;have e:(Af H.tx i _ t).state=2:=e;by_cases g:t=i
  ·subst g;exact hs
  ·rw[As g] at e;exact e
 | @tell i k kind q f u hs=>exact Fj (by rcases hs with ⟨h,_⟩|⟨h,_⟩ <;> omega) k
 | @prep i k j b q f u n y hs=>exact Hp b n (fun _=>⟨by show(0:Int)<=(i:Int);omega,by show(H.tx ((i:Int)).toNat).state=2;rw[show((i:Int)).toNat=i by omega];exact hs⟩)
 | place=>exact c (fun _=>rfl)
 | @timed i=>exact c (fun k=>by rw[(E3 H i).2.2.2.1])
 | decide b q f n=>exact Hp b n (fun e=>by have e:(3:Int)=2:=e;omega)
 | commit=>exact c (fun _=>rfl)
def Cr.lgx (s:Cr H H'):Kq H H':=by
 induction s with
 | refl=>exact .refl _
 | step h _ c=>exact h.lgx.trans c (fun s=>h.b3.aR.head s) h.bE.s2
def Cr.noOpn (s:Cr H H') (y:(H.tx t).state=3\/(H.tx t).state=4) (h:∀ j,H.head k=Bs j->¬Ed (lg H k j) t):∀ j,H'.head k=Bs j->¬Ed (lg H' k j) t:=fun j d f=>by
 rw[s.star.aR.head] at d;obtain⟨z,e,p⟩:=s.lgx k j d;rw[e] at f;obtain⟨⟨c,x,u,n⟩,w,v⟩:=f;rcases List.mem_append.1 x with g|g
 ·exact h j d ⟨⟨c,g,u,n⟩,fun q=>w (q.up (Xq _ _)),fun q=>v (q.up (Xq _ _))⟩
 ·have:=(p c g u).2;rw[n,show((t:Int)).toNat=t by omega] at this;omega
def KG (h:Bg H G B) {kind:Int} (u:k<2) (hs:kind=3\/kind=4):∀ j,(H.ax i kind k).head k=Bs j->¬Ed (lg (H.ax i kind k) k j) i:=fun j d=>by
 rw[(AT.ax H i kind k).head] at d;rw[Ie d];have n:∀ l,Aj l kind i->¬Ed l i:=fun l hl c=>by
  rcases hs with e|e <;> subst e
  ·exact c.2.1 hl
  ·exact c.2.2 hl
 split
 ·have f:=q54 (b:=Jx) d (h.s.room h.a.bj h.a.wf.bz (by omega) d (tellC H i kind) Jx) (h.s.dn k j (by omega) d);rw[f.lg,if_pos ⟨rfl,rfl⟩];exact n _ ⟨_,WZ _ (List.mem_singleton.2 rfl),rfl,rfl⟩
 ·rename_i g;intro c;refine g ⟨PB.2 (fun hl=>n _ hl c),fun q=>PB.1 q c.1⟩
def qb1 {kind:Int} (u:1<=i) (BD:kind=3\/kind=4):∀ (ks:List Nat) {H:Hs},Bg H G B->i<=H.m->(∀ k∈ks,k<2)->((kind=3/\(H.tx i).state=3)\/(kind=4/\(H.tx i).state=4))->∀ k∈ks,∀ j,(telld H i kind ks).head k=Bs j->¬Ed (lg (telld H i kind ks) k j) i
 | [],_,_,_,_,_=>fun _ h=>(nomatch h)
 | k::ks,H,h,hi,hk,hs=>fun q n=>by
  have e:=DF H i kind k;have v:=Ss.tell u hi (hk k VH) hs;have c:(kind=3/\((H.ax i kind k).tx i).state=3)\/(kind=4/\((H.ax i kind k).tx i).state=4):=by rw[(e.2.2.2.2 i).1];exact hs
  have f:i<=(H.ax i kind k).m:=by rw[e.2.2.1];exact hi
  have d:∀ x∈ks,x<2:=fun x w=>hk x (VI _ w)
  rcases List.mem_cons.1 n with rfl|n
  ·exact(q8j u ks f d c).noOpn (c.imp (fun g=>g.2) (fun g=>g.2)) (KG h (hk _ VH) BD)
  ·exact qb1 u BD ks (h.ss v) f d c q n
def Ei.of {K R:Hs} (d:Ei K t) (s:Cr K R) (f:(R.tx t).state=(K.tx t).state):Ei R t:=by
 refine⟨fun g k e=>?_,fun c k e=>?_⟩
 ·rw[s.bE.af] at e;rw[f] at g;exact s.has (d.1 g k e)
 ·rw[s.bE.af] at e;rw[f] at c;exact s.noOpn c (d.2 c k e)
def qb9 (b:Nat->Bool) (h:Bg H G B) (A:1<=i) (x:i<=H.m):Cr H (H.av i b).1/\((H.av i b).2=Jx->Ei (H.av i b).1 i):=by
 have f:=(q1v H i b).1;have n:=f.no;unfold Hs.av at n ⊢;split
 ·rename_i w;rw[if_pos w] at n;obtain⟨q,v⟩:=Uj b h A x w;refine⟨q,fun e=>⟨fun _ k d=>?_,fun g=>?_⟩⟩
  ·rw[q.bE.af] at d;exact v e k d
  ·have:=n e;omega
 ·rename_i w;have c:∀ kind:Int,kind=3\/kind=4->((kind=3/\(H.tx i).state=3)\/(kind=4/\(H.tx i).state=4))->Cr H (H.aS i kind)/\Ei (H.aS i kind) i:=fun kind d hs=>by
   have C:Cr H (H.aS i kind):=q8j A _ x (fun k d=>BR d) hs;have D:((H.aS i kind).tx i).state=(H.tx i).state:=((SP i kind _ H).2.2.2.2 i).1;refine⟨C,fun g=>?_,fun _ k u=>?_⟩
   ·omega
   ·rw[C.bE.af] at u;exact qb1 A d _ h x (fun k d=>BR d) hs k u
  split
  ·rename_i z;obtain⟨q,v⟩:=c 3 (.inl rfl) (.inl ⟨rfl,z⟩);exact⟨q,fun _=>v⟩
  ·rename_i z;split
   ·rename_i y;obtain⟨q,v⟩:=c 4 (.inr rfl) (.inr ⟨rfl,y⟩);exact⟨q,fun _=>v⟩
   ·rename_i y;exact⟨.refl H,fun _=>⟨fun g=>absurd g w,fun g=>g.elim (fun g=>absurd g z) (fun g=>absurd g y)⟩⟩
def q9h (bs:Nat->Nat->Bool):∀ (k i:Nat) (r:Hs×Bool),t<i->((Hs.round bs k i r).1.tx t).state=(r.1.tx t).state
 | 0,_,r,_=>rfl
 | k+1,i,r,h=>by
  have f:=(q1v r.1 i (bs i)).1;exact(q9h bs k (i+1) ((r.1.av i (bs i)).1,(r.1.av i (bs i)).2 || r.2) (by omega)).trans (f.other t (by omega))
def q6z (bs:Nat->Nat->Bool):∀ (k i:Nat) (r:Hs×Bool),Bg r.1 G B->1<=i->i+k<=r.1.m+1->
  Cr r.1 (Hs.round bs k i r).1/\((Hs.round bs k i r).2=Jx->r.2=Jx/\∀ t,i<=t->t<i+k->Ei (Hs.round bs k i r).1 t)
 | 0,i,r,_,_,_=>⟨.refl r.1,fun h=>⟨h,fun t f y=>by omega⟩⟩
 | k+1,i,r,h,f,x=>by
  obtain⟨c,u⟩:=qb9 (bs i) h f (show i<=r.1.m by omega);have sm:=c.star.sm;obtain⟨q1,g⟩:=q6z bs k (i+1) ((r.1.av i (bs i)).1,(r.1.av i (bs i)).2 || r.2) (Bg.c9 c h) (by omega) (by show _<=(r.1.av i (bs i)).1.m+1;rw[sm.m];omega);refine⟨c.trans q1,fun e=>?_⟩;obtain⟨d,w⟩:=g e;simp only[Bool.or_eq_false_iff] at d;refine⟨d.2,fun t q n=>?_⟩;by_cases v:t=i
  ·subst v;exact(u d.1).of q1 (q9h bs k (t+1) ((r.1.av t (bs t)).1,(r.1.av t (bs t)).2 || r.2) (by omega))
  ·exact w t (by omega) (by omega)
def On (h:DL H H'):Bg H G B->Cr H H'/\∀ t,1<=t->t<=H'.m->Ei H' t:=by
 induction h with
 | @stop H bs e=>
  intro h;obtain⟨c,q⟩:=q6z bs H.m 1 (H,Jx) h (K0 _) (by show 1+H.m<=H.m+1;omega);refine⟨c,fun t n d=>(q e).2 t n ?_⟩;rw[c.star.sm.m] at d;have d:t<=H.m:=d;omega
 | @more H H' bs e _ g=>
  intro h;obtain⟨c,_⟩:=q6z bs H.m 1 (H,Jx) h (K0 _) (by show 1+H.m<=H.m+1;omega);obtain⟨q1,f⟩:=g (Bg.c9 c h);exact⟨c.trans q1,f⟩
end
structure Nbr (a b:Nd):Prop where
 ep:b.aa=a.aa
 ab:a.a4 1=b.id
 ba:b.a4 (-1)=a.id
 at0:0<=a.at_
 d8:0<b.at_
 tl:a.tail=Jx
 ne:a.id≠b.id
def G5 (h:CX d c) (k b n:Int):c.msg k b n=d.msg k b n:=by
 obtain⟨q,g,f,e⟩:=h;unfold Nd.msg Nd.a4;rw[q,g,f,e]
def fwd_of (h:CX d c) (hl:d.log <+: c.log) (f:k<d.log.length):c.forward k=d.forward k:=by
 obtain⟨u,q,n,g⟩:=h;obtain⟨t,e⟩:=hl;unfold Nd.forward Nd.a4;rw[u,q,n,g,<- e,Wg f]
structure Bw (a b:Nd) (l:List Ms):Prop where
 le:b.log.length<=a.log.length
 fw:b.log.length=a.log.length\/(∃ n,a.msg 1 1 n∈l)\/(∃ n:Int,0<=n/\n<=b.log.length/\b.msg 2 (-1) n∈l)\/((Wh b.log.length (a.log.length-b.log.length)).map a.forward).Sublist l
 st:b.an<=a.an\/(∃ n:Int,b.an<=n/\0<=n/\b.msg 4 (-1) n∈l)\/(b.tail=Jx/\∃ m∈l,m.ai=4/\m.from_=b.a4 1/\m.a4=b.id/\m.aa=b.aa/\0<=m.n)
def KW (s n:Nat):Wh s (n+1)=Wh s n++[s+n]:=by
 rw[List.range'_concat];simp
def KX {s' n':Nat} (h:s<=s') (e:s+n=s'+n'):(Wh s' n').Sublist (Wh s n):=by
 obtain⟨k,rfl⟩:∃ k,s'=s+k:=⟨s'-s,by omega⟩
 obtain rfl:n=k+n':=by omega
 rw[List.range'_append_1.symm];exact YO _ _
section
variable {a b a' b':Nd} {l l' ms:List Ms} {m:Ms}
def Bw.more (h:Bw a b l) (ms:List Ms):Bw a b (l++ms):=
 ⟨h.le,h.fw.imp id (YQ (fun⟨n,g⟩=>⟨n,VT _ g⟩) (YQ (fun⟨n,d,c,e⟩=>⟨n,d,c,VT _ e⟩) (fun g=>g.trans (YV _ _)))),
  h.st.imp id (YQ (fun⟨n,d,c,e⟩=>⟨n,d,c,VT _ e⟩) (fun⟨f,x,d,c⟩=>⟨f,x,VT _ d,c⟩))⟩
def Bw.drop (q:Nbr a b) (h:Bw a b (m::l)) (v:m.a4≠a.id) (u:m.a4≠b.id):Bw a b l:=by
 have out:∀ {x:Ms},x∈m::l->x.a4≠m.a4->x∈l:=fun {x} y e=>by
  rcases List.mem_cons.1 y with g|g
  ·subst g;exact absurd rfl e
  ·exact g
 refine⟨h.le,?_,?_⟩
 ·rcases h.fw with g|⟨n,g⟩|⟨n,f,d,c⟩|g
  ·exact .inl g
  ·exact .inr (.inl ⟨n,out g (by show a.a4 1≠_;rw[q.ab];exact fun e=>u e.symm)⟩)
  ·exact .inr (.inr (.inl ⟨n,f,d,out c (by show b.a4 (-1)≠_;rw[q.ba];exact fun e=>v e.symm)⟩))
  ·refine .inr (.inr (.inr ?_));rcases List.sublist_cons_iff.1 g with g|⟨r,g,_⟩
   ·exact g
   ·exfalso;have z:m∈(Wh b.log.length (a.log.length-b.log.length)).map a.forward:=by rw[g];exact VH
    obtain⟨k,_,A⟩:=List.mem_map.1 z;exact u (by rw[<- A];exact q.ab)
 ·rcases h.st with g|⟨n,f,d,c⟩|⟨D,x,f,d,c,w,C⟩
  ·exact .inl g
  ·exact .inr (.inl ⟨n,f,d,out c (by show b.a4 (-1)≠_;rw[q.ba];exact fun e=>v e.symm)⟩)
  ·exact .inr (.inr ⟨D,x,out f (by rw[w];exact fun e=>u e.symm),d,c,w,C⟩)
inductive Gs (d:Nd) (m:Ms):Nd×List Ms->Prop where
 | none:Gs d m (d,[])
 | sync (hk:m.ai=1) (ha:0<d.at_) (hf:m.from_=d.a4 (-1)) (ht:m.a4=d.id) (he:m.aa=d.aa):Gs d m (d,[d.msg 2 (-1) d.log.length])
 | have_ (hk:m.ai=2) (ht2:d.tail=Jx) (hf:m.from_=d.a4 1) (h0:0<=m.n) (ht:m.a4=d.id) (he:m.aa=d.aa):Gs d m (d,(Wh m.n.toNat (d.log.length-m.n.toNat)).map d.forward)
 | fwd (hk:m.ai=3) (ha:0<d.at_) (hf:m.from_=d.a4 (-1)) (hn:m.n=d.log.length) (ht:m.a4=d.id) (he:m.aa=d.aa):Gs d m (d.grow m.cmd)
 | stab (hk:m.ai=4) (ht2:d.tail=Jx) (hf:m.from_=d.a4 1) (h0:0<=m.n) (hle:m.n<=d.log.length) (ht:m.a4=d.id) (he:m.aa=d.aa) :
   Gs d m ({ d with an:=max d.an m.n },if d.at_ > 0 then [d.msg 4 (-1) (max d.an m.n)] else [])
def Fp (d:Nd) (m:Ms):Gs d m (d.step m):=by
 unfold Nd.step;split
 ·exact .none
 ·rename_i q;simp only[not_or,XR] at q;obtain⟨v,n,g⟩:=q;simp only;split
  ·rename_i h;obtain⟨e,c⟩:=h;simp only[Wj,decide_eq_true_eq,beq_iff_eq] at c;exact .sync e c.1 c.2 g n
  ·split
   ·rename_i h;obtain⟨e,c,f⟩:=h;simp only[Wj,XE,beq_iff_eq] at c;exact .have_ e c.1 c.2 f g n
   ·split
    ·rename_i h;obtain⟨e,c,f,_⟩:=h;simp only[Wj,decide_eq_true_eq,beq_iff_eq] at c;exact .fwd e c.1 c.2 f g n
    ·split
     ·rename_i h;obtain⟨e,c,f,u⟩:=h;simp only[Wj,XE,beq_iff_eq] at c;exact .stab e c.1 c.2 f u g n
     ·exact .none
def N0 (e:m.ai=1) (h:0<d.at_) (f:m.from_=d.a4 (-1)) (c:m.a4=d.id) (g:m.aa=d.aa):d.step m=(d,[d.msg 2 (-1) d.log.length]):=by
 unfold Nd.step;rw[if_neg (by simp only[not_or,XR];exact⟨by omega,g,c⟩)];simp only;rw[if_pos ⟨e,by simp only[Wj,decide_eq_true_eq,beq_iff_eq];exact⟨h,f⟩⟩]
def N1 (f:m.ai=2) (u:0<=d.at_) (c:d.tail=Jx) (g:m.from_=d.a4 1) (q:0<=m.n) (e:m.a4=d.id) (n:m.aa=d.aa):d.step m=(d,(Wh m.n.toNat (d.log.length-m.n.toNat)).map d.forward):=by
 unfold Nd.step;rw[if_neg (by simp only[not_or,XR];exact⟨by omega,n,e⟩)];simp only;rw[if_neg (by rintro ⟨h,_⟩;omega),if_pos ⟨f,by simp only[Wj,XE,beq_iff_eq];exact⟨c,g⟩,q⟩]
def Qv (f:m.ai=3) (q:0<d.at_) (g:m.from_=d.a4 (-1)) (e:m.n=d.log.length) (u:m.n<500) (c:m.a4=d.id) (n:m.aa=d.aa):d.step m=d.grow m.cmd:=by
 unfold Nd.step;rw[if_neg (by simp only[not_or,XR];exact⟨by omega,n,c⟩)];simp only;rw[if_neg (by rintro ⟨h,_⟩;omega),if_neg (by rintro ⟨h,_⟩;omega),if_pos ⟨f,by simp only[Wj,decide_eq_true_eq,beq_iff_eq];exact⟨q,g⟩,e,u⟩]
def Fo (g:m.ai=4) (v:0<=d.at_) (c:d.tail=Jx) (n:m.from_=d.a4 1) (u:0<=m.n) (e:m.n<=d.log.length) (f:m.a4=d.id) (q:m.aa=d.aa) :
  d.step m=({ d with an:=max d.an m.n },if d.at_ > 0 then [d.msg 4 (-1) (max d.an m.n)] else []):=by
 unfold Nd.step;rw[if_neg (by simp only[not_or,XR];exact⟨by omega,q,f⟩)];simp only;rw[if_neg (by rintro ⟨h,_⟩;omega),if_neg (by rintro ⟨h,_⟩;omega),if_neg (by rintro ⟨h,_⟩;omega),if_pos ⟨g,by simp only[Wj,XE,beq_iff_eq];exact⟨c,n⟩,u,e⟩]
def U2 (d:Nd) (c:Cm):(d.tail=Jx/\d.grow c=(d.push c,[(d.push c).forward d.log.length]))\/(d.tail=VJ/\(d.grow c).1.log=d.log++[c]/\(0<=d.at_->(d.grow c).1.an=(d.log++[c]).length/\(d.grow c).2=if d.at_ > 0 then [d.msg 4 (-1) (d.log++[c]).length] else [])):=by
 cases f:d.tail with
 | false=>refine .inl ⟨rfl,?_⟩;unfold Nd.grow;rw[f];rfl
 | true=>
  refine .inr ⟨rfl,U1 d c,fun g=>?_⟩;unfold Nd.grow;rw[f,if_pos rfl];unfold Nd.tick;have e:(d.push c).tail=VJ:=f;rw[if_neg (by show ¬d.at_<0;omega),e,if_pos rfl];exact⟨rfl,rfl⟩
def Bw.grow (u:Nbr a b) (h:Bw a b l) (c:Cm):Bw (a.grow c).1 b (l++(a.grow c).2):=by
 rcases U2 a c with ⟨_,e⟩|⟨e,_⟩
 ·rw[e];have f:a.log <+: (a.push c).log:=Xq _ _;have q:CX a (a.push c):=⟨rfl,rfl,rfl,rfl⟩
  have d:(a.push c).log.length=a.log.length+1:=by show(a.log++[c]).length=_;simp
  have x:=h.more [(a.push c).forward a.log.length];refine⟨by rw[d];have:=h.le;omega,?_,x.st⟩;rw[d];rcases h.fw with g|⟨n,g⟩|⟨n,A,z,y⟩|g
  ·refine .inr (.inr (.inr ?_));rw[g,show a.log.length+1-a.log.length=1 by omega];exact YO _ _
  ·exact .inr (.inl ⟨n,VT _ (by rw[G5 q];exact g)⟩)
  ·exact .inr (.inr (.inl ⟨n,A,z,VT _ y⟩))
  ·refine .inr (.inr (.inr ?_));have v:=h.le;rw[show a.log.length+1-b.log.length=(a.log.length-b.log.length)+1 by omega,KW,List.map_append,show b.log.length+(a.log.length-b.log.length)=a.log.length by omega];refine List.Sublist.append ?_ (XC _);rw[X9 (g:=a.forward) (fun k w=>fwd_of q f (by rw[Xz] at w;omega))];exact g
 ·rw[u.tl] at e;cases e
def q9z {x:Ms} (c:x∈m::l) (e:x.a4≠m.a4):x∈l:=by
 rcases List.mem_cons.1 c with g|g
 ·subst g;exact absurd rfl e
 ·exact g
def Bw.atA (f:Nbr a b) (h:Bw a b (m::l)) (J:m.a4=a.id) (K:m.ai=4->m.aa=a.aa->m.from_=b.id->m.n<=a.log.length):Bw (a.step m).1 b (l++(a.step m).2):=by
 have y:m.a4≠b.id:=by rw[J];exact f.ne
 have Y:∀ r:List Nat,(r.map a.forward).Sublist (m::l)->(r.map a.forward).Sublist l:=fun r g=>by
  rcases List.sublist_cons_iff.1 g with g|⟨q,g,_⟩
  ·exact g
  ·exfalso;have V:m∈r.map a.forward:=by rw[g];exact VH
   obtain⟨k,_,X⟩:=List.mem_map.1 V;exact y (by rw[<- X];exact f.ab)
 have N:(¬∃ n:Int,0<=n/\n<=b.log.length/\b.msg 2 (-1) n=m)->(b.log.length=a.log.length\/(∃ n,a.msg 1 1 n∈l)\/(∃ n:Int,0<=n/\n<=b.log.length/\b.msg 2 (-1) n∈l)\/((Wh b.log.length (a.log.length-b.log.length)).map a.forward).Sublist l):=fun A=>by
  rcases h.fw with g|⟨n,g⟩|⟨n,w,v,d⟩|g
  ·exact .inl g
  ·exact .inr (.inl ⟨n,q9z g (by show a.a4 1≠_;rw[f.ab];exact fun e=>y e.symm)⟩)
  ·rcases List.mem_cons.1 d with d|d
   ·exact absurd ⟨n,w,v,d⟩ A
   ·exact .inr (.inr (.inl ⟨n,w,v,d⟩))
  ·exact .inr (.inr (.inr (Y _ g)))
 have C:(¬∃ n:Int,b.an<=n/\0<=n/\b.msg 4 (-1) n=m)->(b.an<=a.an\/(∃ n:Int,b.an<=n/\0<=n/\b.msg 4 (-1) n∈l)\/(b.tail=Jx/\∃ m∈l,m.ai=4/\m.from_=b.a4 1/\m.a4=b.id/\m.aa=b.aa/\0<=m.n)):=fun A=>by
  rcases h.st with g|⟨n,w,v,d⟩|⟨M,x,w,v,d,R,g5⟩
  ·exact .inl g
  ·rcases List.mem_cons.1 d with d|d
   ·exact absurd ⟨n,w,v,d⟩ A
   ·exact .inr (.inl ⟨n,w,v,d⟩)
  ·exact .inr (.inr ⟨M,x,q9z w (by rw[R];exact fun e=>y e.symm),v,d,R,g5⟩)
 have u:=h.le;by_cases Q:∃ n:Int,0<=n/\n<=b.log.length/\b.msg 2 (-1) n=m
 ·obtain⟨n,h0,A,e⟩:=Q;have O:m.ai=2/\m.from_=b.id/\m.aa=b.aa/\m.n=n:=by rw[<- e];exact⟨rfl,rfl,rfl,rfl⟩
  obtain⟨I,E,D,S⟩:=O;rw[N1 I f.at0 f.tl (E.trans f.ab.symm) (by omega) J (D.trans f.ep)];refine⟨u,.inr (.inr (.inr ?_)),?_⟩
  ·refine List.Sublist.trans ?_ (YO _ _);have h6:b.log.length<=a.log.length:=u;have Z:m.n.toNat<=b.log.length:=by omega
   exact(KX (s:=m.n.toNat) (s':=b.log.length) (n:=a.log.length-m.n.toNat) (n':=a.log.length-b.log.length) Z (by omega)).map _
  ·have g:=C (fun⟨n,_,_,e2⟩=>by have:=congrArg Ms.ai e2;have e3:(4:Int)=m.ai:=this;omega);exact g.imp id (YQ (fun⟨n,w,v,d⟩=>⟨n,w,v,VT _ d⟩) (fun⟨M,x,w,v⟩=>⟨M,x,VT _ w,v⟩))
 ·have L:=N Q;by_cases hs:∃ n:Int,b.an<=n/\0<=n/\b.msg 4 (-1) n=m
  ·obtain⟨n,h1,h0,e⟩:=hs;have O:m.ai=4/\m.from_=b.id/\m.aa=b.aa/\m.n=n:=by rw[<- e];exact⟨rfl,rfl,rfl,rfl⟩
   obtain⟨I,E,D,S⟩:=O;have A:=K I (D.trans f.ep) E;rw[Fo I f.at0 f.tl (E.trans f.ab.symm) (by omega) A J (D.trans f.ep)];have z:Bw { a with an:=max a.an m.n } b l:=⟨u,L,.inl (by show b.an<=max a.an m.n;omega)⟩
   exact z.more _
  ·have z:Bw a b l:=⟨u,L,C hs⟩
   generalize U:a.step m=r;have c:=Fp a m;rw[U] at c;cases c with
   | none=>exact z.more _
   | sync=>exact z.more _
   | have_=>exact z.more _
   | fwd=>exact z.grow f _
   | stab=>
    have h3:Bw { a with an:=max a.an m.n } b l:=⟨u,L,z.st.imp (fun g=>by show b.an<=max a.an m.n;omega) id⟩
    exact h3.more _
def Bw.atB (v:Nbr a b) (h:Bw a b (m::l)) (X:m.a4=b.id) (h5:a.log.length<500) (a2:m.ai=3->m.aa=b.aa->m.from_=a.id->∃ k:Nat,m.n=k/\a.log[k]? = Bs m.cmd) (a0:m.ai=4->m.aa=b.aa->m.from_=b.a4 1->b.tail=Jx->m.n<=b.log.length) :
  Bw a (b.step m).1 (l++(b.step m).2):=by
 have J:m.a4≠a.id:=by rw[X];exact fun e=>v.ne e.symm
 have E:=h.le;have a3:(¬∃ n,a.msg 1 1 n=m)->(b.log.length<a.log.length->a.forward b.log.length≠m)->(b.log.length=a.log.length\/(∃ n,a.msg 1 1 n∈l)\/(∃ n:Int,0<=n/\n<=b.log.length/\b.msg 2 (-1) n∈l)\/((Wh b.log.length (a.log.length-b.log.length)).map a.forward).Sublist l):=fun h1 N=>by
  rcases h.fw with g|⟨n,g⟩|⟨n,d,f,u⟩|g
  ·exact .inl g
  ·rcases List.mem_cons.1 g with g|g
   ·exact absurd ⟨n,g⟩ h1
   ·exact .inr (.inl ⟨n,g⟩)
  ·exact .inr (.inr (.inl ⟨n,d,f,q9z u (by show b.a4 (-1)≠_;rw[v.ba];exact fun e=>J e.symm)⟩))
  ·by_cases e:b.log.length=a.log.length
   ·exact .inl e
   ·rcases List.sublist_cons_iff.1 g with g|⟨q,g,_⟩
    ·exact .inr (.inr (.inr g))
    ·exfalso;obtain⟨k,A⟩:∃ k,a.log.length-b.log.length=k+1:=⟨a.log.length-b.log.length-1,by omega⟩
     rw[A,List.range'_succ,WH] at g;injection g with g _;exact N (by omega) g
 have D:¬(b.tail=Jx/\m.ai=4/\m.from_=b.a4 1/\m.aa=b.aa/\0<=m.n)->(b.an<=a.an\/(∃ n:Int,b.an<=n/\0<=n/\b.msg 4 (-1) n∈l)\/(b.tail=Jx/\∃ m∈l,m.ai=4/\m.from_=b.a4 1/\m.a4=b.id/\m.aa=b.aa/\0<=m.n)):=fun hn=>by
  rcases h.st with g|⟨n,d,f,u⟩|⟨O,x,d,f,u,g4,g5⟩
  ·exact .inl g
  ·exact .inr (.inl ⟨n,d,f,q9z u (by show b.a4 (-1)≠_;rw[v.ba];exact fun e=>J e.symm)⟩)
  ·rcases List.mem_cons.1 d with d|d
   ·subst d;exact absurd ⟨O,f,u,g5⟩ hn
   ·exact .inr (.inr ⟨O,x,d,f,u,g4,g5⟩)
 have z:b.log.length<a.log.length->((∃ n,a.msg 1 1 n∈l)\/(∃ n:Int,0<=n/\n<=b.log.length/\b.msg 2 (-1) n∈l)\/((Wh (b.log.length+1) (a.log.length-(b.log.length+1))).map a.forward).Sublist l)->
   (b.an<=a.an\/(∃ n:Int,b.an<=n/\0<=n/\b.msg 4 (-1) n∈l)\/(b.tail=Jx/\∃ m∈l,m.ai=4/\m.from_=b.a4 1/\m.a4=b.id/\m.aa=b.aa/\0<=m.n))->Bw a (b.grow m.cmd).1 (l++(b.grow m.cmd).2):=fun w U hs=>by
  have hE:=CX.grow b m.cmd;have R:=U1 b m.cmd;have y:(b.grow m.cmd).1.log.length=b.log.length+1:=by rw[R];simp
  have C:=fun k c n=>G5 hE k c n
  have S:∀ ms,(b.grow m.cmd).1.log.length=a.log.length\/(∃ n,a.msg 1 1 n∈l++ms)\/(∃ n:Int,0<=n/\n<=(b.grow m.cmd).1.log.length/\(b.grow m.cmd).1.msg 2 (-1) n∈l++ms)\/((Wh (b.grow m.cmd).1.log.length (a.log.length-(b.grow m.cmd).1.log.length)).map a.forward).Sublist (l++ms):=fun ms=>by
   rw[y];rcases U with ⟨n,g⟩|⟨n,d,f,u⟩|g
   ·exact .inr (.inl ⟨n,VT _ g⟩)
   ·exact .inr (.inr (.inl ⟨n,d,by omega,VT _ (by rw[C];exact u)⟩))
   ·exact .inr (.inr (.inr (g.trans (YV _ _))))
  rcases U2 b m.cmd with ⟨e,V⟩|⟨e,_,V⟩
  ·refine⟨by rw[y];omega,S _,?_⟩;rw[V];show b.an<=a.an\/(∃ n:Int,b.an<=n/\0<=n/\b.msg 4 (-1) n∈_)\/(b.tail=Jx/\∃ m:Ms,m∈_/\m.ai=4/\m.from_=b.a4 1/\m.a4=b.id/\m.aa=b.aa/\0<=m.n);exact hs.imp id (YQ (fun⟨n,d,f,u⟩=>⟨n,d,f,VT _ u⟩) (fun⟨O,x,d,f⟩=>⟨O,x,VT _ d,f⟩))
  ·obtain⟨e3,e4⟩:=V (by have:=v.d8;omega);refine⟨by rw[y];omega,S _,.inr (.inl ⟨((b.log++[m.cmd]).length:Nat),by rw[e3];exact WD _,by omega,?_⟩)⟩;rw[e4,if_pos v.d8,C];exact WZ _ (List.mem_singleton.2 rfl)
 by_cases w1:∃ n,a.msg 1 1 n=m
 ·obtain⟨n,e⟩:=w1;have Y:m.ai=1/\m.from_=a.id/\m.aa=a.aa:=by rw[<- e];exact⟨rfl,rfl,rfl⟩
  obtain⟨M,L,K⟩:=Y;rw[N0 M v.d8 (L.trans v.ba.symm) X (K.trans v.ep.symm)];have hs:=D (fun⟨_,g,_⟩=>by omega);refine⟨E,.inr (.inr (.inl ⟨(b.log.length:Nat),by omega,WD _,WZ _ (List.mem_singleton.2 rfl)⟩)),?_⟩;exact hs.imp id (YQ (fun⟨n,d,f,u⟩=>⟨n,d,f,VT _ u⟩) (fun⟨O,x,d,f⟩=>⟨O,x,VT _ d,f⟩))
 ·by_cases w2:b.log.length<a.log.length/\a.forward b.log.length=m
  ·obtain⟨w,e⟩:=w2;have Y:m.ai=3/\m.from_=a.id/\m.aa=a.aa/\m.n=b.log.length:=by rw[<- e];exact⟨rfl,rfl,rfl,rfl⟩
   obtain⟨M,L,K,k4⟩:=Y;rw[Qv M v.d8 (L.trans v.ba.symm) k4 (by omega) X (K.trans v.ep.symm)];refine z w ?_ (D (fun⟨_,g,_⟩=>by omega));rcases h.fw with g|⟨n,g⟩|⟨n,d,f,u⟩|g
   ·omega
   ·rcases List.mem_cons.1 g with g|g
    ·exact absurd ⟨n,g⟩ w1
    ·exact .inl ⟨n,g⟩
   ·exact .inr (.inl ⟨n,d,f,q9z u (by show b.a4 (-1)≠_;rw[v.ba];exact fun e=>J e.symm)⟩)
   ·refine .inr (.inr ?_);obtain⟨k,A⟩:∃ k,a.log.length-b.log.length=k+1:=⟨a.log.length-b.log.length-1,by omega⟩
    rw[A,List.range'_succ,WH] at g;rw[show a.log.length-(b.log.length+1)=k by omega];rcases List.sublist_cons_iff.1 g with g|⟨q,g,f⟩
    ·exact(Y7 _ _).trans g
    ·injection g with _ g;rw[g];exact f
  ·have U:=a3 w1 (fun w e=>w2 ⟨w,e⟩);by_cases Z:b.tail=Jx/\m.ai=4/\m.from_=b.a4 1/\m.aa=b.aa/\0<=m.n
   ·obtain⟨k0,M,L,K,k4⟩:=Z;rw[Fo M (by have:=v.d8;omega) k0 L k4 (a0 M K L k0) X K,if_pos v.d8];refine⟨E,?_,.inr (.inl ⟨max b.an m.n,WD _,by omega,WZ _ (List.mem_singleton.2 rfl)⟩)⟩;exact U.imp id (YQ (fun⟨n,g⟩=>⟨n,VT _ g⟩) (YQ (fun⟨n,d,f,u⟩=>⟨n,d,f,VT _ u⟩) (fun g=>g.trans (YV _ _))))
   ·have N:Bw a b l:=⟨E,U,D Z⟩
    generalize hr:b.step m=r;have c:=Fp b m;rw[hr] at c;cases c with
    | none=>exact N.more _
    | sync=>exact N.more _
    | have_=>exact N.more _
    | fwd A ha I hn Q he=>
     obtain⟨k,Y,V⟩:=a2 A he (I.trans v.ba);have a1:k=b.log.length:=by omega
     subst a1;have w:=(List.getElem?_eq_some_iff.1 V).1;refine z w ?_ N.st;rcases U with g|g|g|g
     ·omega
     ·exact .inl g
     ·exact .inr (.inl g)
     ·refine .inr (.inr ?_);obtain⟨k,A⟩:∃ k,a.log.length-b.log.length=k+1:=⟨a.log.length-b.log.length-1,by omega⟩
      rw[A,List.range'_succ,WH] at g;rw[show a.log.length-(b.log.length+1)=k by omega];exact(Y7 _ _).trans g
    | stab A Q I h0 a5 a4 he=>exact absurd ⟨Q,A,I,he,h0⟩ Z
end
def wM (m:Ms):Nat:=if m.ai=1\/m.ai=2 then 16 else 1
def CY (l:List Ms):Nat:=(l.map wM).sum
def KA (m:Ms):1<=wM m:=by unfold wM;split <;> omega
def q2y (a b:List Ms):CY (a++b)=CY a+CY b:=by unfold CY;simp
def q48 (m:Ms) (l:List Ms):CY (m::l)=wM m+CY l:=by unfold CY;simp
def q77:∀ l:List Ms,l.length<=CY l
 | []=>K0 _
 | m::l=>by rw[q48,Wl];have:=q77 l;have:=KA m;omega
def Io (d:Nd):∀ r:List Nat,CY (r.map d.forward)=r.length
 | []=>rfl
 | k::r=>by
  rw[WH,q48,Io d r];have:wM (d.forward k)=1:=rfl;rw[this,Wl];omega
def hl (H:Hs) (s:Nat):Nat:=match H.head s with
 | some j=>(lg H s j).length
 | none=>0
def U6 (H:Hs):Nat:=CY H.net.l+((16-hl H 0)+(16-hl H 1)+(16-hl H 2))
def M7 {H:Hs} (h:H.head s=Bs j):hl H s=(lg H s j).length:=by unfold hl;rw[h]
structure Bo (H:Hs):Prop where
 cfg:∀ s,s<3->Cfg H s ((H.sh s).ah H.n)
 ne:∀ s,s<3->(H.sh s).ah H.n≠[]
 n3:H.n<=3
 m8:H.m<=8
section
variable {H H':Hs} {G:Gh} {B:Int} {s j:Nat} {m:Ms} {ms:List Ms}
def Bo.aR (h:Bo H) (c:AT H H') (d:H'.m=H.m):Bo H':=
 ⟨fun s hs=>by rw[c.live];exact c.cfg (h.cfg s hs),fun s hs=>by rw[c.live];exact h.ne s hs,by rw[c.n];exact h.n3,by rw[d];exact h.m8⟩
def TT (x:Bg H G B) (hs:s<3) (hl:Lv H s j):(lg H s j).length<=2*H.m:=by
 have S:=(x.s.wl s j hs hl).2;have J:=fun c n=>x.a.ai hs hl (c:=c) n
 have v:∀ c∈lg H s j,∀ d∈lg H s j,c.ai=3->d.ai=4->c.tx≠d.tx:=fun c n d N e3 e4 e=>by
  by_cases O:s<2
  ·obtain⟨p,V⟩:=List.mem_iff_getElem?.1 n;obtain⟨q,U⟩:=List.mem_iff_getElem?.1 N;obtain⟨_,w⟩:=x.a.bj.pl s O j hl p c V;obtain⟨_,u⟩:=x.a.bj.pl s O j hl q d U;have Z:Qp H c.tx=3:=by
    rcases w with w|w|w
    ·omega
    ·exact w.2.1
    ·omega
   have e6:Qp H d.tx=4:=by
    rcases u with u|u|u
    ·omega
    ·omega
    ·exact u.2
   rw[e] at Z;omega
  ·obtain rfl:s=2:=by omega
   have:=(x.a.bj.p2 j hl d N).2.1;omega
 have I:((lg H s j).map fun c:Cm=>((if c.ai=2 then 0 else(H.m:Int))+(c.tx-1)).toNat).Nodup:=by
  rw[Yw,W8,List.pairwise_iff_getElem];intro i k Y M X e;have E:=S k (lg H s j)[k] (L1 M);have K:(lg H s j)[i]∈(lg H s j).take k:=List.mem_take_iff_getElem.2 ⟨i,by omega,rfl⟩;have D:=Wv Y;have C:=Wv M;obtain⟨f,a2,a3⟩:=J _ D;obtain⟨g,b2,b3⟩:=J _ C;have Q:=v _ D _ C;have n2:=v _ C _ D;refine E ⟨(lg H s j)[i],K,?_⟩;generalize (lg H s j)[i]=c at *;generalize (lg H s j)[k]=d at *;by_cases A:c.ai=2 <;> by_cases z:d.ai=2
  ·rw[if_pos A,if_pos z] at e;exact⟨by omega,by omega⟩
  ·rw[if_pos A,if_neg z] at e;omega
  ·rw[if_neg A,if_pos z] at e;omega
  ·rw[if_neg A,if_neg z] at e;have L:c.tx=d.tx:=by omega
   refine⟨?_,L⟩;rcases f with f|f|f <;> rcases g with g|g|g <;> first|omega|exact absurd L (Q f g)|exact absurd L.symm (n2 g f)
 have h:∀ y∈((lg H s j).map fun c:Cm=>((if c.ai=2 then 0 else(H.m:Int))+(c.tx-1)).toNat),y∈WS (2*H.m):=fun y R=>by
  obtain⟨c,n,rfl⟩:=List.mem_map.1 R;obtain⟨f,a2,a3⟩:=J c n;rw[List.mem_range];split <;> omega
 have:=WI I h;rw[We,List.length_range] at this;exact this
def Tq (x:Bg H G B) (w:Bo H) (hs:s<3) (hl:Lv H s j):(lg H s j).length<=16:=by
 have:=TT x hs hl;have:=w.m8;omega
def Bo.at_ (w:Bo H) (hs:s<3) (hl:Lv H s j):∃ p,At H s j ((H.sh s).ah H.n) p:=by
 obtain⟨f,e,p,d,c⟩:=(w.cfg s hs).nd j hl;exact⟨p,w.cfg s hs,d,c,e,f⟩
def Bo.cZ (w:Bo H) (hs:s<3) {p:Nat} (c:((H.sh s).ah H.n)[p]? = Bs j):At H s j ((H.sh s).ah H.n) p:=by
 obtain⟨q,a⟩:=w.at_ hs (ET.1 (S2 c));have e:p=q:=by
  rcases Nat.lt_trichotomy p q with e|e|e
  ·have:=(MQ a.cfg.sorted c a.ix).1 e;omega
  ·exact e
  ·have:=(MQ a.cfg.sorted a.ix c).1 e;omega
 subst e;exact a
def Bo.lv (_w:Bo H) {p:Nat} (c:((H.sh s).ah H.n)[p]? = Bs j):Lv H s j:=ET.1 (S2 c)
def Bo.nbr (w:Bo H) (x:Ad H B) (hs:s<3) {p a b:Nat} (e:((H.sh s).ah H.n)[p]? = Bs a) (d:((H.sh s).ah H.n)[p+1]? = Bs b):Nbr ((H.sh s).nd a) ((H.sh s).nd b):=by
 have c:=w.cZ hs e;have tb:=w.cZ hs d;have g:=x.ch.ids s a (by rw[x.c];exact hs) (w.lv e).1;have f:=x.ch.ids s b (by rw[x.c];exact hs) (w.lv d).1;have h:=(MQ c.cfg.sorted e d).1 (YK p);have hl:=(List.getElem?_eq_some_iff.1 d).1;refine⟨tb.aa.trans c.aa.symm,?_,?_,by rw[c.at_];omega,by rw[tb.at_];omega,by rw[c.tail];exact decide_eq_false (by omega),by rw[g,f];unfold BL;omega⟩
 ·rw[c.a4 (q:=p+1) (by omega) d,f]
 ·rw[tb.a4 (q:=p) (by omega) e,g]
def Bo.head (w:Bo H) (hs:s<3):∃ j,((H.sh s).ah H.n)[0]? = Bs j/\H.head s=Bs j:=by
 obtain⟨j,c⟩:∃ j,((H.sh s).ah H.n)[0]? = Bs j:=by
  cases e:(H.sh s).ah H.n with
  | nil=>exact absurd e (w.ne s hs)
  | cons a l=>exact⟨a,rfl⟩
 refine⟨j,c,?_⟩;have a:=w.cZ hs c;unfold Hs.head Bm.cy;cases e:(H.sh s).ah H.n with
 | nil=>exact absurd e (w.ne s hs)
 | cons i l=>
  rw[e] at c;obtain rfl:i=j:=by simpa using c
  rw[List.find?_cons_of_pos];rw[a.head];rfl
def Bo.head0 (w:Bo H) (hs:s<3) (c:H.head s=Bs j):((H.sh s).ah H.n)[0]? = Bs j:=by
 obtain⟨i,e,d⟩:=w.head hs;rw[d] at c;injection c with c;rw[<- c];exact e
def Gw (d:Nd) (ms:List Ms):Prop:=∀ m∈ms,m.from_=d.id/\((m.a4=d.a4 1/\d.tail=Jx)\/(m.a4=d.a4 (-1)/\0<d.at_))
def Gw.nil (d:Nd):Gw d []:=fun _ h=>(nomatch h)
def Gw.grow {d:Nd} (n:0<=d.at_) (c:Cm):Gw d (d.grow c).2:=by
 rcases U2 d c with ⟨e,g⟩|⟨_,_,g⟩
 ·rw[g];intro m f;rw[VW] at f;subst f;exact⟨rfl,.inl ⟨rfl,e⟩⟩
 ·rw[(g n).2];split
  ·rename_i h;intro m f;rw[VW] at f;subst f;exact⟨rfl,.inr ⟨rfl,h⟩⟩
  ·exact Gw.nil d
def Gw.step {d:Nd} (q:0<=d.at_) (m:Ms):Gw d (d.step m).2:=by
 have c:=Fp d m;generalize d.step m=r at c ⊢;cases c with
 | none=>exact Gw.nil d
 | sync g n v u w=>
  intro m e;have e:=List.mem_singleton.1 e;subst e;exact⟨rfl,.inr ⟨rfl,n⟩⟩
 | have_ g f=>
  intro m e;obtain⟨k,_,rfl⟩:=List.mem_map.1 e;exact⟨rfl,.inl ⟨rfl,f⟩⟩
 | fwd=>exact Gw.grow q _
 | stab=>
  show Gw d (if d.at_ > 0 then [d.msg 4 (-1) (max d.an m.n)] else []);split
  ·rename_i h;intro m e;have e:=List.mem_singleton.1 e;subst e;exact⟨rfl,.inr ⟨rfl,h⟩⟩
  ·exact Gw.nil d
def Gw.tick (d:Nd):Gw d d.tick.2:=by
 unfold Nd.tick;split
 ·exact Gw.nil d
 ·split
  ·show Gw d (if d.at_ > 0 then _ else []);split
   ·rename_i h;intro m c;have c:=List.mem_singleton.1 c;subst c;exact⟨rfl,.inr ⟨rfl,h⟩⟩
   ·exact Gw.nil d
  ·rename_i h;intro m c;have c:=List.mem_singleton.1 c;subst c;exact⟨rfl,.inl ⟨rfl,by simpa using h⟩⟩
def PY (f:0<=d.at_) (c:Cm):CY (d.grow c).2<=1:=by
 rcases U2 d c with ⟨_,e⟩|⟨_,_,e⟩
 ·rw[e];exact K0 _
 ·rw[(e f).2];split
  ·exact K0 _
  ·exact VN _
def w_step (g:0<=d.at_) (f:d.log.length<=16) (m:Ms):CY (d.step m).2<=wM m:=by
 have c:=Fp d m;generalize d.step m=r at c ⊢;cases c with
 | none=>exact VN _
 | sync e=>
  have:wM m=16:=by unfold wM;rw[if_pos (.inl e)]
  rw[this];exact K0 _
 | have_ e=>
  have:wM m=16:=by unfold wM;rw[if_pos (.inr e)]
  rw[this,Io,List.length_range'];omega
 | fwd=>exact VO (PY g _) (KA m)
 | stab=>
  refine VO ?_ (KA m);show CY (if d.at_ > 0 then _ else [])<=1;split
  ·exact K0 _
  ·exact VN _
def qcn (w:Bo H) (x:Ad H B) (hs:s<3) (hl:Lv H s j) (h:Gw ((H.sh s).nd j) ms):∀ m∈ms,H.net.ao m.from_=Jx/\H.net.ao m.a4=Jx:=fun m g=>by
 obtain⟨n,d⟩:=h m g;obtain⟨p,a⟩:=w.at_ hs hl;have f:∀ {i},Lv H s i->H.net.ao (BL s i)=Jx:=fun {i} c=>by
  rw[x.ch.dn s i (by rw[x.c];exact hs) c.1,<- x.ch.ids s i (by rw[x.c];exact hs) c.1];exact c.2
 refine⟨by rw[n,x.ch.ids s j (by rw[x.c];exact hs) hl.1];exact f hl,?_⟩;have u:=(List.getElem?_eq_some_iff.1 a.ix).1;rcases d with ⟨d,e⟩|⟨d,e⟩
 ·rw[a.tail,decide_eq_false_iff_not] at e;obtain⟨i,c⟩:∃ i,((H.sh s).ah H.n)[p+1]? = Bs i:=⟨_,L1 (by omega)⟩
  rw[d,a.a4 (q:=p+1) (by omega) c];exact f (w.lv c)
 ·rw[a.at_] at e;obtain⟨i,c⟩:∃ i,((H.sh s).ah H.n)[p-1]? = Bs i:=⟨_,L1 (by omega)⟩
  rw[d,a.a4 (q:=p-1) (by omega) c];exact f (w.lv c)
def q6y:∀ (ms:List Ms) (n:AW),(∀ m∈ms,n.ao m.from_=Jx/\n.ao m.a4=Jx)->n.l.length+ms.length<=200->(Em n ms).l=n.l++ms
 | [],n,_,_=>by simp[Em]
 | m::ms,n,hd,hl=>by
  have c:=hd m VH;rw[Wl] at hl;have e:AN n m = { n with l:=n.l++[m] }:=by
   unfold AN Cg;rw[if_neg (by simp[c.1,c.2];omega)]
  have d:=q6y ms (AN n m) (fun y f=>by rw[q4e];exact hd y (VI _ f)) (by rw[e];simp;omega);show(Em (AN n m) ms).l=_;rw[d,e];simp
end
structure CW (H:Hs):Prop where
 pair:∀ s,s<3->∀ p a b,((H.sh s).ah H.n)[p]? = Bs a->((H.sh s).ah H.n)[p+1]? = Bs b->Bw ((H.sh s).nd a) ((H.sh s).nd b) H.net.l
 tail:∀ s,s<3->∀ j,Lv H s j->((H.sh s).nd j).tail=VJ->((H.sh s).nd j).an=((lg H s j).length:Int)
 ph:U6 H<=200
section
variable {H H':Hs} {G:Gh} {B:Int} {s j:Nat} {m:Ms} {ms:List Ms}
def AK.head (h:AK H H') (k:Nat):H'.head k=H.head k:=Oh h.n (h.ao k) (fun j=>by rw[h.nd];exact⟨rfl,rfl⟩)
def AK.live (h:AK H H') (k:Nat):(H'.sh k).ah H'.n=(H.sh k).ah H.n:=by unfold Bm.ah;rw[h.n,h.ao,h.nd]
def CW.same (h:CW H) (c:AK H H'):CW H':=by
 have d:∀ s,hl H' s=hl H s:=fun s=>by unfold hl;rw[c.head];simp only[c.lg]
 refine⟨fun s hs p a b g f=>?_,fun s hs j n e=>?_,?_⟩
 ·rw[c.live] at g f;rw[c.nd,c.net];exact h.pair s hs p a b g f
 ·rw[c.lg,c.nd];rw[c.nd] at e;exact h.tail s hs j (c.lv.1 n) e
 ·unfold U6;rw[d,d,d,c.net];exact h.ph
def qck {net:AW} (hs:s<3) (f:CX ((H.sh s).nd j) d):let K:=((({ H with net:=net } : Hs).aq s j d).send ms).take s
  AT { H with net:=net } K/\(∀ a i,(K.sh a).nd i=if a=s/\i=j then d else(H.sh a).nd i)/\K.net=Em net ms:=by
 intro K;have t:=Bz.take ((({ H with net:=net } : Hs).aq s j d).send ms) s;refine⟨((AT.aq (H:={ H with net:=net }) (s:=s) (j:=j) f).trans (.send _ _)).trans (.take _ _),fun a i=>?_,t.net⟩;have e:(K.sh a).nd=((({ H with net:=net } : Hs).aq s j d).sh a).nd:=by
  by_cases g:a=s
  ·subst g;exact t.nd
  ·exact congrArg Bm.nd (t.sh a g)
 rw[e];by_cases g:a=s
 ·subst g;rw[D9];show Af (H.sh a).nd j d i=_;by_cases c:i=j
  ·subst c;rw[An,if_pos ⟨rfl,rfl⟩]
  ·rw[As c,if_neg (fun h=>c h.2)]
 ·rw[Ic _ j d g,if_neg (fun h=>g h.1)]
def J7 (c:Cm) (b:Bool) (d:(((H.sh s).nd j).add c b).2.2=0):(H.add s j c b).2=((({ H with net:=H.net } : Hs).aq s j (((H.sh s).nd j).grow c).1).send (((H.sh s).nd j).grow c).2).take s:=by
 unfold Hs.add;rw[if_neg (by simp[d]),(Oj d).1]
def CW.add (h:CW H) (w:Bo H) (x:Ad H B) (hs:s<3) (L:H.head s=Bs j) (c:Cm) (b:Bool) (U:(lg H s j).length+1<=16):CW (H.add s j c b).2:=by
 have N:=(Cu L).1;have R:(((H.sh s).nd j).add c b).2.2=0:=by
  unfold Nd.add;rw[(Cu L).2,if_neg (by simp),if_neg (by unfold lg at U;omega)]
 have Y:=w.head0 hs L;have aj:=w.cZ hs Y;have A:0<=((H.sh s).nd j).at_:=by rw[aj.at_];omega
 have hw:¬(H.add s j c b).1<0:=by
  unfold Hs.add;rw[if_neg (by simp[R])];have:=(Oj R).2;show ¬(((H.sh s).nd j).add c b).2.1<0;omega
 have v:=(QH hw).1;have Z:=PY A c;have E:=h.ph;have a1:=q77 H.net.l;have a2:=q77 (((H.sh s).nd j).grow c).2;have Q:=M7 L;have a0:H.net.l.length+1<=200:=by
  unfold U6 at E;have:s=0\/s=1\/s=2:=by omega
  rcases this with e|e|e <;> subst e <;> omega
 rw[J7 c b R] at v ⊢;obtain⟨D,n,J⟩:=qck (net:=H.net) (ms:=(((H.sh s).nd j).grow c).2) hs (CX.grow ((H.sh s).nd j) c);generalize hK:((({ H with net:=H.net } : Hs).aq s j (((H.sh s).nd j).grow c).1).send (((H.sh s).nd j).grow c).2).take s=K at *;have D:AT H K:=D;have I:K.net.l=H.net.l++(((H.sh s).nd j).grow c).2:=by
  rw[J];exact q6y _ _ (qcn w x hs N (Gw.grow A c)) (by omega)
 refine⟨fun t C p a e S u=>?_,fun t C i hi d=>?_,?_⟩
 ·rw[D.live] at S u;have X:=h.pair t C p a e S u;rw[I,n,n];have M:¬(t=s/\e=j):=fun⟨V,y⟩=>by
   subst V y;have:=(MQ (w.cfg t C).sorted Y u).1 (by omega);omega
  rw[if_neg M];split
  ·rename_i g;obtain⟨V,y⟩:=g;subst V y;exact X.grow (w.nbr x C S u) c
  ·exact X.more _
 ·unfold lg;rw[n] at d ⊢;have O:=D.lv.1 hi;split
  ·rename_i g;rw[if_pos g] at d;rcases U2 ((H.sh s).nd j) c with ⟨y,_⟩|⟨y,g3,g4⟩
   ·exfalso;have:=(CX.grow ((H.sh s).nd j) c)
    unfold Nd.tail at d y;rw[this.2.2.1,this.2.2.2] at d;rw[d] at y;cases y
   ·rw[(g4 A).1,g3]
  ·rename_i g;rw[if_neg g] at d;exact h.tail t C i O d
 ·have f:∀ t,t≠s->t<3->hl K t=hl H t:=fun t e C=>by
   unfold hl;rw[D.head];cases H.head t with
   | none=>rfl
   | some q=>simp only;unfold lg;rw[n,if_neg (fun g=>e g.1)]
  have z:hl K s=hl H s+1:=by
   rw[Q,M7 ((D.head s).trans L),v];simp
  unfold U6 at E ⊢;rw[I,q2y];have:s=0\/s=1\/s=2:=by omega
  rcases this with e|e|e <;> subst e
  ·rw[f 1 (by omega) (by omega),f 2 (by omega) (by omega),z];omega
  ·rw[f 0 (by omega) (by omega),f 2 (by omega) (by omega),z];omega
  ·rw[f 0 (by omega) (by omega),f 1 (by omega) (by omega),z];omega
def CW.arrive (h:CW H) (w:Bo H) (x:Bg H G B) {rest:List Ms} (O:H.net.l=m::rest):CW (({ H with net:=takeS H.net 0 } : Hs).arrive m):=by
 have a0:takeS H.net 0=⟨rest,H.net.ao⟩:=by unfold takeS;rw[O];rfl
 have E:m∈H.net.l:=by rw[O];exact VH
 have ids:∀ {t i},t<3->Lv H t i->((H.sh t).nd i).id=BL t i:=fun {t i} d v=>x.a.ch.ids t i (by rw[x.a.c];exact d) v.1
 have u:=h.ph;cases X:Hs.node { H with net:=takeS H.net 0 } m.a4 with
 | none=>
  rw[Ig X,a0];have a2:∀ t i,t<3->Lv H t i->((H.sh t).nd i).id≠m.a4:=fun t i d v e=>by
   unfold Hs.node at X;rw[Y0] at X;refine X (t,i) ?_ (by simpa using e);rw[List.mem_flatMap];refine⟨t,?_,List.mem_map.2 ⟨i,ET.2 v,rfl⟩⟩;have:t=0\/t=1\/t=2:=by omega
   rcases this with e|e|e <;> subst e <;> simp
  refine⟨fun t d p a e J y=>?_,fun t d i v f=>h.tail t d i v f,?_⟩
  ·have N:=h.pair t d p a e J y;rw[O] at N;exact N.drop (w.nbr x.a d J y) (fun g=>a2 t a d (w.lv J) g.symm) (fun g=>a2 t e d (w.lv y) g.symm)
  ·unfold U6 at u ⊢;rw[O,q48] at u;show CY rest+((16-hl H 0)+(16-hl H 1)+(16-hl H 2))<=200;omega
 | some r=>
  obtain⟨s,j⟩:=r;obtain⟨hs,n,I⟩:=q3y (H:={ H with net:=takeS H.net 0 }) x.a.c X;have C:s<3:=by have:=x.a.c;have hs:s<H.c:=hs;omega
  have n:Lv H s j:=n;have I:((H.sh s).nd j).id=m.a4:=I;obtain⟨q,aj⟩:=w.at_ C n;have U:0<=((H.sh s).nd j).at_:=by rw[aj.at_];omega
  have a8:=Tq x w C n;have a9:=w_step U a8 m;rw[Ih X];obtain⟨cf,L,a4⟩:=qck (net:=takeS H.net 0) (ms:=(((H.sh s).nd j).step m).2) C (CX.step ((H.sh s).nd j) m);show CW (((({ H with net:=takeS H.net 0 } : Hs).aq s j (((H.sh s).nd j).step m).1).send (((H.sh s).nd j).step m).2).take s);generalize hK:((({ H with net:=takeS H.net 0 } : Hs).aq s j (((H.sh s).nd j).step m).1).send (((H.sh s).nd j).step m).2).take s=K at *;have a3:K.net.l=rest++(((H.sh s).nd j).step m).2:=by
   rw[a4,a0];refine q6y _ _ (qcn w x.a C n (Gw.step U m)) ?_;have l1:=q77 rest;have l2:=q77 (((H.sh s).nd j).step m).2;unfold U6 at u;rw[O,q48] at u;show rest.length+_<=200;omega
  have Q:∀ k,(K.sh k).ah K.n=(H.sh k).ah H.n:=fun k=>cf.live k
  have S:∀ k,K.head k=H.head k:=fun k=>cf.head k
  refine⟨fun t d p a e J y=>?_,fun t d i v f=>?_,?_⟩
  ·rw[Q] at J y;have N:=h.pair t d p a e J y;rw[O] at N;have nb:=w.nbr x.a d J y;have Y:=w.lv J;have le:=w.lv y;rw[a3,L,L];have a7:a≠e:=fun g=>by
    have:=(MQ (w.cfg t d).sorted J y).1 (by omega);omega
   by_cases ga:t=s/\a=j
   ·rw[if_pos ga,if_neg (fun g=>a7 (ga.2.trans g.2.symm))];obtain⟨M,z⟩:=ga;subst M z;refine N.atA nb I.symm (fun k4 Z V=>?_);have hI:=(x.a.ch.bJ E (by rw[x.a.c];exact d) le.1 (V.trans (ids d le))).2;exact hI.st (Z.trans ((w.cZ d J).aa)) k4 a Y
   ·rw[if_neg ga];by_cases ge:t=s/\e=j
    ·rw[if_pos ge];obtain⟨M,z⟩:=ge;subst M z;have a6:=Tq x w d Y;refine N.atB nb I.symm (by unfold lg at a6;omega) (fun k3 Z V=>?_) (fun k4 Z V kt=>?_)
     ·have hI:=(x.a.ch.bJ E (by rw[x.a.c];exact d) Y.1 (V.trans (ids d Y))).2;exact hI.fwd (Z.trans ((w.cZ d y).aa)) k3
     ·have ae:=w.cZ d y;rw[ae.tail,decide_eq_false_iff_not] at kt;have aa:=(List.getElem?_eq_some_iff.1 y).1;obtain⟨i,v⟩:∃ i,((H.sh t).ah H.n)[p+1+1]? = Bs i:=⟨_,L1 (by omega)⟩
      rw[ae.a4 (q:=p+1+1) (by omega) v] at V;have hI:=(x.a.ch.bJ E (by rw[x.a.c];exact d) (w.lv v).1 V).2;exact hI.st (Z.trans ae.aa) k4 e le
    ·rw[if_neg ge];have other:∀ {i},Lv H t i->¬(t=s/\i=j)->m.a4≠((H.sh t).nd i).id:=fun {i} v g e2=>by
      rw[<- I,ids d v,ids C n] at e2;have n4:=x.a.ch.n4;obtain⟨M,z⟩:=qcr (by have:=n.1;omega) (by have:=v.1;omega) e2;exact g ⟨M.symm,z.symm⟩
     exact(N.drop nb (other Y ga) (other le ge)).more _
  ·have a5:Lv H t i:=cf.lv.1 v;unfold lg;rw[L] at f ⊢;split
   ·rename_i g;obtain⟨M,z⟩:=g;subst M z;rw[if_pos ⟨rfl,rfl⟩] at f;have hE:=CX.step ((H.sh t).nd i) m;have A:((H.sh t).nd i).tail=VJ:=by
     unfold Nd.tail at f ⊢;rw[hE.2.2.1,hE.2.2.2] at f;exact f
    have D:=h.tail t d i a5 A;have c:=Fp ((H.sh t).nd i) m;generalize ((H.sh t).nd i).step m=r at c ⊢;cases c with
    | none=>exact D
    | sync=>exact D
    | have_=>exact D
    | fwd=>
     rcases U2 ((H.sh t).nd i) m.cmd with ⟨z,_⟩|⟨_,g3,g4⟩
     ·rw[A] at z;cases z
     ·rw[(g4 U).1,g3]
    | stab hk a1=>rw[A] at a1;cases a1
   ·rename_i g;rw[if_neg g] at f;exact h.tail t d i a5 f
  ·have R:∀ t,t<3->hl H t<=hl K t:=fun t d=>by
    unfold hl;rw[S];cases H.head t with
    | none=>exact K0 _
    | some q=>
     simp only;unfold lg;rw[L];split
     ·rename_i g;obtain⟨M,z⟩:=g;subst M z;exact(q4x _ m).1.length_le
     ·exact K0 _
   have e0:=R 0 (by omega);have e1:=R 1 (by omega);have e2:=R 2 (by omega);unfold U6 at u ⊢;rw[O,q48] at u;rw[a3,q2y];omega
end
section
variable {H H':Hs} {G:Gh} {B:Int} {s j i:Nat} {m:Ms} {ms:List Ms}
def CW.ax (h:CW H) (w:Bo H) (a:Ad H B) {kind:Int} {k:Nat} (q:k<3) (u:∀ j,H.head k=Bs j->(lg (H.ax i kind k) k j).length<=16) (n:∀ j,H.head k=Bs j->(lg H k j).length<500):CW (H.ax i kind k):=by
 cases d:H.head k with
 | none=>rw[I1 d];exact h
 | some j=>
  have c:=u j d;rw[Ie d] at c ⊢;split
  ·rename_i g;rw[if_pos g] at c;have e:(((H.sh k).nd j).add (tellC H i kind) Jx).2.2=0:=by
    unfold Nd.add;rw[(Cu d).2,if_neg (by simp),if_neg (by have:=n j d;unfold lg at this;omega)]
   have f:¬(H.add k j (tellC H i kind) Jx).1<0:=by
    unfold Hs.add;rw[if_neg (by simp[e])];have:=(Oj e).2;show ¬(((H.sh k).nd j).add (tellC H i kind) Jx).2.1<0;omega
   rw[(QH f).1] at c;exact h.add w a q d _ _ (by simpa using c)
  ·exact h
def CW.aN {kind:Int} (v:1<=i):∀ (ks:List Nat) {H:Hs},CW H->Bo H->Ad H B->i<=H.m->(∀ k∈ks,k<2)->((kind=3/\(H.tx i).state=3)\/(kind=4/\(H.tx i).state=4))->
  (∀ k j,k<3->H.head k=Bs j->(lg (telld H i kind ks) k j).length<=16)->CW (telld H i kind ks)
 | [],H,h,_,_,_,_,_,_=>h
 | k::ks,H,h,w,a,hi,hk,hs,hb=>by
  have e:=DF H i kind k;have n:=hk k VH;have f:=Bp.tell v hi n hs;have y:=q8h i kind ks (H.ax i kind k);have d:∀ q j,q<3->H.head q=Bs j->(lg (H.ax i kind k) q j).length<=16:=fun q j g c=>VO (y.lg q j).length_le (hb q j g c)
  have u:∀ j,H.head k=Bs j->(lg H k j).length<500:=fun j c=>by
   have:=(f.up.lg k j).length_le;have:=d k j (by omega) c;omega
  exact CW.aN v ks (h.ax w a (by omega) (fun j c=>d k j (by omega) c) u) (w.aR f.aR e.2.2.1) (a.step f).1 (by rw[e.2.2.1];exact hi) (fun x z=>hk x (VI _ z)) (by rw[(e.2.2.2.2 i).1];exact hs)
   (fun q j g c=>hb q j g (by rw[<- f.aR.head];exact c))
def Ad.bf (a:Ad H B) (f:1<=i) (e:i<=H.m) (hs:(H.tx i).state=1\/((H.tx i).state=2/\(H.tx i).ag=0)):Ad (reld (H.al i) i (H.tx i).af) B:=by
 have g:=FI i (H.tx i).af (H.al i);have c:AK H (reld (H.al i) i (H.tx i).af):=(AK.au H i _).trans (Kn i _ _);exact⟨(a.wf.al f e).bK i _ (fun k d=>by show k<H.c;have:=BR d;have:=a.c;omega),g.1.trans a.c,a.ch.same c,JY a.bj hs,fun s hs=>by rw[c.aa];exact a.ep s hs⟩
def CW.ss (h:CW H) (w:Bo H) (x:Bg H G B) (s:Ss H H'):CW H':=by
 have x':=x.ss s;have w':=w.aR s.b3.aR s.b3.sm.m;have g:∀ k j,k<3->H.head k=Bs j->(lg H' k j).length<=16:=fun k j f d=>Tq x' w' f (s.b3.aR.lv.2 (Cu d).1)
 have A:∀ k j,k<3->H.head k=Bs j->(lg H k j).length<500:=fun k j f d=>by have:=Tq x w f (Cu d).1;omega
 have E:∀ {k j:Nat} {c:Cm} {b:Bool},k<3->H.head k=Bs j->H'=(H.add k j c b).2->CW (H.add k j c b).2:=fun {k j c b} f d e=>by
  have C:=g k j f d;rw[e,(QH (qd2 x f d c b)).1] at C;exact h.add w x.a f d c b (by simpa using C)
 cases s with
 | @abort i q n hs v N=>
  rw[Ia] at g ⊢;have D:AK H (reld (H.al i) i (H.tx i).af):=(AK.au H i _).trans (Kn i _ _);have u:=FI i (H.tx i).af (H.al i);have J:((reld (H.al i) i (H.tx i).af).tx i).af=(H.tx i).af:=Dp (by rw[(u.2.2.2.2 i).2.2.1];show(Af H.tx i _ i).ae=_;rw[An]);have y:((reld (H.al i) i (H.tx i).af).tx i).state=4:=by
   rw[(u.2.2.2.2 i).1];show(Af H.tx i _ i).state=4;rw[An]
  have K:AT H (reld (H.al i) i (H.tx i).af):=(AT.au H i _).trans (.bK i _ _);exact CW.aN q _ (h.same D) (w.aR K u.2.2.1) (x.a.bf q n (.inr ⟨hs,v⟩)) (by rw[u.2.2.1];exact n) (fun k f=>BR f) (.inr ⟨rfl,y⟩) (fun k j f d=>g k j f (by rw[<- D.head];exact d))
 | @tell i k kind q n f hs=>exact h.ax w x.a (by omega) (fun j d=>g k j (by omega) d) (fun j d=>A k j (by omega) d)
 | prep b q n f d z hs v L I=>exact E (by have:=BR f;omega) d rfl
 | place a q n f O hs M=>exact h.same (AK.au _ _ _)
 | @timed i q n hs z=>
  have e:=E3 H i;exact h.same ⟨e.1,e.2.1,e.2.2.2.2,fun s=>by rw[e.2.2.2.1],fun s=>by rw[e.2.2.2.1],fun s=>by rw[e.2.2.2.1]⟩
 | decide b q n d z hs v=>exact E (by omega) d rfl
 | commit q n hs z=>exact h.same (AK.au _ _ _)
def CW.c9 (s:Cr H H'):CW H->Bo H->Bg H G B->CW H':=by
 induction s with
 | refl=>exact fun h _ _=>h
 | step s _ c=>exact fun h w x=>c (h.ss w x s) (w.aR s.b3.aR s.b3.sm.m) (x.ss s)
def Bu (H:Hs) (Q:List (Nat×Nat)):Hs:=Q.foldl (fun H q=>Hs.aG q.1 H q.2) H
def BX (H:Hs):List (Nat×Nat):=[0,1,2].flatMap fun s=>((H.sh s).ah H.n).map fun j=>(s,j)
def Qg (H:Hs) (s:Nat) (l:List Nat):l.foldl (Hs.aG s) H=Bu H (l.map fun j=>(s,j)):=by unfold Bu;rw[List.foldl_map]
def GG (H:Hs) (a b:List (Nat×Nat)):Bu H (a++b)=Bu (Bu H a) b:=by unfold Bu;rw[List.foldl_append]
def q92:∀ (Q:List (Nat×Nat)) (H:Hs),AT H (Bu H Q)
 | [],H=>.refl H
 | q::Q,H=>(AT.tick H q.1 q.2).trans (q92 Q _)
def q93 (H:Hs):H.aT=Bu H (BX H):=by
 have e:∀ (ss:List Nat) (d K:Hs),AT d K->ss.foldl Hs.bm K=Bu K (ss.flatMap fun s=>((d.sh s).ah d.n).map fun j=>(s,j)):=by
  intro ss;induction ss with
  | nil=>intro d K _;rfl
  | cons s ss f=>
   intro d K c;rw[List.foldl_cons,VM,GG];have g:K.bm s=Bu K (((d.sh s).ah d.n).map fun j=>(s,j)):=by
    show((K.sh s).ah K.n).foldl (Hs.aG s) K=_;rw[c.live,Qg]
   rw[g];exact f d _ (c.trans (q92 _ _))
 exact e [0,1,2] H H (.refl H)
def II (d:Nd):d.tick.2.length<=1:=by
 unfold Nd.tick;split
 ·exact VN _
 ·split
  ·show(if d.at_ > 0 then _ else []).length<=1;split
   ·exact K0 _
   ·exact VN _
  ·exact K0 _
def ML:∀ (Q:List (Nat×Nat)) {H:Hs},Bo H->Ad H B->(∀ q∈Q,q.1<3/\Lv H q.1 q.2)->Q.Nodup->H.net.l.length+Q.length<=200->
  (∀ a i,((Bu H Q).sh a).nd i=if (a,i)∈Q then((H.sh a).nd i).tick.1 else(H.sh a).nd i)/\(Bu H Q).net.l=H.net.l++Q.flatMap (fun q=>((H.sh q.1).nd q.2).tick.2)
 | [],H,_,_,_,_,_=>⟨fun a i=>by rw[if_neg (by simp)];rfl,by simp[Bu]⟩
 | q::Q,H,w,a,hQ,hn,hl=>by
  obtain⟨s,j⟩:=q;obtain⟨hs,c⟩:=hQ (s,j) VH;have hs:s<3:=hs;have c:Lv H s j:=c;rw[List.nodup_cons] at hn;rw[Wl] at hl;have v:=Bp.tick hs c;have n:∀ a i,((Hs.aG s H j).sh a).nd i=if (a,i)=(s,j) then((H.sh a).nd i).tick.1 else(H.sh a).nd i:=fun a i=>by
   show((H.aq s j ((H.sh s).nd j).tick.1).sh a).nd i=_;by_cases g:a=s
   ·subst g;rw[D9];show Af (H.sh a).nd j _ i=_;by_cases f:i=j
    ·subst f;rw[An,if_pos rfl]
    ·rw[As f,if_neg (fun h=>f (by injection h))]
   ·rw[Ic _ j _ g,if_neg (fun h=>g (by injection h))]
  have x:=II ((H.sh s).nd j);have d:(Hs.aG s H j).net.l=H.net.l++((H.sh s).nd j).tick.2:=q6y _ H.net (qcn w a hs c (Gw.tick _)) (by omega);obtain⟨z,y⟩:=ML Q (w.aR v.aR rfl) (a.step v).1 (fun q u=>⟨(hQ q (VI _ u)).1,v.aR.lv.2 (hQ q (VI _ u)).2⟩) hn.2 (by rw[d,VS];omega);have e:Bu H ((s,j)::Q)=Bu (Hs.aG s H j) Q:=rfl;rw[e];refine⟨fun a i=>?_,?_⟩
  ·rw[z,n];by_cases g:(a,i)=(s,j)
   ·rw[if_pos g,if_neg (by rw[g];exact hn.1),if_pos (by rw[g];exact VH)]
   ·rw[if_neg g];by_cases f:(a,i)∈Q
    ·rw[if_pos f,if_pos (VI _ f)]
    ·rw[if_neg f,if_neg (fun h=>(List.mem_cons.1 h).elim g f)]
  ·rw[y,d,VM,XB];congr 2;rw[List.flatMap_def,List.flatMap_def];congr 1;refine X9 (fun q u=>?_);obtain⟨a,i⟩:=q;show(((Hs.aG s H j).sh a).nd i).tick.2=((H.sh a).nd i).tick.2;rw[n,if_neg (fun h:(a,i)=(s,j)=>hn.1 (by rw[<- h];exact u))]
def q4y {H:Hs} : (s,j)∈BX H↔s<3/\Lv H s j:=by
 unfold BX;rw[List.mem_flatMap];constructor
 ·rintro ⟨t,c,h⟩;obtain⟨i,d,e⟩:=List.mem_map.1 h;injection e with e1 e2;subst e1 e2;exact⟨by simp at c;omega,ET.1 d⟩
 ·rintro ⟨g,f⟩;refine⟨s,by simp;omega,List.mem_map.2 ⟨j,ET.2 f,rfl⟩⟩
def Ha (x:Bm) (n:Nat):(x.ah n).Nodup:=List.Nodup.sublist List.filter_sublist List.nodup_range
def Mm (H:Hs):(BX H).Nodup:=by
 have c:∀ s,(((H.sh s).ah H.n).map fun j=>(s,j)).Nodup:=fun s=>by
  rw[Yw,W8];exact(Ha _ _).imp (fun h e=>h (by injection e))
 unfold BX;simp only[VM,Yc,WE];have d:∀ {s t:Nat} {x:Nat×Nat},s≠t->x∈(((H.sh s).ah H.n).map fun j=>(s,j))->x∈(((H.sh t).ah H.n).map fun j=>(t,j))->False:=fun {s t x} n v u=>by
  obtain⟨_,_,rfl⟩:=List.mem_map.1 v;obtain⟨_,_,e⟩:=List.mem_map.1 u;injection e with e _;exact n e.symm
 rw[Yj];refine⟨c 0,?_,fun a f b q e=>?_⟩
 ·rw[Yj];exact⟨c 1,c 2,fun a f b q e=>d (s:=1) (t:=2) (by decide) f (e▸q)⟩
 ·subst e;rcases List.mem_append.1 q with g|g
  ·exact d (s:=0) (t:=1) (by decide) f g
  ·exact d (s:=0) (t:=2) (by decide) f g
def q5f (x:Bm) (n:Nat):(x.ah n).length<=n:=by
 unfold Bm.ah;exact VO (List.length_filter_le _ _) (by simp)
def J5 (w:Bo H):(BX H).length<=9:=by
 unfold BX;simp only[VM,Yc,WE,VS,We];have:=q5f (H.sh 0) H.n;have:=q5f (H.sh 1) H.n;have:=q5f (H.sh 2) H.n;have:=w.n3;omega
def S5 (d:Nd):∀ m∈d.tick.2,wM m<=16:=fun m _=>by unfold wM;split <;> omega
def Ky (d:Nd):CY d.tick.2<=16:=by
 have f:=II d;have c:=S5 d
 match e:d.tick.2 with
 | []=>exact VN _
 | [m]=>rw[e] at c;rw[q48];have:=c m VH;show wM m+0<=16;omega
 | m::m2::l=>rw[e] at f;simp at f
def q6b (c:d.tail=VJ):CY d.tick.2<=1:=by
 unfold Nd.tick;split
 ·exact VN _
 ·split
  ·exact K0 _
  ·exact VN _
def GD (w:Bo H) (hs:s<3):CY ((((H.sh s).ah H.n).map fun j=>(s,j)).flatMap fun q=>((H.sh q.1).nd q.2).tick.2)<=33:=by
 have hl:=q5f (H.sh s) H.n;have h:=w.n3;have at_:=fun p j=>w.cZ (j:=j) (p:=p) hs
 generalize g:(H.sh s).ah H.n=L at *
 match L,g with
 | [],_=>exact VN _
 | [a],_=>
  have f:=(at_ 0 a rfl).tail;have:=q6b (d:=(H.sh s).nd a) (by rw[f];rfl);simp only[WH,XN,VM,Yc,WE];omega
 | [a,b],_=>
  have tb:=(at_ 1 b rfl).tail;have:=q6b (d:=(H.sh s).nd b) (by rw[tb];rfl);have:=Ky ((H.sh s).nd a);simp only[WH,XN,VM,Yc,WE,q2y];omega
 | [a,b,c],_=>
  have e:=(at_ 2 c rfl).tail;have:=q6b (d:=(H.sh s).nd c) (by rw[e];rfl);have:=Ky ((H.sh s).nd a);have:=Ky ((H.sh s).nd b);simp only[WH,XN,VM,Yc,WE,q2y];omega
 | a::b::c::d::l,_=>simp at hl;omega
def CW.aT (w:Bo H) (x:Ad H B) (R:H.net.l=[]):CW H.aT:=by
 rw[q93];have Q:=J5 w;obtain⟨t1,I⟩:=ML (BX H) w x (fun q Q=>q4y.1 (show(q.1,q.2)∈BX H from Q)) (Mm H) (by rw[R];simp;omega);have S:=q92 (BX H) H;generalize Bu H (BX H)=K at *;rw[R,List.nil_append] at I;have nd:∀ {s i},s<3->Lv H s i->(K.sh s).nd i=((H.sh s).nd i).tick.1:=fun {s i} hs v=>by rw[t1,if_pos (q4y.2 ⟨hs,v⟩)]
 have J:∀ s i,lg K s i=lg H s i:=fun s i=>by
  unfold lg;rw[t1];split
  ·exact(Ej _).2.1
  ·rfl
 have f:∀ {s i m},s<3->Lv H s i->m∈((H.sh s).nd i).tick.2->m∈K.net.l:=fun {s i m} hs v hm=>by
  rw[I,List.mem_flatMap];exact⟨(s,i),q4y.2 ⟨hs,v⟩,hm⟩
 refine⟨fun s hs p a b C h=>?_,fun s hs i v z=>?_,?_⟩
 ·rw[S.live] at C h;have y:=w.nbr x hs C h;have L:=w.lv C;have lb:=w.lv h;rw[nd hs L,nd hs lb];have X:=Ej ((H.sh s).nd a);have sb:=Ej ((H.sh s).nd b);have a1:=(MQ (w.cfg s hs).sorted C h).1 (YK p);have E:((H.sh s).nd a).tick.2=[((H.sh s).nd a).msg 1 1 ((H.sh s).nd a).log.length]:=by
   unfold Nd.tick;rw[if_neg (by have:=y.at0;omega),y.tl];rfl
  have Y:=fun k c n=>G5 (CX.tick ((H.sh s).nd b)) k c n
  refine⟨by rw[X.2.1,sb.2.1];exact(x.ch.pre s (by rw[x.c];exact hs) a b (by omega) L lb).length_le,.inr (.inl ⟨(((H.sh s).nd a).log.length:Nat),by rw[G5 (CX.tick _)];exact f hs L (by rw[E];exact List.mem_singleton.2 rfl)⟩),?_⟩;cases u:((H.sh s).nd b).tail with
  | true=>
   have e:((H.sh s).nd b).tick=({ (H.sh s).nd b with an:=((H.sh s).nd b).log.length },[((H.sh s).nd b).msg 4 (-1) ((H.sh s).nd b).log.length]):=by
    unfold Nd.tick;rw[if_neg (by have:=y.d8;omega),if_pos u,if_pos y.d8]
   refine .inr (.inl ⟨(((H.sh s).nd b).log.length:Nat),by rw[e];exact WD _,by omega,by rw[Y];exact f hs lb (by rw[e];exact List.mem_singleton.2 rfl)⟩)
  | false=>
   have tb:=w.cZ hs h;rw[tb.tail,decide_eq_false_iff_not] at u;have Z:=(List.getElem?_eq_some_iff.1 h).1;have a2:=q5f (H.sh s) H.n;have a0:=w.n3;obtain⟨c,A⟩:∃ c,((H.sh s).ah H.n)[p+1+1]? = Bs c:=⟨_,L1 (by omega)⟩
   have a3:=(List.getElem?_eq_some_iff.1 A).1;have d:=w.nbr x hs h A;have V:=w.cZ hs A;have M:((H.sh s).nd c).tail=VJ:=by rw[V.tail];exact decide_eq_true (by omega)
   have e:((H.sh s).nd c).tick.2=[((H.sh s).nd c).msg 4 (-1) ((H.sh s).nd c).log.length]:=by
    unfold Nd.tick;rw[if_neg (by have:=d.d8;omega),if_pos M,if_pos d.d8]
   have U:((H.sh s).nd b).tick.1.tail=Jx:=by
    unfold Nd.tail;rw[sb.2.2.2.1,sb.2.2.2.2];exact d.tl
   have D:((H.sh s).nd b).tick.1.a4 1=((H.sh s).nd b).a4 1:=by unfold Nd.a4;rw[sb.2.2.2.1,sb.2.2.2.2]
   refine .inr (.inr ⟨U,_,f hs (w.lv A) (by rw[e];exact List.mem_singleton.2 rfl),rfl,?_,?_,?_,?_⟩)
   ·rw[D];exact d.ab.symm
   ·rw[sb.1];exact d.ba
   ·rw[sb.2.2.1];exact d.ep
   ·show(0:Int)<=((((H.sh s).nd c).log.length:Nat):Int);omega
 ·have N:=S.lv.1 v;rw[J];rw[nd hs N] at z ⊢;have O:=Ej ((H.sh s).nd i);have g:((H.sh s).nd i).tail=VJ:=by
   unfold Nd.tail at z ⊢;rw[O.2.2.2.1,O.2.2.2.2] at z;exact z
  unfold Nd.tick;rw[if_neg (by unfold Nd.tail at g;simp at g;omega),if_pos g];rfl
 ·unfold U6;rw[I];have e:(BX H).flatMap (fun q=>((H.sh q.1).nd q.2).tick.2)=((((H.sh 0).ah H.n).map fun j=>(0,j)).flatMap fun q=>((H.sh q.1).nd q.2).tick.2)++(((((H.sh 1).ah H.n).map fun j=>(1,j)).flatMap fun q=>((H.sh q.1).nd q.2).tick.2)++((((H.sh 2).ah H.n).map fun j=>(2,j)).flatMap fun q=>((H.sh q.1).nd q.2).tick.2)):=by
   unfold BX;simp only[VM,Yc,WE,WG]
  rw[e,q2y,q2y];have:=GD w (s:=0) (by omega);have:=GD w (s:=1) (by omega);have:=GD w (s:=2) (by omega);omega
end
def wP (m:Ms):Nat:=if m.ai=1 then 18 else if m.ai=2 then 17 else if m.ai=4 then(m.a4 % 10).toNat+1 else 1
def BG (l:List Ms):Nat:=(l.map wP).sum
def Eb (H:Hs):Nat:=((BX H).map fun q=>16-(lg H q.1 q.2).length).sum
def DH (H:Hs):Nat:=BG H.net.l+4*Eb H
def wP_b (m:Ms):1<=wP m/\wP m<=18:=by unfold wP;split;omega;split;omega;split <;> omega
def I4 (a b:List Ms):BG (a++b)=BG a+BG b:=by unfold BG;simp
def q4f (m:Ms) (l:List Ms):BG (m::l)=wP m+BG l:=by unfold BG;simp
def qcg:∀ l:List Ms,l.length<=BG l/\BG l<=18*l.length
 | []=>⟨K0 _,K0 _⟩
 | m::l=>by rw[q4f,Wl];have:=qcg l;have:=wP_b m;omega
def q7x:∀ (ms:List Ms) (n:AW),BG (Em n ms).l<=BG n.l+BG ms
 | [],n=>Nat.le_add_right _ _
 | m::ms,n=>by
  have c:=q7x ms (AN n m);have d:BG (AN n m).l<=BG n.l+wP m:=by
   unfold AN;split
   ·omega
   ·show BG (n.l++[m])<=_;rw[I4,q4f];exact K0 _
  show BG (Em (AN n m) ms).l<=_;rw[q4f];omega
def I3 (d:Nd):∀ r:List Nat,BG (r.map d.forward)=r.length
 | []=>rfl
 | k::r=>by
  rw[WH,q4f,I3 d r];have:wP (d.forward k)=1:=rfl;rw[this,Wl];omega
def qc6 {α:Type} {f g:α->Nat} : ∀ {L:List α},(∀ q∈L,g q<=f q)->(L.map g).sum<=(L.map f).sum
 | [],_=>K0 _
 | q::L,h=>by
  have d:=qc6 (L:=L) (fun x c=>h x (VI _ c));have:=h q VH;simp only[WH,List.sum_cons];omega
def MN {α:Type} {f g:α->Nat} : ∀ {L:List α} {c:α},(∀ q∈L,g q<=f q)->c∈L->g c+1<=f c->(L.map g).sum+1<=(L.map f).sum
 | [],_,_,d,_=>nomatch d
 | q::L,c,h,d,hlt=>by
  have v:=h q VH;have n:=fun x u=>h x (VI q u)
  simp only[WH,List.sum_cons];rcases List.mem_cons.1 d with e|e
  ·subst e;have:=qc6 (L:=L) n;omega
  ·have:=MN (L:=L) n e hlt;omega
section
variable {H H':Hs} {G:Gh} {B:Int} {s j i:Nat} {m:Ms} {ms:List Ms}
def J6 (c:AT H H'):BX H'=BX H:=by unfold BX;simp only[c.live]
def Nc (c:AT H H') (h:∀ s j,lg H s j <+: lg H' s j):Eb H'<=Eb H:=by
 unfold Eb;rw[J6 c];exact qc6 (fun q _=>by have:=(h q.1 q.2).length_le;omega)
def Nb (c:AT H H') (h:∀ s j,lg H s j <+: lg H' s j) (hs:s<3) (hl:Lv H s j) (e:(lg H s j).length+1<=(lg H' s j).length) (d:(lg H' s j).length<=16):Eb H'+1<=Eb H:=by
 unfold Eb;rw[J6 c];exact MN (fun q _=>by have:=(h q.1 q.2).length_le;omega) (q4y.2 ⟨hs,hl⟩) (by show 16-(lg H' s j).length+1<=16-(lg H s j).length;omega)
def gsum_b (w:Bo H):Eb H<=144:=by
 have e:Eb H<=((BX H).map fun _=>16).sum:=qc6 (fun q _=>by omega);have d:((BX H).map fun _=>16).sum=16*(BX H).length:=by
  generalize BX H=L;induction L with
  | nil=>rfl
  | cons q L c=>simp only[WH,List.sum_cons,Wl];omega
 have:=J5 w;omega
def MU (w:Bo H) (x:Ad H B) (hs:s<3) (n:H.head s=Bs j) (c:Cm) (b:Bool) (g:(lg H s j).length+1<=16):DH (H.add s j c b).2<=DH H:=by
 have h:=(Cu n).1;have q:(((H.sh s).nd j).add c b).2.2=0:=by
  unfold Nd.add;rw[(Cu n).2,if_neg (by simp),if_neg (by unfold lg at g;omega)]
 have u:=w.cZ hs (w.head0 hs n);have y:¬(H.add s j c b).1<0:=by
  unfold Hs.add;rw[if_neg (by simp[q])];have:=(Oj q).2;show ¬(((H.sh s).nd j).add c b).2.1<0;omega
 have d:=(QH y).1;have v:=Ex H s j c b;have A:=Nb (AT.add H s j c b) v.lg hs h (by rw[d];simp) (by rw[d];simpa using g);have z:BG (((H.sh s).nd j).grow c).2<=1:=by
  rcases U2 ((H.sh s).nd j) c with ⟨_,e⟩|⟨_,_,e⟩
  ·rw[e];exact K0 _
  ·rw[(e (by rw[u.at_];omega)).2,if_neg (by rw[u.at_];omega)];exact VN _
 have f:(H.add s j c b).2.net=Em H.net (((H.sh s).nd j).grow c).2:=by
  rw[J7 c b q];exact(qck (net:=H.net) (ms:=(((H.sh s).nd j).grow c).2) hs (CX.grow ((H.sh s).nd j) c)).2.2
 have:=q7x (((H.sh s).nd j).grow c).2 H.net;unfold DH;rw[f];omega
def FK (w:Bo H) (a:Ad H B) {kind:Int} (n:k<3) (q:∀ j,H.head k=Bs j->(lg (H.ax i kind k) k j).length<=16) (h:∀ j,H.head k=Bs j->(lg H k j).length<500):DH (H.ax i kind k)<=DH H:=by
 cases d:H.head k with
 | none=>rw[I1 d];exact K0 _
 | some j=>
  have c:=q j d;rw[Ie d] at c ⊢;split
  ·rename_i g;rw[if_pos g] at c;have e:(((H.sh k).nd j).add (tellC H i kind) Jx).2.2=0:=by
    unfold Nd.add;rw[(Cu d).2,if_neg (by simp),if_neg (by have:=h j d;unfold lg at this;omega)]
   have f:¬(H.add k j (tellC H i kind) Jx).1<0:=by
    unfold Hs.add;rw[if_neg (by simp[e])];have:=(Oj e).2;show ¬(((H.sh k).nd j).add (tellC H i kind) Jx).2.1<0;omega
   rw[(QH f).1] at c;exact MU w a n d _ _ (by simpa using c)
  ·exact K0 _
def FJ {kind:Int} (u:1<=i):∀ (ks:List Nat) {H:Hs},Bo H->Ad H B->i<=H.m->(∀ k∈ks,k<2)->((kind=3/\(H.tx i).state=3)\/(kind=4/\(H.tx i).state=4))->
  (∀ k j,k<3->H.head k=Bs j->(lg (telld H i kind ks) k j).length<=16)->DH (telld H i kind ks)<=DH H
 | [],H,_,_,_,_,_,_=>K0 _
 | k::ks,H,w,a,hi,hk,hs,hb=>by
  have e:=DF H i kind k;have h:=hk k VH;have f:=Bp.tell u hi h hs;have v:=q8h i kind ks (H.ax i kind k);have d:∀ q j,q<3->H.head q=Bs j->(lg (H.ax i kind k) q j).length<=16:=fun q j g c=>VO (v.lg q j).length_le (hb q j g c)
  have n:∀ j,H.head k=Bs j->(lg H k j).length<500:=fun j c=>by
   have:=(f.up.lg k j).length_le;have:=d k j (by omega) c;omega
  refine VO (FJ u ks (w.aR f.aR e.2.2.1) (a.step f).1 (by rw[e.2.2.1];exact hi) (fun x y=>hk x (VI _ y)) (by rw[(e.2.2.2.2 i).1];exact hs)
   (fun q j g c=>hb q j g (by rw[<- f.aR.head];exact c))) (FK w a (by omega) (fun j c=>d k j (by omega) c) n)
def q8k (c:AK H H') (d:AT H H'):DH H'<=DH H:=by
 have:=Nc d (fun s j=>by rw[c.lg];exact VQ _);unfold DH;rw[c.net];omega
def psi_ss (w:Bo H) (x:Bg H G B) (s:Ss H H'):DH H'<=DH H:=by
 have x':=x.ss s;have w':=w.aR s.b3.aR s.b3.sm.m;have g:∀ k j,k<3->H.head k=Bs j->(lg H' k j).length<=16:=fun k j f d=>Tq x' w' f (s.b3.aR.lv.2 (Cu d).1)
 have z:∀ k j,k<3->H.head k=Bs j->(lg H k j).length<500:=fun k j f d=>by have:=Tq x w f (Cu d).1;omega
 have E:∀ {k j:Nat} {c:Cm} {b:Bool},k<3->H.head k=Bs j->H'=(H.add k j c b).2->DH (H.add k j c b).2<=DH H:=fun {k j c b} f d e=>by
  have A:=g k j f d;rw[e,(QH (qd2 x f d c b)).1] at A;exact MU w x.a f d c b (by simpa using A)
 cases s with
 | @abort i n h hs q L=>
  rw[Ia] at g ⊢;have C:AK H (reld (H.al i) i (H.tx i).af):=(AK.au H i _).trans (Kn i _ _);have y:=FI i (H.tx i).af (H.al i);have u:((reld (H.al i) i (H.tx i).af).tx i).state=4:=by
   rw[(y.2.2.2.2 i).1];show(Af H.tx i _ i).state=4;rw[An]
  have D:AT H (reld (H.al i) i (H.tx i).af):=(AT.au H i _).trans (.bK i _ _);exact VO (FJ n _ (w.aR D y.2.2.1) (x.a.bf n h (.inr ⟨hs,q⟩)) (by rw[y.2.2.1];exact h) (fun k f=>BR f) (.inr ⟨rfl,u⟩) (fun k j f d=>g k j f (by rw[<- C.head];exact d))) (q8k C D)
 | @tell i k kind n h f hs=>exact FK w x.a (by omega) (fun j d=>g k j (by omega) d) (fun j d=>z k j (by omega) d)
 | prep b n h f d v hs q J I=>exact E (by have:=BR f;omega) d rfl
 | place a n h f M hs K=>exact q8k (AK.au _ _ _) (.au _ _ _)
 | @timed i n h hs v=>
  have e:=E3 H i;exact q8k ⟨e.1,e.2.1,e.2.2.2.2,fun s=>by rw[e.2.2.2.1],fun s=>by rw[e.2.2.2.1],fun s=>by rw[e.2.2.2.1]⟩ (.timed _ _)
 | decide b n h d v hs q=>exact E (by omega) d rfl
 | commit n h hs v=>exact q8k (AK.au _ _ _) (.au _ _ _)
def MT (s:Cr H H'):Bo H->Bg H G B->DH H'<=DH H:=by
 induction s with
 | refl=>exact fun _ _=>K0 _
 | step s _ c=>exact fun w x=>VO (c (w.aR s.b3.aR s.b3.sm.m) (x.ss s)) (psi_ss w x s)
def Lf (w:Bo H) (x:Bg H G B) {rest:List Ms} (N:H.net.l=m::rest):DH (({ H with net:=takeS H.net 0 } : Hs).arrive m)+1<=DH H:=by
 have E:takeS H.net 0=⟨rest,H.net.ao⟩:=by unfold takeS;rw[N];rfl
 have x':=x.arrive (k:=0) (m:=m) (by rw[N];rfl);have M:=Bp.arrive (H:=H) (k:=0) (m:=m) (by rw[N];rfl);have w':=w.aR M.aR M.sm.m;have hp:BG H.net.l=wP m+BG rest:=by rw[N,q4f]
 have hb:=wP_b m;cases Q:Hs.node { H with net:=takeS H.net 0 } m.a4 with
 | none=>
  rw[Ig Q,E];have hg:Eb { H with net:=(⟨rest,H.net.ao⟩:AW) } = Eb H:=rfl;unfold DH;rw[hg];show BG rest+4*Eb H+1<=_;omega
 | some r=>
  obtain⟨s,j⟩:=r;obtain⟨hs,f,L⟩:=q3y (H:={ H with net:=takeS H.net 0 }) x.a.c Q;have n:s<3:=by have:=x.a.c;have hs:s<H.c:=hs;omega
  have f:Lv H s j:=f;have L:((H.sh s).nd j).id=m.a4:=L;obtain⟨q,A⟩:=w.at_ n f;have V:0<=((H.sh s).nd j).at_:=by rw[A.at_];omega
  have U:=Tq x w n f;have a4:j<3:=by have:=f.1;have:=w.n3;omega
  have ids:=x.a.ch.ids s j (by rw[x.a.c];exact n) f.1;have y:=M.up.lg;have u:=M.aR;have g:=Tq x' w' n (u.lv.2 f);rw[Ih Q] at y u g ⊢;obtain⟨cf,O,I⟩:=qck (net:=takeS H.net 0) (ms:=(((H.sh s).nd j).step m).2) n (CX.step ((H.sh s).nd j) m);show DH (((({ H with net:=takeS H.net 0 } : Hs).aq s j (((H.sh s).nd j).step m).1).send (((H.sh s).nd j).step m).2).take s)+1<=DH H;have y:∀ a b,lg H a b <+: lg (((({ H with net:=takeS H.net 0 } : Hs).aq s j (((H.sh s).nd j).step m).1).send (((H.sh s).nd j).step m).2).take s) a b:=y;have u:AT H (((({ H with net:=takeS H.net 0 } : Hs).aq s j (((H.sh s).nd j).step m).1).send (((H.sh s).nd j).step m).2).take s):=u;have g:(lg (((({ H with net:=takeS H.net 0 } : Hs).aq s j (((H.sh s).nd j).step m).1).send (((H.sh s).nd j).step m).2).take s) s j).length<=16:=g;have J:lg (((({ H with net:=takeS H.net 0 } : Hs).aq s j (((H.sh s).nd j).step m).1).send (((H.sh s).nd j).step m).2).take s) s j=(((H.sh s).nd j).step m).1.log:=by unfold lg;rw[O,if_pos ⟨rfl,rfl⟩]
  generalize ((({ H with net:=takeS H.net 0 } : Hs).aq s j (((H.sh s).nd j).step m).1).send (((H.sh s).nd j).step m).2).take s=K at *;have a3:=Nc u y;have d:=q7x (((H.sh s).nd j).step m).2 (takeS H.net 0);rw[<- I,E] at d;have d:BG K.net.l<=BG rest+BG (((H.sh s).nd j).step m).2:=d;have D:0<((H.sh s).nd j).at_->∃ i,i<j/\((H.sh s).nd j).a4 (-1)=BL s i:=fun h=>by
   rw[A.at_] at h;have a1:=(List.getElem?_eq_some_iff.1 A.ix).1;obtain⟨i,R⟩:∃ i,((H.sh s).ah H.n)[q-1]? = Bs i:=⟨_,L1 (by omega)⟩
   exact⟨i,(MQ A.cfg.sorted R A.ix).1 (by omega),A.a4 (by omega) R⟩
  have C:∀ v:Int,BG (if ((H.sh s).nd j).at_ > 0 then [((H.sh s).nd j).msg 4 (-1) v] else [])<=j:=fun v=>by
   split
   ·rename_i h;obtain⟨i,R,e⟩:=D h;rw[q4f];have:wP (((H.sh s).nd j).msg 4 (-1) v)=i+1:=by
     show(if (4:Int)=1 then 18 else if (4:Int)=2 then 17 else if (4:Int)=4 then((((H.sh s).nd j).a4 (-1)) % 10).toNat+1 else 1)=i+1;rw[if_neg (by decide),if_neg (by decide),if_pos rfl,e];unfold BL;omega
    rw[this];show i+1+0<=j;omega
   ·exact VN _
  have c:=Fp ((H.sh s).nd j) m;unfold DH;generalize hr:((H.sh s).nd j).step m=r at *;cases c with
  | none=>
   have:BG ([]:List Ms)=0:=rfl;simp only at d;omega
  | sync z=>
   have e:wP m=18:=by unfold wP;rw[if_pos z]
   have:BG [((H.sh s).nd j).msg 2 (-1) ((H.sh s).nd j).log.length]=17:=rfl;simp only at d;omega
  | have_ z=>
   have e:wP m=17:=by unfold wP;rw[if_neg (by omega),if_pos z]
   simp only at d;rw[I3,List.length_range'] at d;unfold lg at U;omega
  | fwd z=>
   have S:=U1 ((H.sh s).nd j) m.cmd;rw[S] at J;have a2:=Nb u y n f (by rw[J];unfold lg;simp) g;have a0:BG (((H.sh s).nd j).grow m.cmd).2<=2:=by
    rcases U2 ((H.sh s).nd j) m.cmd with ⟨_,e⟩|⟨_,_,e⟩
    ·rw[e];exact WT _
    ·rw[(e V).2];have:=C (((((H.sh s).nd j).log++[m.cmd]).length:Nat):Int);omega
   omega
  | stab z Y hf h0 X Z=>
   have e:wP m=j+1:=by
    unfold wP;rw[if_neg (by omega),if_neg (by omega),if_pos z,Z,ids];unfold BL;omega
   have:=C (max ((H.sh s).nd j).an m.n);simp only at d;omega
def L5 (x:Bg H G B) (w:Bo H) (d:Pu H 0 H') (q:H.net.l≠[]):Bg H' G B/\Bo H'/\DH H'+1<=DH H/\(CW H->CW H')/\(∃ K,DL K H'/\Bg K G B/\Bo K/\(∃ m rest,H.net.l=m::rest/\K=({ H with net:=takeS H.net 0 } : Hs).arrive m)):=by
 cases d with
 | none h=>exact absurd (Wd (by omega)) q
 | @some m h _ r=>
  obtain⟨rest,g⟩:∃ rest,H.net.l=m::rest:=by
   cases e:H.net.l with
   | nil=>exact absurd e q
   | cons y l=>rw[e] at h;injection h with h;subst h;exact⟨l,rfl⟩
  have f:=x.arrive h;have n:=Bp.arrive h;have w1:=w.aR n.aR n.sm.m;obtain⟨s1,_⟩:=On r f;have v:=Lf w x g;have u:=MT s1 w1 f;exact⟨Bg.c9 s1 f,w1.aR s1.star.aR s1.star.sm.m,by omega,fun c=>CW.c9 s1 (c.arrive w x g) w1 f,_,r,f,w1,m,rest,g,rfl⟩
def RY (d:Pq k H H'):Bg H G B->Bo H->Bg H' G B/\Bo H'/\(DH H<=k->H'.net.l=[])/\(CW H->CW H')/\((∀ t,1<=t->t<=H.m->Ei H t)->∀ t,1<=t->t<=H'.m->Ei H' t):=by
 induction d with
 | zero H=>
  refine fun x w=>⟨x,w,fun h=>?_,id,id⟩
  have:=(qcg H.net.l).1;unfold DH at h;exact Wd (by omega)
 | none h=>exact fun x w=>⟨x,w,fun _=>h,id,id⟩
 | more h d _ q=>
  intro x w;obtain⟨f,w1,z,y,K,r,e,_⟩:=L5 x w d h;obtain⟨x2,g,n,v,u⟩:=q f w1;exact⟨x2,g,fun A=>n (by omega),fun c=>v (y c),fun _=>u (On r e).2⟩
def qc4 (x:Bg H G B) (w:Bo H):Bg H.aT G B/\Bo H.aT:=by
 have c:∀ (Q:List (Nat×Nat)) {K:Hs},Bg K G B->Bo K->(∀ q∈Q,q.1<3/\Lv K q.1 q.2)->Bg (Bu K Q) G B/\Bo (Bu K Q):=by
  intro Q;induction Q with
  | nil=>exact fun x w _=>⟨x,w⟩
  | cons q Q f=>
   intro K x w h;obtain⟨u,n⟩:=h q VH;have e:=AT.tick K q.1 q.2;exact f (x.tick u n) (w.aR e rfl) (fun y d=>⟨(h y (VI _ d)).1,e.lv.2 (h y (VI _ d)).2⟩)
 rw[q93];exact c _ x w (fun q g=>q4y.1 (show(q.1,q.2)∈BX H from g))
def NU (h:H.net.l.length<=200):H.aT.net.l.length<=200:=by
 have c:∀ (Q:List (Nat×Nat)) {K:Hs},K.net.l.length<=200->(Bu K Q).net.l.length<=200:=by
  intro Q;induction Q with
  | nil=>exact fun h=>h
  | cons q Q d=>exact fun {K} h=>d (K:=Hs.aG q.1 K q.2) (qbb _ _ h)
 rw[q93];exact c _ h
end
section
variable {H H':Hs} {G:Gh} {B:Int} {s j i t k:Nat} {m:Ms} {ms:List Ms}
def Hx (H H':Hs):Prop:=∀ s j,s<3->Lv H s j->((H.sh s).nd j).an<=((H'.sh s).nd j).an
def Hx.refl (H:Hs):Hx H H:=fun _ _ _ _=>WD _
def Hx.same (h:∀ s,(H'.sh s).nd=(H.sh s).nd):Hx H H':=fun s j _ _=>by rw[h];exact WD _
def Ad.stb (a:Ad H B) (hs:s<3) (hl:Lv H s j):((H.sh s).nd j).an<=((H.sh s).nd j).log.length:=a.ch.st s (by rw[a.c];exact hs) j j hl hl
def MM (h:d.an<=d.log.length):d.an<=d.tick.1.an:=by
 unfold Nd.tick;split
 ·exact WD _
 ·split
  ·exact h
  ·exact WD _
def TP (h:d.an<=d.log.length) (c:Cm) (b:Bool):d.an<=(d.add c b).1.1.an:=by
 by_cases e:(d.add c b).2.2=0
 ·rw[(Oj e).1];unfold Nd.grow;split
  ·exact MM (d:=d.push c) (by show d.an<=((d.log++[c]).length:Nat);simp;omega)
  ·exact WD _
 ·rw[qd3 e];exact WD _
def IW (h:s<3->Lv H s j->((H.sh s).nd j).an<=d.an) {K:Hs} (n:∀ a,(K.sh a).nd=((H.aq s j d).sh a).nd):Hx H K:=fun a q g f=>by
 rw[n];by_cases e:a=s
 ·subst e;rw[D9];show _<=(Af (H.sh a).nd j d q).an;by_cases c:q=j
  ·subst c;rw[An];exact h g f
  ·rw[As c];exact WD _
 ·rw[Ic H j d e];exact WD _
def Mo (a:Ad H B) (s j:Nat) (c:Cm) (b:Bool):Hx H (H.add s j c b).2:=by
 unfold Hs.add;split
 ·exact .refl H
 ·exact IW (s:=s) (j:=j) (d:=(((H.sh s).nd j).add c b).1.1) (fun hs hl=>TP (a.stb hs hl) c b) (fun q=>(AK.take _ s).nd q)
def IM (a:Ad H B) (i:Nat) (kind:Int) (k:Nat):Hx H (H.ax i kind k):=by
 cases c:H.head k with
 | none=>rw[I1 c];exact .refl H
 | some j=>
  rw[Ie c];split
  ·exact Mo a _ _ _ _
  ·exact .refl H
def Hx.trans {A C D:Hs} (h:Hx A C) (k:Hx C D) (hl:∀ s j,Lv A s j->Lv C s j):Hx A D:=fun s j hs c=>Int.le_trans (h s j hs c) (k s j hs (hl s j c))
def IK {kind:Int} (d:1<=i):∀ (ks:List Nat) {H:Hs},Ad H B->i<=H.m->(∀ k∈ks,k<2)->((kind=3/\(H.tx i).state=3)\/(kind=4/\(H.tx i).state=4))->Hx H (telld H i kind ks)
 | [],H,_,_,_,_=>.refl H
 | k::ks,H,a,hi,hk,hs=>by
  have e:=DF H i kind k;have c:=Bp.tell d hi (hk k VH) hs;exact(IM a i kind k).trans (IK d ks (a.step c).1 (by rw[e.2.2.1];exact hi) (fun x f=>hk x (VI _ f)) (by rw[(e.2.2.2.2 i).1];exact hs)) (fun s j h=>c.aR.lv.2 h)
def Ss.sb (s:Ss H H') (a:Ad H B):Hx H H':=by
 cases s with
 | @abort i e d hs n u=>
  rw[Ia];have g:AK H (reld (H.al i) i (H.tx i).af):=(AK.au H i _).trans (Kn i _ _);have f:=FI i (H.tx i).af (H.al i);have c:((reld (H.al i) i (H.tx i).af).tx i).state=4:=by
   rw[(f.2.2.2.2 i).1];show(Af H.tx i _ i).state=4;rw[An]
  exact(Hx.same g.nd).trans (IK e _ (a.bf e d (.inr ⟨hs,n⟩)) (by rw[f.2.2.1];exact d) (fun k q=>BR q) (.inr ⟨rfl,c⟩)) (fun s j h=>g.lv.2 h)
 | tell=>exact IM a _ _ _
 | prep=>exact Mo a _ _ _ _
 | place=>exact .same (fun _=>rfl)
 | @timed i=>exact .same (fun s=>by rw[(E3 H i).2.2.2.1])
 | decide=>exact Mo a _ _ _ _
 | commit=>exact .same (fun _=>rfl)
def Cr.sb (s:Cr H H'):Ad H B->Hx H H':=by
 induction s with
 | refl=>exact fun _=>.refl _
 | step s _ c=>exact fun a=>(s.sb a).trans (c (a.step s.b3).1) (fun _ _ h=>s.b3.aR.lv.2 h)
def AH.up {kind id:Int} (h:AH H k kind id) (e:k<3) (c:AT H H') (u:∀ k j,lg H k j <+: lg H' k j) (b:Hx H H'):AH H' k kind id:=by
 obtain⟨j,p,x,d,q,n,g,f⟩:=h;refine⟨j,p,x,by rw[c.head];exact d,getElem?_prefix (u k j) q,n,g,?_⟩;have:=b k j e (Cu d).1;unfold Hs.an at f ⊢;omega
def qci {l:List Cm} {kind id:Int} {p:Nat} {c:Cm} (h:l[p]? = Bs c) (u:c.ai=kind) (n:c.tx=id):∃ q,place l kind id=Bs q/\q<=p:=by
 cases e:place l kind id with
 | none=>exact absurd ⟨c,S2 h,u,n⟩ (PB.1 e)
 | some q=>
  refine⟨q,rfl,?_⟩;unfold place at e;rw[VU] at e;obtain⟨_,_,g⟩:=e;refine Nat.le_of_not_lt (fun d=>?_);have f:=g p d;obtain⟨w,v⟩:=List.getElem?_eq_some_iff.1 h;rw[v] at f;exact f (q8q.2 ⟨u,n⟩)
structure PlS (H H':Hs) (i:Nat):Prop where
 n:H'.n=H.n
 sh:H'.sh=H.sh
 m:H'.m=H.m
 st:(H'.tx i).state=(H.tx i).state
 sd:(H'.tx i).ae=(H.tx i).ae
def PlS.stab {kind id:Int} (p:PlS H H' i) (h:AH H k kind id):AH H' k kind id:=h.congr p.n (by rw[p.sh])
def qbt (b:Nat->Bool):∀ (ks:List Nat) {H:Hs},(∀ k∈ks,AH H k 2 i)->∃ K,Hs.a3 i b ks H VJ=(K,Bs VJ)/\PlS H K i
 | [],H,_=>⟨H,rfl,rfl,rfl,rfl,rfl,rfl⟩
 | k::ks,H,h=>by
  obtain⟨j,p,c,C,A,z,y,E⟩:=h k VH;obtain⟨q,u,v⟩:=qci (l:=((H.sh k).nd j).log) A z y;have n:=q3t (i:=i) (b:=b k) C u;have w:decide (H.an k j > q)=VJ:=decide_eq_true (by omega);rw[w] at n;have g:((H.a8 i k q).tx i) = { H.tx i with places:=AO (H.tx i).places k q }:=An _ _ _;have d:PlS H (H.a8 i k q) i:=⟨rfl,rfl,rfl,by rw[g],by rw[g]⟩
  obtain⟨K,D,f⟩:=qbt b ks (H:=H.a8 i k q) (fun x g=>d.stab (h x (VI _ g)));refine⟨K,?_,f.n.trans d.n,f.sh.trans d.sh,f.m.trans d.m,f.st.trans d.st,f.sd.trans d.sd⟩;have e:Hs.a3 i b (k::ks) H VJ=(match (H.aA i k (b k)).2 with|none=>((H.aA i k (b k)).1,B0)|some a=>Hs.a3 i b ks (H.aA i k (b k)).1 (VJ && a)):=rfl;rw[e,n];exact D
def Fst (H:Hs) (i:Nat):Prop:=(H.tx i).state≠2\/∀ j,H.head 2=Bs j->Aj (lg H 2 j) 3 i
def qcb (b:Nat->Bool) (x:Bg H G B) (w:Bo H) (_h1:1<=i) (hi:i<=H.m) (V:(H.tx i).state=2) (S:∀ k∈(H.tx i).af,AH H k 2 i) :
  Fst (H.av i b).1 i/\(AH H 2 3 i->((H.av i b).1.tx i).state≠2):=by
 have Z:H.av i b=H.ends i b:=by unfold Hs.av;rw[if_pos V]
 rw[Z];obtain⟨K,Y,n⟩:=qbt b (H.tx i).af S;rw[q4m Y];obtain⟨e,_,y⟩:=w.head (s:=2) (by omega);have u:K.head 2=Bs e:=(PA n.n (by rw[n.sh])).trans y;have O:lg K 2 e=lg H 2 e:=by unfold lg;rw[n.sh]
 have h:∀ M:Hs,(((M.commit i).tx i).state)=3:=fun M=>by rw[q5o,if_pos rfl]
 cases f:place ((K.sh 2).nd e).log 3 i with
 | some p=>
  rw[q66 u f];obtain⟨c,c1,c2,c3⟩:=q4g f;split
  ·rename_i R;refine⟨.inr (fun q d=>?_),fun hs=>?_⟩
   ·rw[u] at d;injection d with d;subst d;exact⟨c,S2 c1,c2,c3⟩
   ·exfalso;obtain⟨Q,N,c',g,I,E,D,X⟩:=n.stab hs;rw[u] at g;injection g with g;subst g;obtain⟨q,d,U⟩:=qci (l:=((K.sh 2).nd e).log) I E D;rw[f] at d;injection d with d;omega
  ·exact⟨.inl (by show((K.commit i).tx i).state≠2;rw[h];decide),fun _=>by show((K.commit i).tx i).state≠2;rw[h];decide⟩
 | none=>
  rw[q85 u f];have v:¬AH H 2 3 i:=fun hs=>by
   obtain⟨Q,N,c',g,I,E,D,X⟩:=n.stab hs;rw[u] at g;injection g with g;subst g;obtain⟨q,d,_⟩:=qci (l:=((K.sh 2).nd e).log) I E D;rw[f] at d;cases d
  have A:=E3 K i;have z:(K.timed i).head 2=Bs e:=by rw[PA A.1 (by rw[A.2.2.2.1])];exact u
  have C:=Tq x w (s:=2) (by omega) (Cu y).1;have L:((((K.timed i).sh 2).nd e).add ⟨3,i,((K.timed i).tx i).ag,[]⟩ (b 2)).2.2=0:=by
   unfold Nd.add;rw[(Cu z).2,if_neg (by simp),if_neg (by rw[A.2.2.2.1,n.sh];unfold lg at C;omega)]
  have J:¬((K.timed i).add 2 e ⟨3,i,((K.timed i).tx i).ag,[]⟩ (b 2)).1<0:=by
   unfold Hs.add;rw[if_neg (by simp[L])];have:=(Oj L).2;show ¬((((K.timed i).sh 2).nd e).add _ _).2.1<0;omega
  rw[if_neg J];split
  ·refine⟨.inr (fun q d=>?_),fun hs=>absurd hs v⟩;have d:((K.timed i).add 2 e ⟨3,i,((K.timed i).tx i).ag,[]⟩ (b 2)).2.head 2=Bs q:=d;rw[UV,z] at d;injection d with d;subst d;show Aj (lg ((K.timed i).add 2 e ⟨3,i,((K.timed i).tx i).ag,[]⟩ (b 2)).2 2 e) 3 i;rw[(QH J).1];exact⟨_,WZ _ (List.mem_singleton.2 rfl),rfl,rfl⟩
  ·exact⟨.inl (by rw[h];decide),fun hs=>absurd hs v⟩
def Fst.up (h:Fst H i) (s:Cr H H'):Fst H' i:=by
 rcases h with h|h
 ·exact .inl (fun e=>h (s.bE.s2 i e))
 ·exact .inr (s.has h)
def q6f (bs:Nat->Nat->Bool):∀ (k i:Nat) (r:Hs×Bool),Bg r.1 G B->Bo r.1->1<=i->i+k<=r.1.m+1->∀ t,i<=t->t<i+k->(r.1.tx t).state=2->(∀ q∈(r.1.tx t).af,AH r.1 q 2 t)->
  Fst (Hs.round bs k i r).1 t/\(AH r.1 2 3 t->((Hs.round bs k i r).1.tx t).state≠2)
 | 0,i,r,_,_,_,_=>fun t n h=>by omega
 | k+1,i,r,x,w,n,I=>fun t A z h y=>by
  obtain⟨f,_⟩:=qb9 (bs i) x n (show i<=r.1.m by omega);have sm:=f.star.sm;have u:=Bg.c9 f x;have w1:=w.aR f.star.aR sm.m;have g:i+1+k<=(r.1.av i (bs i)).1.m+1:=by rw[sm.m];omega
  obtain⟨q1,_⟩:=q6z bs k (i+1) ((r.1.av i (bs i)).1,(r.1.av i (bs i)).2 || r.2) u (by omega) g;by_cases e:t=i
  ·subst e;obtain⟨E,D⟩:=qcb (bs t) x w n (show t<=r.1.m by omega) h y;exact⟨E.up q1,fun hs e=>D hs (q1.bE.s2 t e)⟩
  ·have C:=(q1v r.1 i (bs i)).1.other t e;have c:∀ {q kind},q<3->AH r.1 q kind t->AH (r.1.av i (bs i)).1 q kind t:=fun d hs=>hs.up d f.star.aR f.star.up.lg (f.sb x.a)
   have v:=q6f bs k (i+1) ((r.1.av i (bs i)).1,(r.1.av i (bs i)).2 || r.2) u w1 (by omega) g t (by omega) (by omega) (C.trans h) (fun q d=>by
    have d:q∈((r.1.av i (bs i)).1.tx t).af:=d;rw[f.bE.af] at d;exact c (by have:=BR d;omega) (y q d))
   exact⟨v.1,fun hs=>v.2 (c (by omega) hs)⟩
def q8b (h:DL H H') (x:Bg H G B) (w:Bo H) (f:1<=t) (v:t<=H.m) (d:(H.tx t).state=2) (c:∀ q∈(H.tx t).af,AH H q 2 t):Fst H' t/\(AH H 2 3 t->(H'.tx t).state≠2):=by
 cases h with
 | stop bs e=>exact q6f bs H.m 1 (H,Jx) x w (K0 _) (by show 1+H.m<=H.m+1;omega) t f (by omega) d c
 | more bs e r=>
  obtain⟨u,n⟩:=q6f bs H.m 1 (H,Jx) x w (K0 _) (by show 1+H.m<=H.m+1;omega) t f (by omega) d c;obtain⟨g,_⟩:=q6z bs H.m 1 (H,Jx) x (K0 _) (by show 1+H.m<=H.m+1;omega);obtain⟨s1,_⟩:=On r (Bg.c9 g x);exact⟨u.up s1,fun hs e=>n hs (s1.bE.s2 t e)⟩
def UP (c:CW H) (w:Bo H) (_x:Ad H B) (f:H.net.l=[]) (hs:s<3):∀ k p a,((H.sh s).ah H.n)[p]? = Bs a->p+k+1=((H.sh s).ah H.n).length->((lg H s a).length:Int)<=((H.sh s).nd a).an
 | 0,p,a,e,u=>by
  have n:=(w.cZ hs e).tail;rw[c.tail s hs a (w.lv e) (by rw[n];exact decide_eq_true (by omega))];exact WD _
 | k+1,p,a,e,u=>by
  obtain⟨b,h⟩:∃ b,((H.sh s).ah H.n)[p+1]? = Bs b:=⟨_,L1 (by omega)⟩
  have q:=UP c w _x f hs k (p+1) b h (by omega);have d:=c.pair s hs p a b e h;rw[f] at d;have x:((H.sh s).nd b).log.length=((H.sh s).nd a).log.length:=by
   rcases d.fw with g|⟨_,g⟩|⟨_,_,_,g⟩|g
   ·exact g
   ·cases g
   ·cases g
   ·have:=List.sublist_nil.1 g;have:=congrArg List.length this;simp at this;have:=d.le;omega
  have v:((H.sh s).nd b).an<=((H.sh s).nd a).an:=by
   rcases d.st with g|⟨_,_,_,g⟩|⟨_,_,g,_⟩
   ·exact g
   ·cases g
   ·cases g
  unfold lg at q ⊢;omega
def q7v (c:CW H) (w:Bo H) (x:Ad H B) (u:H.net.l=[]) (hs:s<3) {kind id:Int} (h:∀ j,H.head s=Bs j->Aj (lg H s j) kind id):AH H s kind id:=by
 obtain⟨j,f,g⟩:=w.head hs;obtain⟨d,v,z,y⟩:=h j g;obtain⟨p,e⟩:=List.mem_iff_getElem?.1 v;have hl:=(List.getElem?_eq_some_iff.1 f).1;have q:=UP c w x u hs (((H.sh s).ah H.n).length-1) 0 j f (by omega);have n:=(List.getElem?_eq_some_iff.1 e).1;exact⟨j,p,d,g,e,z,y,by unfold Hs.an;omega⟩
end
inductive Qs:Hs->Hs->Prop where
 | ss {H H':Hs} (h:Ss H H'):Qs H H'
 | tick {H:Hs} {s j:Nat} (hs:s<3) (hl:Lv H s j):Qs H (Hs.aG s H j)
 | arrive {H:Hs} {k:Nat} {m:Ms} (hk:H.net.l[k]? = Bs m):Qs H (({ H with net:=takeS H.net k } : Hs).arrive m)
inductive DI:Hs->Hs->Prop where
 | refl (H:Hs):DI H H
 | step {A B C:Hs} (h:Qs A B) (r:DI B C):DI A C
def DI.one {A B:Hs} (h:Qs A B):DI A B:=.step h (.refl B)
def DI.trans {A B C:Hs} (h:DI A B) (k:DI B C):DI A C:=by
 induction h with
 | refl=>exact k
 | step h _ c=>exact .step h (c k)
def Cr.cs {A B:Hs} (h:Cr A B):DI A B:=by
 induction h with
 | refl=>exact .refl _
 | step h _ c=>exact .step (.ss h) c
def Qs.b3 {H H':Hs} (h:Qs H H'):Bp H H':=by
 cases h with
 | ss h=>exact h.b3
 | tick hs hl=>exact .tick hs hl
 | arrive c=>exact .arrive c
def DI.star {A B:Hs} (h:DI A B):Ag A B:=by
 induction h with
 | refl=>exact .refl _
 | step h _ c=>exact .step h.b3 c
def NA (H:Hs) (t:Nat):Prop:=(H.tx t).state=3\/((H.tx t).state=2/\∀ k∈(H.tx t).af,(H.tx t).ae k=Bs (H.sh k).aa/\(0<=((H.tx t).places k).getD 0->∀ j,H.head k=Bs j->Aj (lg H k j) 2 t))
section
variable {H H':Hs} {G:Gh} {B:Int} {s j i t k:Nat} {m:Ms}
def Bg.cs (x:Bg H G B) (h:Qs H H'):Bg H' G B:=by
 cases h with
 | ss h=>exact x.ss h
 | tick hs hl=>exact x.tick hs hl
 | arrive c=>exact x.arrive c
def Bg.cP (h:DI H H'):Bg H G B->Bg H' G B:=by
 induction h with
 | refl=>exact id
 | step h _ c=>exact fun x=>c (x.cs h)
def q5p (m:Ms) (k:Nat) (H:Hs):(({ H with net:=takeS H.net k } : Hs).arrive m).m=H.m/\∀ t,((({ H with net:=takeS H.net k } : Hs).arrive m).tx t).state=(H.tx t).state/\((({ H with net:=takeS H.net k } : Hs).arrive m).tx t).ae=(H.tx t).ae/\((({ H with net:=takeS H.net k } : Hs).arrive m).tx t).places=(H.tx t).places:=by
 cases c:Hs.node { H with net:=takeS H.net k } m.a4 with
 | none=>rw[Ig c];exact⟨rfl,fun _=>⟨rfl,rfl,rfl⟩⟩
 | some r=>
  obtain⟨s,j⟩:=r;rw[Ih c];have t:=Bz.take ((({ H with net:=takeS H.net k } : Hs).aq s j (((H.sh s).nd j).step m).1).send (((H.sh s).nd j).step m).2) s;exact⟨t.m,fun q=>⟨(t.tx q).1,(t.tx q).2.2.1,(t.tx q).2.2.2.1⟩⟩
def Qs.bE (h:Qs H H'):No H H':=by
 cases h with
 | ss h=>exact h.bE
 | tick hs hl=>exact .of rfl (fun _=>⟨rfl,rfl⟩)
 | arrive c=>exact .of (q5p _ _ _).1 (fun t=>⟨((q5p _ _ _).2 t).1,((q5p _ _ _).2 t).2.1⟩)
def DI.bE (h:DI H H'):No H H':=by
 induction h with
 | refl=>exact .refl _
 | step h _ c=>exact h.bE.trans c
def DI.has (s:DI H H') {kind id:Int} (h:∀ j,H.head k=Bs j->Aj (lg H k j) kind id):∀ j,H'.head k=Bs j->Aj (lg H' k j) kind id:=fun j c=>by
 rw[s.star.aR.head] at c;exact(h j c).up (s.star.up.lg k j)
def Qs.na (h:Qs H H') (n:NA H t):NA H' t:=by
 have tx:=h.bE;rcases n with n|⟨n2,x⟩
 ·exact .inl ((tx.s34 t).1 n)
 ·have D:=h.b3.aR;have z:∀ k,(∀ j,H.head k=Bs j->Aj (lg H k j) 2 t)->∀ j,H'.head k=Bs j->Aj (lg H' k j) 2 t:=fun k g=>(DI.one h).has g
  have c:(H'.tx t).state=2->(∀ k,(H'.tx t).places k=(H.tx t).places k)->NA H' t:=fun O N=>.inr ⟨O,fun k u=>by
   rw[tx.af] at u;obtain⟨q1,v⟩:=x k u;rw[tx.sh,D.aa,N];exact⟨q1,fun f=>z k (v f)⟩⟩
  cases h with
  | tick hs hl=>exact c n2 (fun _=>rfl)
  | arrive u=>exact c (((q5p _ _ _).2 t).1.trans n2) (fun k=>by rw[((q5p _ _ _).2 t).2.2])
  | ss h=>
   cases h with
   | @abort i L I hs Q K=>
    by_cases e:t=i
    ·exfalso;subst e;obtain⟨k,j,u,E,y,w⟩:=K;obtain⟨q1,v⟩:=x k u;rcases w with g|g
     ·exact g q1
     ·exact y (v g j E)
    ·obtain⟨_,_,C⟩:=If H i;exact c (by rw[(C t).1,if_neg e];exact n2) (fun k=>by rw[(C t).2.2.2.1])
   | tell=>exact c (((DF _ _ _ _).2.2.2.2 t).1.trans n2) (fun k=>by rw[((DF _ _ _ _).2.2.2.2 t).2.2.2.1])
   | prep=>exact c (((C0 _ _ _ _ _).2.2.2.2 t).1.trans n2) (fun k=>by rw[((C0 _ _ _ _ _).2.2.2.2 t).2.2.2.1])
   | @place i k a L I u R hs J=>
    by_cases e:t=i
    ·subst e;have d:((H.a8 t k a).tx t) = { H.tx t with places:=AO (H.tx t).places k a }:=An _ _ _;refine .inr ⟨by rw[d];exact n2,fun q A=>?_⟩;rw[tx.af] at A;obtain⟨q1,v⟩:=x q A;rw[tx.sh,D.aa,d];refine⟨q1,fun f=>z q ?_⟩;by_cases M:q=k
     ·subst M;exact J
     ·refine v ?_;have f:0<=(AO (H.tx t).places k a q).getD 0:=f;unfold AO at f;rw[if_neg (by omega)] at f;exact f
    ·have d:((H.a8 i k a).tx t)=H.tx t:=As e _;exact c (by rw[d];exact n2) (fun q=>by rw[d])
   | @timed i=>exact c ((U4 H i t).trans n2) (fun k=>by rw[(IG H i t).2])
   | decide=>exact c (((C0 _ _ _ _ _).2.2.2.2 t).1.trans n2) (fun k=>by rw[((C0 _ _ _ _ _).2.2.2.2 t).2.2.2.1])
   | @commit i=>
    by_cases e:t=i
    ·subst e;refine .inl ?_;show(Af H.tx t _ t).state=3;rw[An]
    ·have d:((H.az i 3).tx t)=H.tx t:=As e _;exact c (by rw[d];exact n2) (fun q=>by rw[d])
def DI.na (h:DI H H'):NA H t->NA H' t:=by
 induction h with
 | refl=>exact id
 | step h _ c=>exact fun n=>c (h.na n)
def IE:∀ (Q:List (Nat×Nat)) {H:Hs},(∀ q∈Q,q.1<3/\Lv H q.1 q.2)->DI H (Bu H Q)
 | [],H,_=>.refl H
 | q::Q,H,h=>by
  obtain⟨e,d⟩:=h q VH;have f:=AT.tick H q.1 q.2;exact .step (.tick e d) (IE Q (fun y c=>⟨(h y (VI _ c)).1,f.lv.2 (h y (VI _ c)).2⟩))
def q5t (H:Hs):DI H H.aT:=by
 rw[q93];exact IE _ (fun q c=>q4y.1 (show(q.1,q.2)∈BX H from c))
def ID:∀ (Q:List (Nat×Nat)) {H:Hs},Ad H B->(∀ q∈Q,q.1<3/\Lv H q.1 q.2)->Hx H (Bu H Q)
 | [],H,_,_=>.refl H
 | q::Q,H,a,h=>by
  obtain⟨n,g⟩:=h q VH;have c:=Bp.tick n g;have f:=c.aR;have hs:Hx H (Hs.aG q.1 H q.2):=IW (s:=q.1) (j:=q.2) (d:=((H.sh q.1).nd q.2).tick.1) (fun hs hl=>MM (a.stb hs hl)) (fun _=>rfl);exact hs.trans (ID Q (a.step c).1 (fun y e=>⟨(h y (VI _ e)).1,f.lv.2 (h y (VI _ e)).2⟩)) (fun s j hl=>f.lv.2 hl)
def qc3 (a:Ad H B):Hx H H.aT:=by
 rw[q93];exact ID _ a (fun q c=>q4y.1 (show(q.1,q.2)∈BX H from c))
def q7h (d:Pq n H H'):Bg H G B->DI H H':=by
 induction d with
 | zero=>exact fun _=>.refl _
 | none h=>exact fun _=>.refl _
 | @more k H H1 H' h d _ f=>
  intro x;cases d with
  | none g=>exact absurd (Wd (by omega)) h
  | @some m e _ r=>
   have c:=x.arrive e;obtain⟨s1,_⟩:=On r c;exact .step (.arrive e) (s1.cs.trans (f (Bg.c9 s1 c)))
structure RoP (H H':Hs) (G:Gh) (B:Int):Prop where
 x:Bg H' G B
 w:Bo H'
 nil:H'.net.l=[]
 done:∀ t,1<=t->t<=H'.m->Ei H' t
 cs:DI H H'
 cv:H.net.l=[]->CW H'
def q5y {H1:Hs} (x:Bg H G B) (w:Bo H) (n:H.net.l.length<=200) (t:DX H H1) (d:Pq 5000 H1 H'):RoP H H' G B:=by
 obtain⟨x0,c⟩:=qc4 x w;obtain⟨s1,y⟩:=On t x0;have f:=Bg.c9 s1 x0;have w1:=c.aR s1.star.aR s1.star.sm.m;obtain⟨x2,g,u,z,v⟩:=RY d f w1;have h:DH H1<=5000:=by
  have q:=MT s1 c x0;have D:=NU n;have C:=(qcg H.aT.net.l).2;have A:=gsum_b c;unfold DH at q ⊢;omega
 exact⟨x2,g,u h,v y,((q5t H).trans s1.cs).trans (q7h d f),fun e=>z (CW.c9 s1 (CW.aT w x.a e) c x0)⟩
def Vq (x:Bg H G B) (w:Bo H) (Z:H.net.l.length<=200) (r:Cd 4 H H') :
  Bg H' G B/\Bo H'/\(∀ t,1<=t->t<=H'.m->(H'.tx t).state≠2)/\(∀ t,1<=t->t<=H'.m->Ei H' t)/\DI H H'/\H'.net.l=[]:=by
 cases r with
 | @more _ _ A1 A2 _ Y da r=>
 cases r with
 | @more _ _ B1 L _ tb db r=>
 cases r with
 | @more _ _ C1 v _ M U r=>
 cases r with
 | @more _ _ D1 D2 _ R dd r=>
 cases r with
 | zero=>
 have pa:=q5y x w Z Y da;have d:=q5y pa.x pa.w (by rw[pa.nil];decide) tb db;have c:=q5y d.x d.w (by rw[d.nil];decide) M U;have y:=q5y c.x c.w (by rw[c.nil];decide) R dd;have N:∀ {A C:Hs},DI A C->C.m=A.m:=fun h=>h.bE.m
 have f3:∀ t,1<=t->t<=v.m->Fst v t:=fun t I S=>by
  by_cases e:(v.tx t).state=2
  ·have E:t<=L.m:=by rw[<- N c.cs];exact S
   have O:=c.cs.bE.s2 t e;obtain⟨x0,Q⟩:=qc4 d.x d.w;have f:=q5t L;have z:(L.aT.tx t).state=2:=by
    rcases On M x0 with ⟨s1,_⟩
    have s2:=q7h U (Bg.c9 s1 x0);exact s1.bE.s2 t (s2.bE.s2 t e)
   have u:∀ q∈(L.aT.tx t).af,AH L.aT q 2 t:=fun q D=>by
    rw[f.bE.af] at D;have n:q<3:=by have:=BR D;omega
    exact(q7v (d.cv pa.nil) d.w d.x.a d.nil n ((d.done t I E).1 O q D)).up n f.star.aR f.star.up.lg (qc3 d.x.a)
   obtain⟨K,_⟩:=q8b M x0 Q I (by rw[N f];exact E) z u;rcases On M x0 with ⟨s1,_⟩
   have s2:=q7h U (Bg.c9 s1 x0);rcases K with K|K
   ·exact .inl (fun e=>K (s2.bE.s2 t e))
   ·exact .inr (s2.has K)
  ·exact .inl e
 have f4:∀ t,1<=t->t<=H'.m->(H'.tx t).state≠2:=fun t I S e=>by
  have E:t<=v.m:=by rw[<- N y.cs];exact S
  have O:=y.cs.bE.s2 t e;obtain⟨x0,Q⟩:=qc4 c.x c.w;have f:=q5t v;rcases On R x0 with ⟨s1,_⟩
  have s2:=q7h dd (Bg.c9 s1 x0);have V:=s2.bE.s2 t e;have z:(v.aT.tx t).state=2:=s1.bE.s2 t V;have X:=c.cv d.nil;have u:∀ q∈(v.aT.tx t).af,AH v.aT q 2 t:=fun q D=>by
   rw[f.bE.af] at D;have n:q<3:=by have:=BR D;omega
   exact(q7v X c.w c.x.a c.nil n ((c.done t I E).1 O q D)).up n f.star.aR f.star.up.lg (qc3 c.x.a)
  have J:AH v.aT 2 3 t:=by
   rcases f3 t I E with g|g
   ·exact absurd O g
   ·exact(q7v X c.w c.x.a c.nil (by omega) g).up (by omega) f.star.aR f.star.up.lg (qc3 c.x.a)
  exact(q8b R x0 Q I (by rw[N f];exact E) z u).2 J V
 exact⟨y.x,y.w,f4,y.done,((pa.cs.trans d.cs).trans c.cs).trans y.cs,y.nil⟩
end
structure EI (H:Hs):Prop where
 ca:Bb H (fun _=>False)
 sz:SzI H
 ne:∀ s,s<3->(H.sh s).ah H.n≠[]
 n3:H.n<=3
section
variable {H H':Hs} {G:Gh} {B:Int} {i:Nat}
def AD.cx (h:AD H G B) (e:EI H) (c:H.m<=40):Bg H G B:=⟨h.a,h.s,c,e.ca,e.sz⟩
def EI.aR (e:EI H) (h:Bb H' (fun _=>False)) (c:AT H H'):EI H':=⟨h,e.sz.aR c,fun s hs=>by rw[c.live];exact e.ne s hs,by rw[c.n];exact e.n3⟩
def EI.cP (e:EI H) (s:DI H H') (x:Bg H G B):EI H':=e.aR (Bg.cP s x).ca s.star.aR
def EI.settle (e:EI H) (x:Bg H G B) (r:DL H H'):EI H':=e.cP (On r x).1.cs x
def EI.begin (e:EI H):EI H.begin:=by
 refine e.aR (e.ca.same ⟨WT _,fun _ _=>rfl,fun _ _ _ d=>⟨d,rfl⟩,fun a _ h k c=>?_,fun a _ h=>.inl ?_⟩) ⟨rfl,rfl,fun _ _=>.refl _,fun _=>rfl,fun _=>rfl,fun _=>rfl,rfl⟩
 ·rw[UY H (by omega)];exact c
 ·rw[UY H (by omega)]
def EI.net (e:EI H) (n:AW) (f:n.ao=H.net.ao):EI { H with net:=n }:=
 e.aR (e.ca.same ⟨K0 _,fun _ _=>rfl,fun _ _ _ d=>⟨d,rfl⟩,fun _ _ _ _ c=>c,fun _ _ _=>.inl rfl⟩) (.net H f)
def Nf (H:Hs) (id:Int) (x:Sx):(H.get id x).2=(H.lock id x 1).2:=by
 unfold Hs.get;simp only;split
 ·rfl
 ·split <;> rfl
def EI.lock (e:EI H) (h:AD H G B) (c:H.m<=40) (id:Int) {k:Sx} {mode:Int} (f:k∈names) (d:Br mode):EI (H.lock id k mode).2:=
 e.aR (e.ca.lock h.s h.a c f d) (QO h.a.wf h.a.c f d).aR
def EI.get (e:EI H) (h:AD H G B) (c:H.m<=40) (id:Int) {x:Sx} (d:x∈names):EI (H.get id x).2:=by
 rw[Nf];exact e.lock h c id d (by unfold Br;omega)
def EI.au (e:EI H) {t:Bl} (hs:t.state=(H.tx i).state\/((H.tx i).state=1/\t.state=2)) (d:t.ae=(H.tx i).ae):EI (H.au i t):=
 e.aR (e.ca.au hs (fun k c=>by rw[Dp d];exact c)) (.au _ _ _)
def EI.put (e:EI H) (h:AD H G B) (c:H.m<=40) (id:Int) {p:Pr} (f:sx p.key∈names):EI (H.put id p).2:=by
 have d:=e.lock h c id (mode:=2) f (by unfold Br;omega);unfold Hs.put;split
 ·exact e
 ·simp only;split
  ·exact d
  ·split
   ·exact d.au (.inl rfl) rfl
   ·exact d
def qad (h:AD H G B) (e:EI H) (q:B<=999000) (d:H.m<=40) (c:Ir H i) (f:(H.tx i).state=1) (n:(H.tx i).aj=[]):Bg (H.ending i) ⟨G.E++[i],G.rd⟩ (B+3)/\EI (H.ending i):=by
 have g:EI (H.ending i):=e.au (.inr ⟨f,rfl⟩) rfl;exact⟨⟨h.act q (.ends c.1 c.2 f n (.refl _)),h.s.ending h.o c f n,d,g.ca,g.sz⟩,g⟩
def EI.ends (e:EI H) (h:AD H G B) (f:B<=999000) (c:H.m<=40) (d:Ir H i) (n:(H.tx i).state=1) (g:(H.tx i).aj=[]) (r:DL (H.ending i) H'):EI H':=by
 obtain⟨x,q⟩:=qad h e f c d n g;exact q.settle x r
def EI.abort (e:EI H) (h:SI H G (fun _ _=>False)) (a:Ad H B) (d:1<=i) (c:i<=H.m) (hs:(H.tx i).state=1):EI (H.abort i):=
 e.aR ((e.ca.abort h a.wf a.bj a.c d c (.inl hs)).mono (fun _ g=>g.1)) (.abort H i)
def R3 (r:Cd n H H'):Bg H G B->DI H H':=by
 induction r with
 | zero=>exact fun _=>.refl _
 | @more k A h g f t d _ e=>
  intro x;have x0:=Bg.cP (q5t A) x;have s1:=(On t x0).1.cs;have c:=Bg.cP s1 x0;have s2:=q7h d c;exact((q5t A).trans (s1.trans s2)).trans (e (Bg.cP s2 c))
def Pa (H:Hs) (id:Int) (k:Nat):((H.fail id).sh k).size=(H.sh k).size:=by
 cases c:H.node id with
 | none=>rw[q4l c]
 | some q=>
  obtain⟨s,j⟩:=q;rw[q4k c];show((H.aK s id).sh k).size=_;by_cases d:k=s
  ·subst d;show(Af H.sh k _ k).size=_;rw[An]
  ·show(Af H.sh s _ k).size=_;rw[As d]
def Uh (H:Hs) {id:Int} (hl:Lv H k j) (c:((H.sh k).nd j).id≠id):Lv (H.fail id) k j:=by
 cases d:H.node id with
 | none=>rw[q4l d];exact hl
 | some q=>
  obtain⟨s,i⟩:=q;have f:=Eu H id;refine⟨by rw[f.n];exact hl.1,?_⟩;rw[(f.sh k).1,q4k d];show((H.aK s id).sh k).ao _=Jx;by_cases e:k=s
  ·subst e;show(Af H.sh k _ k).ao _=Jx;rw[An];show(decide _ || _)=Jx;rw[decide_eq_false c,hl.2];rfl
  ·show(Af H.sh s _ k).ao _=Jx;rw[As e];exact hl.2
def EI.fail (e:EI H) (a:Ad H B) {s j:Nat} (hs:s<3) (Q:j<10) (A:1<((H.sh s).ah H.n).length):EI (H.fail (10*s+j)):=by
 have f:=Eu H (10*s+j);have C:∀ k q,lg (H.fail (10*s+j)) k q=lg H k q:=fun k q=>by unfold lg;rw[(f.sh k).1]
 have w:∀ k q,Lv (H.fail (10*s+j)) k q->Lv H k q:=fun k q ⟨z,u⟩=>by
  rw[(f.sh k).1] at u;exact⟨by rw[f.n] at z;exact z,f.ao k _ u⟩
 have L:=a.wf.n4;refine⟨e.ca.same ⟨by rw[f.m];exact K0 _,fun k _=>(f.sh k).2.1,fun k q n d=>?_,fun t _ _ k n=>by rw[f.tx];exact n,fun t _ _=>.inl (by rw[f.tx])⟩,fun k n q d=>?_,fun k n M=>?_,by rw[f.n];exact e.n3⟩
 ·obtain⟨z,u⟩:=Cu d;rw[(f.sh k).1] at u;exact⟨M8 a (by omega) (w k q z) u,C k q⟩
 ·rw[Pa,(f.sh k).1];exact e.sz k n q (w k q d)
 ·have D:∀ q,Lv H k q->((H.sh k).nd q).id=BL k q:=fun q d=>a.ch.ids k q (by rw[a.c];exact n) d.1
  have J:∀ q,¬Lv (H.fail (10*s+j)) k q:=fun q d=>by
   have:=ET.2 d;rw[M] at this;cases this
  have c:∀ q,Lv H k q->BL k q=10*s+j:=fun q d=>V5 fun g=>J q (Uh H d (by rw[D q d];exact g))
  by_cases N:k=s
  ·subst N
   match h:(H.sh k).ah H.n with
   | []=>rw[h] at A;simp at A
   | [_]=>rw[h] at A;simp at A
   | x::y::l=>
    have v:=q3o (H.sh k) H.n;rw[h] at v;have K:=(List.pairwise_cons.1 v).1 y VH;have E:=c x (ET.1 (by rw[h];exact VH));have O:=c y (ET.1 (by rw[h];exact VI _ VH));unfold BL at E O;omega
  ·cases h:(H.sh k).ah H.n with
   | nil=>exact e.ne k n h
   | cons x l=>
    have I:=ET.1 (show x∈(H.sh k).ah H.n by rw[h];exact VH);have E:=c x I;have:=I.1;unfold BL at E;omega
def EI.bq (e:EI H) (a:Ad H B) {s j:Nat} (hs:s<3) (c:j<10):EI (H.bq VJ s j):=by
 unfold Hs.bq;split
 ·rename_i h;exact e.fail a hs c (h.resolve_right (by simp))
 ·exact e
def qbm (s:Nat) (ids:List Int):∀ (l:List Nat) (H:Hs) (k:Nat),((l.foldl (Hs.a5 s ids) H).sh k).size=(H.sh k).size
 | [],_,_=>rfl
 | j::l,H,k=>by
  refine(qbm s ids l (Hs.a5 s ids H j) k).trans ?_;show((H.aq s j _).sh k).size=_;by_cases e:k=s
  ·subst e;rw[D9]
  ·rw[Ic H j _ e]
def SW.du (h:SW H s) (hl:(H.sh s).ah H.n≠[]):((H.fix s).sh s).size=((H.sh s).ah H.n).length/\∀ j,Lv H s j->(((H.fix s).sh s).nd j).nodes=((H.sh s).ah H.n).map (BL s):=by
 rw[q8s hl];have x:wrap64 ((H.sh s).aa+1)=(H.sh s).aa+1:=IntWalk.wrap64_in _ ⟨by have:=h.ep;omega,by have:=h.ep;omega⟩;have f:∀ i,i∈(H.sh s).ah H.n↔Lv H s i:=fun i=>ET
 have n:=q3o (H.sh s) H.n;have q:=Bm.dt (H:=H) (s:=s) (fun j e=>h.ids s j h.hs e.1);unfold Hs.bh;simp only[q,x];generalize D:(H.sh s).ah H.n=L at *;generalize c:H.ar s { H.sh s with aa:=(H.sh s).aa+1,size:=L.length } = H1;have d:H1.sh s = { H.sh s with aa:=(H.sh s).aa+1,size:=L.length }:=by rw[<- c];exact Cl _ _ _
 have w:Ks H H1 s ((H.sh s).aa+1) L (fun _=>False):=by
  refine⟨by rw[<- c];rfl,by rw[<- c];rfl,fun a y=>by rw[<- c];exact As y _,by rw[d],by rw[d],fun j _=>by rw[d],fun j e=>e.elim,fun m v=>?_,by rw[<- c];rfl⟩;rw[<- c] at v;obtain⟨C,A,_⟩:=h.ms m v;exact⟨C,A,.inl v⟩
 have z:=Ks.ds h f n L w (fun j e=>⟨(f j).1 e,fun h=>h⟩) (n.imp (fun {a b} h=>by omega));have u:=qbm s (L.map (BL s)) L H1 s;generalize List.foldl (Hs.a5 s (L.map (BL s))) H1 L=H2 at *;have g:=Bz.take (H2.ar s { H2.sh s with tab:=fun _=>B0,sto:=fun _=>[],done:=0 }) s;refine⟨?_,fun j e=>?_⟩
 ·rw[g.size,Cl];show(H2.sh s).size=_;rw[u,d]
 ·rw[g.nd,Cl];exact(z.nd1 j (.inl ((f j).2 e))).2.2.1
def q8t (f:FixF H H' s) (d:k<H.c):(H'.sh k).ah H'.n=(H.sh k).ah H.n:=by
 unfold Bm.ah;rw[f.n];refine XA (fun j c=>?_);have c:=List.mem_range.1 c;have:=f.lv k j d;unfold Lv at this;rw[f.n] at this;simp only[c,true_and] at this;cases g:(H'.sh k).ao ((H'.sh k).nd j).id <;> cases e:(H.sh k).ao ((H.sh k).nd j).id <;> simp[g,e] at this ⊢
def EI.fix (e:EI H) (h:SI H G (fun _ _=>False)) (a:Ad H B) (q:B<=1000000) {s:Nat} (hs:s<3):EI (H.fix s):=by
 have f:=(a.fix q hs).2.2.2;have n:∀ k,k<3->k<H.c:=fun k c=>by rw[a.c];exact c
 refine⟨e.ca.fix h a q hs,fun k c j v=>?_,fun k c=>by rw[q8t f (n k c)];exact e.ne k c,by rw[f.n];exact e.n3⟩;have d:=(f.lv k j (n k c)).1 v;by_cases g:k=s
 ·subst g;obtain⟨q1,u⟩:=(a.ch.toF (s:=k) (n k c) (by have:=a.ep k c;omega)).du (e.ne k c);rw[q1,u j d,We]
 ·rw[f.sh k g];exact e.sz k c j d
def EI.a9 (e:EI H) (h:SI H G (fun _ _=>False)) (a:Ad H B) (c:B<=1000000) {s:Nat} (hs:s<3):EI (H.a9 s):=by
 unfold Hs.a9;split
 ·exact e
 ·exact e.fix h a c hs
def MC (H:Hs) (s:Nat):Prop:=∀ j,Lv H s j->((H.sh s).nd j).nodes=((H.sh s).ah H.n).map (BL s)
def qb7:∀ (a b:List Nat),a.Pairwise (· < ·)->b.Pairwise (· < ·)->a ⊆ b->b.length<=a.length->a=b
 | [],b,_,_,_,h=>(Wd (by simpa using h)).symm
 | x::a,[],_,_,h,_=>(nomatch h VH)
 | x::a,y::b,ha,hb,h,hl=>by
  rw[List.pairwise_cons] at ha hb;have d:x=y->a ⊆ b:=fun e z c=>by
   have w:=ha.1 z c;rcases List.mem_cons.1 (h (VI _ c)) with g|g
   ·omega
   ·exact g
  by_cases e:x=y
  ·rw[e,qb7 a b ha.2 hb.2 (d e) (by simpa using hl)]
  ·exfalso;have q:x∈b:=(List.mem_cons.1 (h VH)).resolve_left e;have n:=hb.1 x q;have v:(x::a) ⊆ b:=fun z c=>by
    rcases List.mem_cons.1 (h c) with g|g
    ·rcases List.mem_cons.1 c with f|f
     ·omega
     ·have:=ha.1 z f;omega
    ·exact g
   have u:(x::a).Nodup:=(List.pairwise_cons.2 ha).imp (fun {a b} h=>by omega);have:=WI u v;simp only[Wl] at this hl;omega
def S0 (e:EI H) (a:Ad H B) (hs:s<3) (g:(H.sh s).b8 H.n=VJ):MC H s:=fun j z=>by
 have d:=e.ne s hs;obtain⟨L,v⟩:=a.ch.cfg s (by rw[a.c];exact hs);have h:=e.sz s hs j z;have f:=(v.nd j z).2.1;rw[f,We] at h;have c:(H.sh s).ah H.n ⊆ L:=fun q A=>v.mem q (ET.1 A)
 have w:((H.sh s).ah H.n).length=L.length:=by
  unfold Bm.b8 at g;cases u:((H.sh s).ah H.n).head? with
  | none=>rw[List.head?_eq_none_iff] at u;exact absurd u d
  | some x=>
   cases n:((H.sh s).ah H.n).getLast? with
   | none=>rw[List.getLast?_eq_none_iff] at n;exact absurd n d
   | some y=>
    rw[u,n] at g;simp only[Wj,beq_iff_eq] at g;have:=g.2;omega
 rw[f,qb7 _ _ (q3o (H.sh s) H.n) v.sorted c (by omega)]
def MC.other (h:MC H k) (a:Ad H B) (n:B<=1000000) (hs:s<3) (e:k<3) (c:k≠s):MC (H.a9 s) k:=by
 unfold Hs.a9;split
 ·exact h
 ·have f:=(a.fix n hs).2.2.2;have d:k<H.c:=by rw[a.c];exact e
  intro j g;rw[q8t f d,f.sh k c];exact h j ((f.lv k j d).1 g)
def MC.self (e:EI H) (a:Ad H B) (h:B<=1000000) (hs:s<3):MC (H.a9 s) s:=by
 unfold Hs.a9;split
 ·rename_i d;exact S0 e a hs d
 ·have f:=(a.fix h hs).2.2.2;have c:s<H.c:=by rw[a.c];exact hs
  intro j g;rw[q8t f c];exact((a.ch.toF (s:=s) c (by have:=a.ep s hs;omega)).du (e.ne s hs)).2 j ((f.lv s j c).1 g)
def MC.aR (h:MC H s) (c:AT H H'):MC H' s:=fun j d=>by
 rw[c.live,(c.nd s j).2.2.1];exact h j (c.lv.1 d)
def wli (e:EI H) (a:Ad H B) (q:H.m<=8) (h:∀ s,s<3->MC H s):Bo H:=by
 refine⟨fun s hs=>?_,e.ne,e.n3,q⟩;obtain⟨L,n⟩:=a.ch.cfg s (by rw[a.c];exact hs);have:L=(H.sh s).ah H.n:=by
  cases c:(H.sh s).ah H.n with
  | nil=>exact absurd c (e.ne s hs)
  | cons j l=>
   have d:=ET.1 (show j∈(H.sh s).ah H.n by rw[c];exact VH);have f:=(n.nd j d).2.1;rw[h s hs j d,c] at f;exact((List.map_inj_right (fun x y g=>by unfold BL at g;omega)).1 f).symm
 rw[<- this];exact n
def EI.b4 (e:EI H) (h:SI H G (fun _ _=>False)) (a:Ad H B) (n:B<=999000):EI ([0,1,2].foldl Hs.a9 H)/\∀ s,s<3->MC ([0,1,2].foldl Hs.a9 H) s:=by
 have c:=(a.a9 (s:=0) (by omega) (by omega)).1;have d:=(c.a9 (s:=1) (by omega) (by omega)).1;have s0:=h.a9 a (by omega) (s:=0) (by omega);have s1:=s0.a9 c (by omega) (s:=1) (by omega);have g:=e.a9 h a (by omega) (s:=0) (by omega);have f:=g.a9 s0 c (by omega) (s:=1) (by omega);refine⟨f.a9 s1 d (by omega) (s:=2) (by omega),fun s hs=>?_⟩;rcases(show s=0\/s=1\/s=2 by omega) with rfl|rfl|rfl
 ·exact((MC.self e a (by omega) (s:=0) (by omega)).other c (by omega) (by omega) (by omega) (by omega)).other d (by omega) (by omega) (by omega) (by omega)
 ·exact(MC.self g c (by omega) (s:=1) (by omega)).other d (by omega) (by omega) (by omega) (by omega)
 ·exact MC.self f d (by omega) (s:=2) (by omega)
def EI.aY:∀ (l:List Nat) {H:Hs},EI H->SI H G (fun _ _=>False)->Ad H B->H.m<=40->(∀ i∈l,1<=i/\i<=H.m)->EI (l.foldl Hs.a7 H)
 | [],_,e,_,_,_,_=>e
 | i::l,H,e,s,a,h40,hl=>by
  have c:=hl i VH;have d:=q9b (H:=H) c.1 c.2;obtain⟨s2,n⟩:=SI.star d s a h40;have f:=d.sm.m;refine EI.aY l (H:=H.a7 i) ?_ s2 n (by rw[f];exact h40) (fun x h=>by rw[f];exact hl x (VI _ h));unfold Hs.a7;split
  ·rename_i g;exact e.abort s a c.1 c.2 g.1
  ·exact e
def EI.cH (e:EI H) (h:AD H G B) (d:B<=999000) (A:H.m<=8) (r:E8 H H'):EI H'/\Bo H':=by
 obtain⟨u,w⟩:=e.b4 h.s h.a d;obtain⟨n,u1⟩:=h.a.b4 d;have s1:=h.s.b4 h.a d;have z:([0,1,2].foldl Hs.a9 H).m=H.m:=u1.m;have hl:∀ i∈Wh 1 ([0,1,2].foldl Hs.a9 H).m,1<=i/\i<=([0,1,2].foldl Hs.a9 H).m:=fun i q=>by rw[Xz] at q;omega
 have c:Ag ([0,1,2].foldl Hs.a9 H) ([0,1,2].foldl Hs.a9 H).aY:=q4r _ hl;obtain⟨s2,x⟩:=SI.star c s1 n (by omega);have f:EI ([0,1,2].foldl Hs.a9 H).aY:=EI.aY _ u s1 n (by omega) hl;have y:=c.sm.m;have x2:Bg ([0,1,2].foldl Hs.a9 H).aY G (B+3):=⟨x,s2,by omega,f.ca,f.sz⟩
 have ss:=(On r x2).1;have g:=f.cP ss.cs x2;have v:=c.aR.trans ss.star.aR;refine⟨g,wli g (Bg.c9 ss x2).a (by rw[ss.star.sm.m];omega) (fun s hs=>(w s hs).aR v)⟩
def EI.mid {nodes:Nat} {now:Int} {x:ActX} (e:EI H) (h:AD H G B) (g:B<=999000) (f:H.m=T.length) (C:T.length<=7) (u:1<=nodes/\nodes<=9) (r:Ba VJ nodes now x H T H' T'):EI H':=by
 have c:H.m<=40:=by omega
 have d:=h.cx e c;cases r with
 | begin=>exact e.begin
 | full|none|dropE|other=>exact e
 | get|getE=>exact e.get h c _ (QN x.a)
 | put|putE=>exact e.put h c _ (p:=PE x) (by show sx (bs (AY x.a))∈names;rw[Qo];exact QN x.a)
 | ends _ r=>
  cases r with
  | missing|state|waits=>exact e
  | ends w z y r=>exact e.ends h g c ⟨by omega,by omega⟩ z y r
 | drop=>
  unfold Hs.drop;split
  ·exact e
  ·split
   ·exact e
   ·rename_i D A;exact e.abort h.s h.a (by omega) (by omega) (Classical.not_not.1 A)
 | deliver _ _ r=>
  cases r with
  | none=>exact e
  | @some m v _ r=>
   have s1:Qs H _:=.arrive v;have q:=d.cs s1;exact(e.cP (.one s1) d).settle q r
 | lose=>exact e.net _ rfl
 | twice=>
  unfold Hs.twice;split
  ·exact e
  ·exact e.net _ (q4e _ _)
 | tick _ r=>
  have s1:=q5t H;exact(e.cP s1 d).settle (Bg.cP s1 d) r
 | fail=>exact e.bq h.a (K9 _ (by omega)) (by have:=K9 x.tx (n:=nodes) (by omega);omega)
 | fix _ r=>exact(e.cH h g (by omega) r).1
 | calm _ r=>exact e.cP (R3 r d) d
def q60 {n:Nat} (I:1<=n) (A:n<=4):∀ q,q<=3->(∀ s i,((AG n q).sh s).ao i=Jx)/\∀ s,s<q->((AG n q).sh s).size=(((AG n q).sh s).ah (AG n q).n).length/\MC (AG n q) s
 | 0,_=>⟨fun _ _=>rfl,fun s h=>by omega⟩
 | q+1,J=>by
  obtain⟨C,D⟩:=q60 I A q (by omega);obtain⟨u,E⟩:=UZ A q (by omega);have v:=u.c;have e:AG n (q+1)=(AG n q).cc.fix q:=by
   show(AG n q).cc.fix (AG n q).c=_;rw[v]
  have z:=u.ch.cc (by rw[v];exact u.new q (K0 _)) (fun s j _ _=>E _);rw[v] at z;have f:=z.fix;have y:(AG n q).cc.c=q+1:=by show(AG n q).c+1=_;rw[v]
  have hl:((AG n q).cc.sh q).ah (AG n q).cc.n≠[]:=fun g=>by
   have:(0:Nat)∈((AG n q).cc.sh q).ah (AG n q).cc.n:=ET.2 ⟨by show 0<(AG n q).n;rw[u.n];omega,C q _⟩;rw[g] at this;cases this
  rw[e];refine⟨fun s i=>by rw[f.ao];exact C s i,fun s hs=>?_⟩;have d:s<(AG n q).cc.c:=by rw[y];exact hs
  have c:=q8t f d;by_cases g:s=q
  ·subst g;obtain⟨q1,w⟩:=z.du hl;exact⟨by rw[q1,c],fun j x=>by rw[w j ((f.lv s j d).1 x),c]⟩
  ·obtain⟨q1,w⟩:=D s (by omega);refine⟨?_,fun j x=>?_⟩
   ·rw[c,f.sh s g];exact q1
   ·rw[c,f.sh s g];exact w j ((f.lv s j d).1 x)
def EI.new (u:1<=n) (w:n<=3):EI (BD n):=by
 have d:=q9w (n:=n) (by omega) 3 (K0 _);obtain⟨e,c⟩:=q60 u (by omega) 3 (K0 _);have f:=(q86 (n:=n) (by omega)).2.2;rw[<- Et] at d e c;refine⟨⟨fun k _ x o m h=>?_,fun k _ x o m p v h=>?_⟩,fun s hs j q=>by rw[(c s hs).1,(c s hs).2 j q,We],fun s _ g=>?_,by omega⟩
 ·rw[(d k).1] at h;cases h
 ·rw[(d k).1] at h;cases h
 ·have:(0:Nat)∈((BD n).sh s).ah (BD n).n:=ET.2 ⟨by omega,e s _⟩;rw[g] at this;cases this
def Bo.new {n:Nat} (d:1<=n) (e:n<=3):Bo (BD n):=by
 obtain⟨_,c⟩:=q60 d (by omega) 3 (K0 _);rw[<- Et] at c;obtain⟨a,f,_⟩:=q86 (n:=n) (by omega);exact wli (EI.new d e) a (by omega) (fun s hs=>(c s hs).2)
end
structure Qt (H:Hs):Prop where
 hd:∀ k,k<2->H.head k≠B0
 n2:∀ t,Ir H t->(H.tx t).state≠2
 dn:∀ t,Ir H t->(H.tx t).state=3\/(H.tx t).state=4->∀ k∈(H.tx t).af,∀ j,H.head k=Bs j->¬Ed (lg H k j) t
structure Dv (H:Hs) (i:Nat):Prop where
 q:Qt H
 ir:Ir H i
 s1:(H.tx i).state=1
 el:∀ t,1<=t->t<i->(H.tx t).state≠1
section
variable {H H':Hs} {G:Gh} {B:Int} {i p:Nat}
def Qt.calm (w:Bo H) (n:∀ t,1<=t->t<=H.m->(H.tx t).state≠2) (h:∀ t,1<=t->t<=H.m->Ei H t):Qt H:=by
 refine⟨fun k g e=>?_,fun t c=>n t c.1 c.2,fun t c f k g j d=>(h t c.1 c.2).2 f k g j d⟩;obtain⟨j,_,d⟩:=w.head (s:=k) (by omega);rw[d] at e;cases e
def Qt.ho (q:Qt H) (s:SI H G (fun _ _=>False)) (u:Bb H (fun _=>False)) (g:k<2) {o m:Int} (h:(Ac (H.sh k).tab x).h o=Bs m):(1<=o/\o<=H.m)/\(H.tx o.toNat).state=1:=by
 obtain⟨q1,n,d⟩:=u.src k g x o m h;have c:Ir H o.toNat:=⟨by omega,by omega⟩
 refine⟨q1,?_⟩;rcases d with d|d|d
 ·exact d
 ·exact absurd d (q.n2 _ c)
 ·have v:=s.st _ c;have w:=q.n2 _ c;refine V5 fun e=>?_
  cases f:H.head k with
  | none=>exact q.hd k g f
  | some j=>
   refine q.dn _ c (by omega) k n j f ?_;rw[show((o.toNat:Nat):Int)=o by omega];exact d j f
def Dv.nowt (e:Dv H i) (s:SI H G (fun _ _=>False)) (D:Bb H (fun _=>False)) (n:k<2) {m:Int} : ¬Wt (H.sh k).tab x i m:=fun z=>by
 have C:=s.gt k (by omega) x;obtain⟨a,b,c⟩:=List.append_of_mem (show((i:Int),m)∈(Ac (H.sh k).tab x).ws from z);have u:=C.sorted;rw[c] at u;have d:a=[]:=by
  cases a with
  | nil=>rfl
  | cons v a=>
   exfalso;have h:=(List.pairwise_append.1 u).2.2 v VH _ VH;have I:Wt (H.sh k).tab x v.1 v.2:=by show(v.1,v.2)∈(Ac (H.sh k).tab x).ws;rw[c];simp
   obtain⟨w1,E,_⟩:=s.wt k n x v.1 v.2 I;have h:v.1<(i:Int):=h;exact e.el v.1.toNat (by omega) (by omega) E
 subst d;refine C.ak [] _ b c (.inr ⟨fun o y A f=>?_,rfl⟩);have f:o≠(i:Int):=f;obtain⟨K,w⟩:=e.q.ho s D n A;have J:¬o.toNat<i:=fun g=>e.el o.toNat (by omega) g w
 cases q:AI y m with
 | false=>rfl
 | true=>
  exfalso;unfold AI at q;simp only[X8,decide_eq_true_eq] at q;exact D.yb k n x i m o y z A (by omega) q (fun g=>g) w
def Dv.bR (e:Dv H i) (s:SI H G (fun _ _=>False)) (g:Bb H (fun _=>False)) (o:OP H):(H.tx i).aj=[]:=by
 cases f:(H.tx i).aj with
 | nil=>rfl
 | cons a l=>
  exfalso;obtain⟨x,m⟩:=a;have d:(x,m)∈(H.tx i).aj:=by rw[f];exact VH
  have c:=s.wn i e.ir x m d;have hs:=o i e.ir e.s1 _ c;exact e.nowt s g (BR c) ((s.ww i _ e.ir (BR c) e.s1 hs x m rfl).1 d)
def Qt.same (q:Qt H) (n:AT H H') (u:H'.m=H.m) (hs:∀ t,(H'.tx t).state=(H.tx t).state) (hl:∀ k j,lg H' k j=lg H k j) (v:∀ t,(H.tx t).state≠1->(H'.tx t).af=(H.tx t).af):Qt H':=by
 have c:∀ t,Ir H' t->Ir H t:=fun t h=>⟨h.1,by rw[<- u];exact h.2⟩
 refine⟨fun k e=>by rw[n.head];exact q.hd k e,fun t f=>by rw[hs];exact q.n2 t (c t f),fun t f d k e j g=>?_⟩;rw[hs] at d;rw[v t (by omega)] at e;rw[n.head] at g;rw[hl];exact q.dn t (c t f) d k e j g
def Dv.same (e:Dv H i) (h:AT H H') (c:H'.m=H.m) (hs:∀ t,(H'.tx t).state=(H.tx t).state) (hl:∀ k j,lg H' k j=lg H k j) (d:∀ t,(H.tx t).state≠1->(H'.tx t).af=(H.tx t).af):Dv H' i:=
 ⟨e.q.same h c hs hl d,⟨e.ir.1,by rw[c];exact e.ir.2⟩,by rw[hs];exact e.s1,fun t g f=>by rw[hs];exact e.el t g f⟩
def Pk (H:Hs) (p:Nat):Kq H (H.abort p):=by
 rw[Ia];have c:AK H (reld (H.al p) p (H.tx p).af):=(AK.au H p _).trans (Kn p _ _);have f:=FI p (H.tx p).af (H.al p);have d:Kq H (reld (H.al p) p (H.tx p).af):=fun k j _=>⟨[],by unfold lg;rw[c.nd];simp,fun _ h=>(nomatch h)⟩
 refine d.trans (q96 (by decide) _ _) (fun s=>Oh c.n (c.ao s) (fun j=>by rw[c.nd];exact⟨rfl,rfl⟩)) (fun t e=>?_);rw[(f.2.2.2.2 t).1] at e;have e:(Af H.tx p _ t).state=2:=e;by_cases g:t=p
 ·subst g;rw[An] at e;cases e
 ·rw[As g] at e;exact e
def Qt.abort (q:Qt H) (s:SI H G (fun _ _=>False)) (N:(H.tx p).state=1):Qt (H.abort p):=by
 obtain⟨sm,_,f⟩:=If H p;have K:=AT.abort H p;have d:∀ t,Ir (H.abort p) t->Ir H t:=fun t h=>⟨h.1,by rw[<- sm.m];exact h.2⟩
 refine⟨fun k n=>by rw[K.head];exact q.hd k n,fun t w=>?_,fun t w u k n j x J=>?_⟩
 ·rw[(f t).1];split
  ·decide
  ·exact q.n2 t (d t w)
 ·rw[Dp (f t).2.2.1] at n;rw[K.head] at x;obtain⟨O,e,D⟩:=Pk H p k j x;rw[e] at J;have A:=BR n;obtain⟨⟨c,E,v,I⟩,M,L⟩:=J;have C:c.tx.toNat=t:=by omega
  have y:∀ c∈lg H k j,c.ai=2->c.tx=t->t≠p:=fun c E v I g=>by
   have:=(s.pw k j A (Cu x).1 c E v).1;rw[show c.tx.toNat=p by omega] at this;exact this N
  rcases List.mem_append.1 E with g|g
  ·have z:=y c g v I;rw[(f t).1,if_neg z] at u;exact q.dn t (d t w) u k n j x ⟨⟨c,g,v,I⟩,fun q=>M (q.up (Xq _ _)),fun q=>L (q.up (Xq _ _))⟩
  ·have:=(D c g v).2;rw[C] at this;exact q.n2 t (d t w) this
def Dv.abort (e:Dv H i) (s:SI H G (fun _ _=>False)) (d:(H.tx p).state=1) (c:p≠i):Dv (H.abort p) i:=by
 obtain⟨sm,_,f⟩:=If H p;refine⟨e.q.abort s d,⟨e.ir.1,by rw[sm.m];exact e.ir.2⟩,by rw[(f i).1,if_neg (fun g=>c g.symm)];exact e.s1,fun t n h=>?_⟩;rw[(f t).1];split
 ·decide
 ·exact e.el t n h
def Dv.came (e:Dv H i) (k:Nat):Dv (H.came i k) i:=by
 have c:∀ t,((H.came i k).tx t).state=(H.tx t).state/\(t≠i->(H.came i k).tx t=H.tx t):=fun t=>by
  by_cases g:t=i
  ·subst g;exact⟨by show(Af H.tx t _ t).state=_;rw[An],fun h=>absurd rfl h⟩
  ·have:(H.came i k).tx t=H.tx t:=As g _;exact⟨by rw[this],fun _=>this⟩
 exact e.same (.au _ _ _) rfl (fun t=>(c t).1) (fun _ _=>rfl) (fun t d=>by rw[(c t).2 (fun g=>d (by rw[g];exact e.s1))])
def Dv.aU (e:Dv H i) (k:Nat) (x:Sx) (mode:Int):Dv (H.aU i k x mode) i:=by
 refine e.same (.aU _ _ _ _ _) rfl (fun _=>rfl) (fun a j=>?_) (fun _ _=>rfl);unfold lg;show((Af H.sh k _ a).nd j).log=_;by_cases g:a=k
 ·subst g;rw[An]
 ·rw[As g]
def Dv.au (e:Dv H i) {t:Bl} (f:t.state=1):Dv (H.au i t) i:=by
 have c:∀ a,((H.au i t).tx a).state=(H.tx a).state/\(a≠i->(H.au i t).tx a=H.tx a):=fun a=>by
  by_cases g:a=i
  ·subst g;exact⟨by show(Af H.tx a t a).state=_;rw[An,f,e.s1],fun h=>absurd rfl h⟩
  ·have:(H.au i t).tx a=H.tx a:=As g _;exact⟨by rw[this],fun _=>this⟩
 exact e.same (.au _ _ _) rfl (fun a=>(c a).1) (fun _ _=>rfl) (fun a d=>by rw[(c a).2 (fun g=>d (by rw[g];exact e.s1))])
def Dv.aX:∀ (l:List Int) {H:Hs},Dv H i->SI H G (fun _ _=>False)->Ad H B->H.m<=40->(∀ o∈l,(i:Int)<o)->Dv (Go.Proofs.YtccahlhdifadfaaGreatDoor.woundd H l) i
 | [],H,h,_,_,_,_=>h
 | o::l,H,h,si,a,h40,hl=>by
  have c:=q5s a.wf o;obtain⟨s2,e⟩:=SI.star c si a h40;refine Dv.aX l (H:=H.aF o) ?_ s2 e (by rw[c.sm.m];exact h40) (fun x d=>hl x (VI _ d));have:=hl o VH;unfold Hs.aF;split
  ·rename_i g;exact h.abort si g.2.2 (by omega)
  ·exact h
def ws_len (s:SI H G (fun _ _=>False)) (w:H.m<=40) (n:k<2) (x:Sx):(Ac (H.sh k).tab x).ws.length<=41:=by
 have f:=(s.gt k (by omega) x).sorted;have d:∀ v∈(Ac (H.sh k).tab x).ws,1<=v.1/\v.1<=H.m:=fun v c=>(s.wt k n x v.1 v.2 c).1
 generalize (Ac (H.sh k).tab x).ws=l at *;have e:(l.map (fun v:Int×Int=>v.1.toNat)).Nodup:=by
  rw[Yw,W8];refine f.imp_of_mem (fun {a b} u q h=>?_);have:=d a u;have:=d b q;omega
 have:=e.length_le_of_subset (l₂:=WS 41) (fun y g=>by
  obtain⟨v,c,rfl⟩:=List.mem_map.1 g;have:=d v c;exact List.mem_range.2 (by omega))
 simpa using this
def Dv.lock (e:Dv H i) (h:AD H G B) (N:EI H) (c:H.m<=40) {x:Sx} {mode:Int} (z:x∈names) (D:Br mode):(H.lock i x mode).1=0/\Dv (H.lock i x mode).2 i:=by
 obtain⟨M,E⟩:=e.ir;have hs:=e.s1;have d:=E4 x;have I:=e.q.hd _ d;have V:=QO (id:=i) (mode:=mode) h.a.wf h.a.c z D;have s9:=h.star V c;have O:=N.lock h c i z D;have now:=e.bR h.s N.ca h.o;have f:¬Ps H i (Aa x):=fun⟨v,R,g2⟩=>by
  have:=h.o i e.ir hs (Aa x) (Dy.2 ⟨by omega,by rw[R];simp⟩);rw[R] at this;injection this with this;exact g2 this
 have C:(H.tx i).ae (Aa x)=B0\/(H.tx i).ae (Aa x)=Bs (H.sh (Aa x)).aa:=by
  cases g:(H.tx i).ae (Aa x) with
  | none=>exact .inl rfl
  | some v=>exact .inr (by rw[V5 (fun h=>f ⟨v,g,h⟩)])
 have Q:B6 (H.tx i).aj x=Jx:=by rw[now];rfl
 have q:=Bp.came M E d hs I C;have u:=h.s.step h.a c q;have w:=(h.a.step q).1;have A:=e.came (Aa x);have U:=A.s1;have c2:((H.came i (Aa x)).tx i).ae (Aa x)=Bs (H.sh (Aa x)).aa:=by
  show(Af H.tx i _ i).ae _=_;rw[An];show AO _ _ _ _=_;unfold AO;rw[if_pos rfl]
 have c4:B6 ((H.came i (Aa x)).tx i).aj x=Jx:=by show B6 (Af H.tx i _ i).aj x=Jx;rw[An];exact Q
 rw[q6k M E hs (Ea z) I f Q] at s9 O ⊢;have L:Ch (Ac ((H.came i (Aa x)).sh (Aa x)).tab x).ws i=Jx:=by
  cases g:Ch (Ac ((H.came i (Aa x)).sh (Aa x)).tab x).ws i with
  | false=>rfl
  | true=>
   exfalso;unfold Ch at g;rw[List.any_eq_true] at g;obtain⟨v,X,g⟩:=g;have g:v.1=i:=by simpa using g
   exact e.nowt h.s N.ca d (x:=x) (m:=v.2) (by rw[<- g];exact X)
 by_cases y:Ai (Ac ((H.came i (Aa x)).sh (Aa x)).tab x).h i mode (Ac ((H.came i (Aa x)).sh (Aa x)).tab x).ws=VJ
 ·rw[q36 L y];exact⟨rfl,A.aU _ _ _⟩
 ·have y:Ai (Ac ((H.came i (Aa x)).sh (Aa x)).tab x).h i mode (Ac ((H.came i (Aa x)).sh (Aa x)).tab x).ws=Jx:=by simpa using y
  have Z:(Ac ((H.came i (Aa x)).sh (Aa x)).tab x).ws.length≠50:=by have:=ws_len u c d x;omega
  rw[q2c L y Z] at s9 O ⊢;have n:=Bp.wait (H:=H.came i (Aa x)) M E U z D I c2 c4 L y;have J:=u.step w c n;have K:=(w.step n).1;have e2:Dv (((H.came i (Aa x)).aU i (Aa x) x mode).aM i x mode) i:=by
   refine(A.aU (Aa x) x mode).au ?_;show((H.came i (Aa x)).tx i).state=1;exact U
  have S:=Dv.aX (D8 (Ac ((H.came i (Aa x)).sh (Aa x)).tab x).h i mode) e2 J K c (fun _ Y=>qar Y);refine⟨?_,S⟩;show(if B6 _ x=VJ then(11:Int) else 0)=0;rw[S.bR s9.s O.ca s9.o];rfl
end
section
variable {H H':Hs} {G:Gh} {B:Int} {i:Nat}
def wr_len (s:SI H G (fun _ _=>False)) (g:Wf H) (d:Ir H i):(H.tx i).ad.length<=4:=by
 have f:=(s.wc i d).2;have u:=(g.tx i d.1 d.2).ps;generalize (H.tx i).ad=l at *;have c:(l.map (fun p:Pr=>sx p.key)).Nodup:=by
  rw[Yw,W8] at f ⊢;exact f.imp (fun h e=>h (qb3 e))
 have:=c.length_le_of_subset (l₂:=names) (fun y n=>by
  obtain⟨p,q,rfl⟩:=List.mem_map.1 n;exact(u p q).1)
 rw[We] at this;exact this
def Ld {l:List Pr} (h:l.length<=4) (p:Pr):∃ l',Ci l p=Bs l':=by
 unfold Ci;split
 ·exact⟨_,rfl⟩
 ·rw[if_neg (by omega)];exact⟨_,rfl⟩
structure MA (H:Hs) (G:Gh) (B:Int) (i:Nat):Prop where
 h:AD H G B
 ei:EI H
 e:Dv H i
 w:Bo H
def MA.put (s:MA H G B i) (x:B<=999000) {p:Pr} (d:sx p.key∈names) (z:p.val.size<=40):(H.put i p).1=0/\MA (H.put i p).2 G (B+3) i:=by
 have c:H.m<=40:=by have:=s.w.m8;omega
 have h:Br (2:Int):=by unfold Br;omega
 obtain⟨u,f⟩:=s.e.lock s.h s.ei c d h;have e:=QO (id:=i) (mode:=2) s.h.a.wf s.h.a.c d h;have n:=s.h.star e c;obtain⟨l,hl⟩:=Ld (wr_len n.s n.a.wf f.ir) ⟨p.key,if p.gone then⟨#[]⟩ else p.val,p.gone⟩;have v:H.put i p=(0,(H.lock i (sx p.key) 2).2.au i { (H.lock i (sx p.key) 2).2.tx i with ad:=l }):=by
  unfold Hs.put;rw[if_neg (by omega)];simp only;rw[if_neg (by rw[u];simp)];rw[show((i:Nat):Int).toNat=i by omega,hl]
 have g:=s.h.put x c i (p:=p) d;have q:=s.ei.put s.h c i (p:=p) d;rw[v] at g q ⊢;refine⟨rfl,?_,q,f.au f.s1,s.w.aR (e.aR.trans (.au _ _ _)) e.sm.m⟩;generalize (H.lock i (sx p.key) 2).2.au i { (H.lock i (sx p.key) 2).2.tx i with ad:=l } = K at *;cases g with
 | bad w=>exact absurd rfl w
 | ok _ _ _ _ _ y=>exact y
structure EnS (H:Hs) (G:Gh) (B:Int) (i:Nat):Prop where
 h:AD H G B
 ei:EI H
 w:Bo H
 ir:Ir H i
 na:NA H i
def EnS.xx (s:EnS H G B i):Bg H G B:=s.h.cx s.ei (by have:=s.w.m8;omega)
def MA.ends (s:MA H G B i) (w:B<=999000) {e:Int} (r:Hz H i e H'):e=0/\DL (H.ending i) H'/\EnS H' ⟨G.E++[i],G.rd⟩ (B+3) i:=by
 have d:H.m<=40:=by have:=s.w.m8;omega
 have c:=s.e.ir;have f:=s.e.s1;have u:=s.e.bR s.h.s s.ei.ca s.h.o;cases r with
 | missing h=>have:=c.1;have:=c.2;omega
 | state _ g=>rw[show((i:Nat):Int).toNat=i by omega] at g;exact absurd f g
 | waits _ _ g=>rw[show((i:Nat):Int).toNat=i by omega] at g;exact absurd u g
 | ends _ _ _ r=>
  rw[show((i:Nat):Int).toNat=i by omega] at r;obtain⟨x,C⟩:=qad s.h s.ei w d c f u;have ss:=(On r x).1;have z:NA (H.ending i) i:=by
   have n:=q64 H i;refine .inr ⟨n.1,fun k q=>?_⟩;rw[Dp n.2.2.1] at q;refine⟨by rw[n.2.2.1];exact s.h.o i c f k q,fun y=>?_⟩;exfalso;have A:(((H.ending i).tx i).places k)=Bs (-1):=by
    have e:(H.ending i).tx i = { H.tx i with state:=2,places:=fun k=>if ((H.tx i).ae k).isSome then Bs (-1) else(H.tx i).places k }:=An _ _ _;rw[e];show(if ((H.tx i).ae k).isSome then Bs (-1) else(H.tx i).places k)=Bs (-1);have:=(Dy.1 q).2;cases g:(H.tx i).ae k with
    | none=>exact absurd g this
    | some v=>rfl
   rw[A] at y;simp at y
  refine⟨rfl,r,s.h.ends w d c f u r,C.cP ss.cs x,?_,⟨c.1,by rw[ss.star.sm.m];exact c.2⟩,ss.cs.na z⟩;exact(s.w.aR (.au H i _) rfl).aR ss.star.aR ss.star.sm.m
def EnS.calm (s:EnS H G B i) (f:H.net.l.length<=200) (r:Cd 4 H H'):(H'.tx i).state=3/\AD H' G B/\EI H'/\Bo H':=by
 obtain⟨x,w,h,_,d,_⟩:=Vq s.xx s.w f r;have c:=d.na s.na;have g:=d.bE.m;have e:H.m<=40:=by have:=s.w.m8;omega
 refine⟨?_,s.h.star d.star e,s.ei.cP d s.xx,w⟩;rcases c with c|c
 ·exact c
 ·exact absurd c.1 (h i s.ir.1 (by rw[g];exact s.ir.2))
structure QtS (H:Hs) (G:Gh) (B:Int):Prop where
 h:AD H G B
 ei:EI H
 q:Qt H
 w:Bo H
def Nj (h:AD H G B) (f:EI H) (w:Bo H) (n:H.net.l.length<=200) (r:Cd 4 H H'):QtS H' G B:=by
 have c:H.m<=40:=by have:=w.m8;omega
 have x:=h.cx f c;obtain⟨_,e,n2,d,g,_⟩:=Vq x w n r;exact⟨h.star g.star c,f.cP g x,Qt.calm e n2 d,e⟩
def Ba.fixE {safe:Bool} {nodes:Nat} {now:Int} {x:ActX} (r:Ba safe nodes now x H T H' T') (h:x.aD=11):E8 H H'/\T'=T:=by
 cases r with
 | fix _ r=>exact⟨r,rfl⟩
 | begin g|full g|get g|getE g|put g|putE g|ends g|drop g|dropE g|deliver g|lose g|twice g|none g|tick g|fail g|calm g|other g=>omega
def Ba.calmE {safe:Bool} {nodes:Nat} {now:Int} {x:ActX} (r:Ba safe nodes now x H T H' T') (h:x.aD=12):Cd 4 H H'/\T'=T:=by
 cases r with
 | calm _ r=>exact⟨r,rfl⟩
 | begin g|full g|get g|getE g|put g|putE g|ends g|drop g|dropE g|deliver g|lose g|twice g|none g|tick g|fail g|fix g|other g=>omega
def QtS.eld (s:QtS H G B) (c:Ir H i) (e:(H.tx i).state=1) (d:∀ t,1<=t->t<i->(H.tx t).state≠1):MA H G B i:=⟨s.h,s.ei,⟨s.q,c,e,d⟩,s.w⟩
def QtS.begin (s:QtS H G B) (w:B<=999000) (y:H.m<=7) (u:G.rd (H.m+1)=[]) (n:∀ t,Ir H t->(H.tx t).state≠1):MA H.begin G (B+3) (H.m+1):=by
 have q:AT H H.begin:=⟨rfl,rfl,fun _ _=>.refl _,fun _=>rfl,fun _=>rfl,fun _=>rfl,rfl⟩
 have d:∀ t,Ir H.begin t->t≠H.m+1->Ir H t:=fun t h g=>⟨h.1,by have:t<=H.m+1:=h.2;omega⟩
 refine⟨s.h.begin w (by omega) u,s.ei.begin,⟨⟨fun k e=>s.q.hd k e,fun t f=>?_,fun t f c k e j v=>?_⟩,⟨by omega,K0 _⟩,by rw[q41];rfl,fun t x z=>?_⟩,⟨fun k e=>by rw[q.live];exact q.cfg (s.w.cfg k e),fun k e=>by rw[q.live];exact s.w.ne k e,s.w.n3,by show H.m+1<=8;omega⟩⟩
 ·by_cases g:t=H.m+1
  ·subst g;rw[q41];decide
  ·rw[UY H g];exact s.q.n2 t (d t f g)
 ·by_cases g:t=H.m+1
  ·subst g;rw[q41] at c;exact absurd c (by decide)
  ·rw[UY H g] at c e;exact s.q.dn t (d t f g) c k e j v
 ·rw[UY H (by omega)];exact n t ⟨x,by omega⟩
def MA.get (s:MA H G B i) {x:Sx} (d:x∈names):(H.get i x).1.1=0/\∃ A,MA (H.get i x).2 A B i:=by
 have c:H.m<=40:=by have:=s.w.m8;omega
 have n:Br (1:Int):=by unfold Br;omega
 obtain⟨y,w⟩:=s.e.lock s.h s.ei c d n;have h:=QO (id:=i) (mode:=1) s.h.a.wf s.h.a.c d n;have v:=s.ei.get s.h c i d;have q:(H.get i x).1.1=0:=by
  unfold Hs.get;simp only;rw[if_neg (by rw[y];simp)];split <;> rfl
 have z:=s.h.get c i d;have hs:(H.get i x).2=(H.lock i x 1).2:=Nf H i x;have u:Dv (H.get i x).2 i:=by rw[hs];exact w
 have f:Bo (H.get i x).2:=by rw[hs];exact s.w.aR h.aR h.sm.m
 refine⟨q,?_⟩;generalize H.get i x=R at *;cases z with
 | bad g=>exact absurd q g
 | own _ _ _ _ _ e=>exact⟨G,e,v,u,f⟩
 | read _ _ _ _ _ e=>exact⟨_,e,v,u,f⟩
end
def kB:Sx:=[97]
def EU:Pr:=⟨⟨#[97]⟩,⟨#[120]⟩,Jx⟩
def E0 (H H':Hs):Prop:=∀ k q,H.head k≠Bs q->lg H' k q=lg H k q
section
variable {H H':Hs} {G:Gh} {B:Int} {i:Nat}
def E0.refl (H:Hs):E0 H H:=fun _ _ _=>rfl
def E0.same (h:∀ k,(H'.sh k).nd=(H.sh k).nd):E0 H H':=fun k q _=>by unfold lg;rw[h]
def E0.trans {A C D:Hs} (h:E0 A C) (k:E0 C D) (d:∀ s,C.head s=A.head s):E0 A D:=fun s q c=>(k s q (by rw[d];exact c)).trans (h s q c)
def Hq (c:Cm) (b:Bool) (f:H.head s=Bs j):E0 H (H.add s j c b).2:=fun k q d=>by
 rcases(Hr H s j c b).1 with e|e
 ·rw[e]
 ·rw[e,if_neg];rintro ⟨rfl,rfl⟩;exact d f
def Fk (i:Nat) (kind:Int) (k:Nat):E0 H (H.ax i kind k):=by
 cases c:H.head k with
 | none=>rw[I1 c];exact .refl H
 | some j=>
  rw[Ie c];split
  ·exact Hq _ _ c
  ·exact .refl H
def Fh (i:Nat) (kind:Int):∀ (ks:List Nat) (H:Hs),E0 H (telld H i kind ks)
 | [],H=>.refl H
 | k::ks,H=>(Fk i kind k).trans (Fh i kind ks _) (fun s=>(AT.ax H i kind k).head s)
def qal (H:Hs) (i:Nat):E0 H (H.abort i):=by
 rw[Ia];have c:AK H (reld (H.al i) i (H.tx i).af):=(AK.au H i _).trans (Kn i _ _);exact(E0.same c.nd).trans (Fh _ _ _ _) (fun s=>Oh c.n (c.ao s) (fun j=>by rw[c.nd];exact⟨rfl,rfl⟩))
def Ss.lgo (s:Ss H H'):E0 H H':=by
 cases s with
 | abort=>exact qal H _
 | tell=>exact Fk _ _ _
 | prep b e d f c=>exact Hq _ b c
 | place=>exact .same (fun _=>rfl)
 | @timed i=>exact .same (fun k=>by rw[(E3 H i).2.2.2.1])
 | decide b e d c=>exact Hq _ b c
 | commit=>exact .same (fun _=>rfl)
def Cr.lgo (s:Cr H H'):E0 H H':=by
 induction s with
 | refl=>exact .refl _
 | step h _ c=>exact h.lgo.trans c (fun s=>h.b3.aR.head s)
def qcm (i k:Nat) (x:Sx) (mode:Int):E0 H (H.aU i k x mode):=.same (fun a=>by
 show(Af H.sh k _ a).nd=_;by_cases g:a=k
 ·subst g;rw[An]
 ·rw[As g])
def NK (o:Int):E0 H (H.aF o):=by
 unfold Hs.aF;split
 ·exact qal H _
 ·exact .refl H
def Kv (o:Int) (s:Nat):(H.aF o).head s=H.head s:=by
 unfold Hs.aF;split
 ·exact(AT.abort H _).head s
 ·rfl
def qas:∀ (l:List Int) (H:Hs),E0 H (woundd H l)
 | [],H=>.refl H
 | o::l,H=>(NK o).trans (qas l (H.aF o)) (Kv o)
def Rq {k:Sx} {mode:Int} (n:k∈names) (x:Ir H i):E0 H (H.lock i k mode).2:=by
 obtain⟨g,e⟩:=x;have v:E0 H (H.came i (Aa k)):=.same (fun _=>rfl);by_cases hs:(H.tx i).state=1
 ·by_cases q:H.head (Aa k)=B0
  ·rw[q4i g e hs (Ea n) q];exact .refl H
  ·by_cases c:Ps H i (Aa k)
   ·rw[q3s g e hs (Ea n) q c];exact qal H i
   ·by_cases h:B6 (H.tx i).aj k=VJ
    ·rw[q3q g e hs (Ea n) q c h];exact v
    ·have h:B6 (H.tx i).aj k=Jx:=by simpa using h
     rw[q6k g e hs (Ea n) q c h];refine v.trans ?_ (fun _=>rfl);by_cases d:Ch (Ac ((H.came i (Aa k)).sh (Aa k)).tab k).ws i=VJ
     ·rw[q2q d];exact qcm _ _ _ _
     ·have d:Ch (Ac ((H.came i (Aa k)).sh (Aa k)).tab k).ws i=Jx:=by simpa using d
      by_cases f:Ai (Ac ((H.came i (Aa k)).sh (Aa k)).tab k).h i mode (Ac ((H.came i (Aa k)).sh (Aa k)).tab k).ws=VJ
      ·rw[q36 d f];exact qcm _ _ _ _
      ·have f:Ai (Ac ((H.came i (Aa k)).sh (Aa k)).tab k).h i mode (Ac ((H.came i (Aa k)).sh (Aa k)).tab k).ws=Jx:=by simpa using f
       by_cases w:(Ac ((H.came i (Aa k)).sh (Aa k)).tab k).ws.length=50
       ·rw[q37 d f w];exact qcm _ _ _ _
       ·rw[q2c d f w];have u:E0 ((H.came i (Aa k)).aU i (Aa k) k mode) (((H.came i (Aa k)).aU i (Aa k) k mode).aM i k mode):=.same (fun _=>rfl);exact(qcm i (Aa k) k mode).trans (u.trans (qas _ _) (fun _=>rfl)) (fun s=>(AT.aU _ _ _ _ _).head s)
 ·rw[q3r g e hs];exact .refl H
def TC (h:AD H G B) {p:Pr} (d:sx p.key∈names) (i:Nat):AT H (H.put i p).2/\(H.put i p).2.m=H.m:=by
 have c:=QO (id:=i) (mode:=2) h.a.wf h.a.c d (by unfold Br;omega);unfold Hs.put;split
 ·exact⟨.refl H,rfl⟩
 ·simp only;split
  ·exact⟨c.aR,c.sm.m⟩
  ·split
   ·exact⟨c.aR.trans (.au _ _ _),c.sm.m⟩
   ·exact⟨c.aR,c.sm.m⟩
def TA (h:AD H G B) {p:Pr} (d:sx p.key∈names) (f:Ir H i):E0 H (H.put i p).2:=by
 have c:=Rq (mode:=2) d f;have e:=QO (id:=i) (mode:=2) h.a.wf h.a.c d (by unfold Br;omega);unfold Hs.put;split
 ·exact .refl H
 ·simp only;split
  ·exact c
  ·split
   ·exact c.trans (.same (fun _=>rfl)) e.aR.head
   ·exact c
def Lc (s:MA H G B i) (g:B<=999000) {p:Pr} (f:sx p.key∈names) (n:p.val.size<=40) (h:(H.tx i).ad=[]):((H.put i p).2.tx i).ad=[⟨p.key,if p.gone then⟨#[]⟩ else p.val,p.gone⟩]:=by
 have v:=(s.put g f n).1;have q:=s.h.put g (by have:=s.w.m8;omega) i f;generalize H.put i p=R at *;cases q with
 | bad d=>exact absurd v d
 | @ok c l H2 u _ _ _ hl _ _=>
  have e:c=i:=by omega
  subst e;rw[h] at hl;have hl:Bs [(⟨p.key,if p.gone then⟨#[]⟩ else p.val,p.gone⟩:Pr)]=Bs l:=hl;injection hl with hl;rw[hl];show((H2.c8 c l).tx c).ad=l;rw[qbw]
end
structure HoA (H:Hs):Prop where
 s:MA H ⟨[],fun _=>[]⟩ 7 1
 wr:(H.tx 1).ad=[EU]
 lo:∀ k q,H.head k≠Bs q->lg H k q=[]
 n:H.n=2
 m:H.m=1
 two:∀ k,k<3->∃ q,Lv H k q/\H.head k≠Bs q
def hoA:((BD 2).begin.put 1 EU).1=0/\HoA ((BD 2).begin.put 1 EU).2:=by
 obtain⟨U,C,M⟩:=q86 (n:=2) (by omega);have Q:=AD.new (n:=2) (by omega);have R:=EI.new (n:=2) (by omega) (by omega);have y:=Bo.new (n:=2) (by omega) (by omega);have d:∀ t,¬Ir (BD 2) t:=fun t h=>by have:=h.1;have:=h.2;omega
 have I:QtS (BD 2) ⟨[],fun _=>[]⟩ 1:=⟨Q,R,⟨fun k N e=>(by obtain⟨j,_,O⟩:=y.head (s:=k) (by omega);rw[O] at e;injection e),fun t f=>absurd f (d t),fun t f=>absurd f (d t)⟩,y⟩
 have c:=I.begin (by omega) (by omega) rfl (fun t f=>absurd f (d t));rw[C] at c;have c:MA (BD 2).begin ⟨[],fun _=>[]⟩ 4 1:=c;have v:sx EU.key∈names:=by decide
 have A:EU.val.size<=40:=by decide
 obtain⟨K,J⟩:=c.put (p:=EU) (by omega) v A;have L:((BD 2).begin.tx 1).ad=[]:=by
  have:(BD 2).begin.tx 1=DJ:=by have:=q41 (BD 2);rw[C] at this;exact this
  rw[this];rfl
 have E:=TA c.h (p:=EU) v c.e.ir;obtain⟨w,S⟩:=TC c.h (p:=EU) v 1;have pw:=Lc c (by omega) (p:=EU) v A L;have z:=(UZ (n:=2) (by omega) 3 (K0 _)).1.lg;have D:=(q60 (n:=2) (by omega) (by omega) 3 (K0 _)).1;rw[<- Et] at z D;have u:∀ k q,q<2->Lv (BD 2).begin k q:=fun k q x=>⟨by show q<(BD 2).n;omega,D k _⟩
 show((BD 2).begin.put ((1:Nat):Int) EU).1=0/\HoA ((BD 2).begin.put ((1:Nat):Int) EU).2;refine⟨K,J,pw,fun k q x=>?_,by rw[w.n];exact M,by rw[S];show(BD 2).m+1=1;omega,fun k N=>?_⟩
 ·rw[w.head] at x;exact(E k q x).trans (z k q)
 ·by_cases g:((BD 2).begin.put ((1:Nat):Int) EU).2.head k=Bs 0
  ·exact⟨1,w.lv.2 (u k 1 (by omega)),by rw[g];simp⟩
  ·exact⟨0,w.lv.2 (u k 0 (by omega)),g⟩
structure HoB (H:Hs):Prop where
 s:EnS H ⟨[1],fun _=>[]⟩ 10 1
 wr:(H.tx 1).ad=[EU]
 st:(H.tx 1).state=2
 m:H.m=1
def HoA.ends {H H':Hs} (h:HoA H) {e:Int} (r:Hz H 1 e H'):e=0/\HoB H':=by
 obtain⟨I,y,d⟩:=h.s.ends (by omega) (i:=1) r;have g:(H.ending 1).m=1:=h.m;obtain⟨x,_⟩:=qad h.s.h h.s.ei (by omega) (by have:=h.m;omega) h.s.e.ir h.s.e.s1 (h.s.e.bR h.s.h.s h.s.ei.ca h.s.h.o);have ss:=(On y x).1;have n:(H'.tx 1).ad=[EU]:=by rw[ss.star.wr,(Gd H 1 1).1];exact h.wr
 have C:H'.m=1:=by rw[ss.star.sm.m];exact g
 have d:EnS H' ⟨[1],fun _=>[]⟩ 10 1:=d;refine⟨I,d,n,?_,C⟩;rcases d.na with z|n2
 ·exfalso;have f:Ir H' 1:=⟨by omega,by omega⟩
  have K:=d.h.a.bj.ct 1 f.1 f.2 z;have v:=(d.h.s.wc 1 f).1 (sx EU.key) (.inl ⟨EU,by rw[n];exact VH,rfl⟩);have D:=BR v;obtain⟨q,A,w⟩:=h.two (Aa (sx EU.key)) (by omega);have J:AT H H':=(AT.au H 1 _).trans ss.star.aR;have u:=(d.h.s.tp 1 f (by omega)).2 _ v q (J.lv.2 A);have hl:lg H' (Aa (sx EU.key)) q=[]:=(ss.lgo _ q w).trans (h.lo _ q w);rw[hl] at u;obtain⟨c,E,_⟩:=u;cases E
 ·exact n2.1
def HoB.state {H:Hs} (h:HoB H):H.state 1=2:=by
 unfold Hs.state;rw[if_neg (by have:=h.m;omega)];exact h.st
def HoB.calm {H H':Hs} (h:HoB H) (J:H.net.l.length<=200) (r:Cd 4 H H'):H'.m=1/\Ad H' 10/\Ad H'.begin 13/\(H'.begin.get 2 kB).1=(0,[120],VJ)/\Ad (H'.begin.get 2 kB).2 13/\(H'.begin.get 2 kB).2.state 1=3/\(H'.begin.get 2 kB).2.state 2=1:=by
 obtain⟨s3,_,_,_⟩:=h.s.calm J r;have q:=Nj h.s.h h.s.ei h.s.w J r;have D:=qai r h.s.h.a.wf h.s.h.a.c;have w:H'.m=1:=by rw[D.sm.m];exact h.m
 have O:(H'.tx 1).ad=[EU]:=by rw[D.wr];exact h.wr
 have b:=q.begin (by omega) (by omega) rfl (fun t I=>by
  have:=I.1;have:=I.2;obtain rfl:t=1:=by omega
  rw[s3];decide)
 rw[w] at b;have b:MA H'.begin ⟨[1],fun _=>[]⟩ 13 2:=b;have f:H'.begin.tx 1=H'.tx 1:=UY H' (by omega);have A:H'.begin.tx 2=DJ:=by have:=q41 H';rw[w] at this;exact this
 have e:kB∈names:=by decide
 obtain⟨C,_⟩:=b.get e;have S:=b.h.get (by have:=b.w.m8;omega) 2 e;have d:∀ {K:Hs},Ag H'.begin K->K.m=2/\(K.tx 1).state=3/\(K.tx 1).ad=[EU]:=fun {K} s=>⟨by rw[s.sm.m];show H'.m+1=2;omega,(Ad.star s b.h.a).2.1.s3 1 (by omega) (by show 1<=H'.m+1;omega) (by rw[f];exact s3),by rw[s.wr,f];exact O⟩
 refine⟨w,q.h.a,b.h.a,?_⟩;have C:(H'.begin.get 2 kB).1.1=0:=C;generalize H'.begin.get 2 kB=R at *;cases S with
 | bad U=>exact absurd C U
 | @own i p K y _ _ _ u _ _=>
  exfalso;obtain rfl:i=2:=by omega
  rw[A] at u;cases u
 | @read i v K y X hs N u L s=>
  obtain rfl:i=2:=by omega
  obtain⟨V,E,M⟩:=d s;have x:Ir K 2:=⟨by omega,by omega⟩
  have n:(Gh.more ⟨[1],fun _=>[]⟩ 2 kB v).rd 2=[]++[(kB,v)]:=by unfold Gh.more;simp
  have Q:=(L.s.ri 2 x kB v (by rw[n];exact WZ _ (List.mem_singleton.2 rfl))).1 hs;have g:Bc K [1] kB=v:=Q;have z:Ik K kB 1=Bs (Bs [120]):=by
   unfold Ik;rw[if_pos E,M];rfl
  have c:Bc K [1] kB=Bs [120]:=by
   show(Ik K kB 1).getD B0=_;rw[z];rfl
  rw[<- g,c];refine⟨rfl,L.a,?_,?_⟩
  ·show K.state 1=3;unfold Hs.state;rw[if_neg (by omega)];exact E
  ·show K.state 2=1;unfold Hs.state;rw[if_neg (by omega)];exact hs
def HI.cu {own:Ah} {P:Aq} {H:Hs} (h:HI w own P H):H.net.l.length<=200:=by
 obtain⟨v,c⟩:=h.hs;have:=c.nt.len;rw[<- c.msgs];unfold AF;rw[We];exact this
def Rz:kB∈names:=by decide
def JF (w:D0):Calls Tryz.prog 21 #[] w (Hy w):=by
 obtain⟨a4,E,ae⟩:=q86 (n:=2) (by omega);have HN:=LH (show Calls Tryz.prog 20 #[.int .i64 2,.int .i64 2] w (Uy 2 w) from FT (w:=w) 2 (by omega) (by omega));go_enter Tryz.func21,Tryz.ntmps21;go_wp2_with fail;refine HN.o.mono ?_;rintro e w1 ⟨P,own1,rfl,hI,M,hb,hg,N⟩;have K1:Eg w w1 own1 P (BD 2):=⟨hI,M,hb,N⟩
 have A:=LH (qak K1.hi (by omega));have ab:=LH K1;have ac:=LH a4;have a6:=LH E;unfold SF at A;rw[E,show((0+1:Nat):Int)=1 from rfl] at A;clear E ae a4 HN hI M hb hg N K1;unfold pw at *;go_wp2_with fail;refine A.o.mono ?_;rintro e w2 ⟨rfl,b2,au,V,S⟩;have u:Ad (BD 2).begin 4:=(ac.o.act (by omega) (EP.begin (by rw[a6.o];omega)) (D:=fun _=>True) (fun _ _ _ _=>trivial)).1;have K2:=ab.o.step V S;have O:({ P with gt:=Af P.gt (0+1) b2 } : Aq).g=P.g:=rfl;generalize ({ P with gt:=Af P.gt (0+1) b2 } : Aq)=P2 at *;have y:=LH (qcs K2.hi u.wf K2.ns u.c 1 kB Rz ⟨#[120]⟩ (by decide) Jx);rw[show(⟨⟨kB.toArray⟩,⟨#[120]⟩,Jx⟩:Pr)=EU from rfl] at y;have ad:=hoA;generalize (BD 2).begin.put 1 EU=R at *;obtain⟨c,hP⟩:=R;obtain⟨o1,oA⟩:=ad;have o1:c=0:=o1;have oA:HoA hP:=oA;subst o1;have a5:=LH oA;clear oA;have aa:=LH K2;have am:=LH u;unfold E9 pw kB at y;rw[<- O];clear A ac a6 ab V S u K2 O;go_wp2_with fail;refine y.o.mono ?_;rintro e w3 ⟨rfl,a0⟩;obtain⟨ar,K3⟩:=aa.o.c7 a0;have q:=a5.o.s.h.a;have HE:=LH (Hj K3.hi q.wf q.c 1);have a9:=LH K3;have al:=LH q;unfold EG pw at HE;clear y aa am a0 K3 q;simp only[CD,if_pos];go_wp2_with fail;refine HE.o.mono ?_;rintro e w4 ⟨er,H4,rfl,a1,Z⟩;obtain⟨rfl,hy⟩:=a5.o.ends a1;obtain⟨aq,K4⟩:=a9.o.c7 Z;have h:=hy.s.h.a;have HS:=LH (q4c K4.hi (by have:=h.wf.bz;omega) 1);rw[hy.state] at HS;have HC:=LH (qcy K4.hi h.wf h.c);have J:=LH K4;have ak:=LH h;have HY:=LH hy;unfold NJ pw at HC;unfold pw at HS;clear HE a9 al a1 Z hy K4 h;simp only[CD,if_pos];go_wp2_with fail;refine HS.o.mono ?_;rintro e w4 ⟨rfl,rfl⟩;go_wp2_with fail;refine HC.o.mono ?_;rintro e w5 ⟨rfl,H5,a2,Y,_,_⟩;obtain⟨af,a3,d,f,g,L,K⟩:=HY.o.calm J.o.hi.cu a2;obtain⟨ap,K5⟩:=J.o.c7 Y;have A:=LH (qak K5.hi (by omega));have a8:=LH K5;have aj:=LH a3;have ah:=LH f;have C:=LH (And.intro d g);have HT:=LH (show(H5.begin.get 2 [97]).2.state 1=3/\(H5.begin.get 2 [97]).2.state 2=1 from⟨L,K⟩);unfold SF pw at A;rw[af,show((1+1:Nat):Int)=2 from rfl] at A;clear HC HS J ak HY a2 Y K5 a3 d g f L K;go_wp2_with fail;refine A.o.mono ?_;rintro e w6 ⟨rfl,b6,ao,U,Q⟩;have d:=C.o.1;have K6:=a8.o.step U Q;have I:({ P2 with gt:=Af P2.gt (1+1) b6 } : Aq).g=P2.g:=rfl;generalize ({ P2 with gt:=Af P2.gt (1+1) b6 } : Aq)=P6 at *;have z:=LH (JH K6.hi d.wf K6.ns d.c 2 kB Rz);have a7:=LH K6;have ai:=LH d;unfold Pn pw kB at z;have f:=ah.o;unfold kB at f;rw[I,f] at z;have ag:=LH I;clear A aj a8 U Q d K6 I f;go_wp2_with fail;refine z.o.mono ?_;rintro e w7 ⟨rfl,X⟩;obtain⟨an,K7⟩:=a7.o.c7 X;have g:Ad (H5.begin.get 2 [97]).2 13:=C.o.2;have x:=LH (q4c K7.hi (by have:=g.wf.bz;omega) 1);have v:=LH (q4c K7.hi (by have:=g.wf.bz;omega) 2);rw[HT.o.1] at x;rw[HT.o.2] at v;unfold pw at x v;rw[ag.o] at x v;have HF:=LH (show Hy w (.returned (.bool VJ)) w7 from⟨rfl,K7.bl⟩);clear z a7 ai X K7 g;simp only[CD,if_pos];go_wp2_with fail;refine x.o.mono ?_;rintro e w7 ⟨rfl,rfl⟩;go_wp2_with fail;refine v.o.mono ?_;rintro e w7 ⟨rfl,rfl⟩;go_wp2_with fail;go_ret;exact HF.o
section
variable {H H':Hs} {G:Gh} {B:Int}
def AD.mid0 {safe:Bool} {nodes:Nat} {now:Int} {x:ActX} (h:AD H G B) (e:∀ t,H.m<t->G.rd t=[]) (D:H.m=T.length) (g:B<=999000) (M:T.length<=7) (r:Ba safe nodes now x H T H' T') :
  ∃ n,AD H' n (B+3)/\∀ t,H'.m<t->n.rd t=[]:=by
 have d:H.m<=40:=by omega
 have w:=h.a.wf;have C:=h.a.c;have star:∀ {H2:Hs},Ag H H2->∃ n,AD H2 n (B+3)/\∀ t,H2.m<t->n.rd t=[]:=fun s=>⟨G,(h.star s d).mono (by omega),fun t c=>e t (by rw[<- s.sm.m];exact c)⟩
 have net:∀ l:List Ms,(∀ m∈l,m∈H.net.l)->∃ n,AD { H with net:=⟨l,H.net.ao⟩ } n (B+3)/\∀ t,H.m<t->n.rd t=[]:=fun l hl=>⟨G,h.net g hl,e⟩
 cases r with
 | begin _ N=>exact⟨G,h.begin g (by omega) (e _ (by omega)),fun t c=>e t (by have:H.m+1<t:=c;omega)⟩
 | full|none|dropE|other=>exact star (.refl _)
 | get|getE=>
  have u:=h.get d (Bi T x.tx) (QN x.a);generalize H.get (Bi T x.tx) (AY x.a)=R at u;cases u with
  | bad _ _ s=>exact star s
  | own _ _ _ _ _ _ s=>exact star s
  | @read i v H2 _ L _ _ _ q s=>
   refine⟨_,q.mono (by omega),fun t c=>?_⟩;have c:H.m<t:=by rw[<- s.sm.m];exact c
   show(if t=i then _ else G.rd t)=[];rw[if_neg (by have:=L.2;omega)];exact e t c
 | put|putE=>
  have u:=h.put g d (Bi T x.tx) (p:=PE x) (by show sx (bs (AY x.a))∈names;rw[Qo];exact QN x.a);generalize H.put (Bi T x.tx) (PE x)=R at u;cases u with
  | bad _ _ s=>exact star s
  | ok _ _ _ _ _ q s=>exact⟨G,q,fun t c=>e t (by rw[<- s.sm.m];exact c)⟩
 | ends _ r=>
  cases r with
  | missing|state|waits=>exact star (.refl _)
  | ends K E q r=>
   have I:=h.act g (.ends (by omega) (by omega) E q (.refl _));have z:=q2m r I.wf I.c;exact⟨_,h.ends g d ⟨by omega,by omega⟩ E q r,fun t c=>e t (by rw[z.sm.m] at c;exact c)⟩
 | drop=>exact star (Gf _)
 | deliver _ _ r=>exact star (q5n r w C)
 | lose=>exact net (H.net.l.eraseIdx _) (fun m A=>List.mem_of_mem_eraseIdx A)
 | twice=>
  unfold Hs.twice;split
  ·exact star (.refl _)
  ·rename_i m A;have:=net (AN H.net m).l (fun y J=>by
    rcases FC J with h|⟨h,_⟩
    ·exact h
    ·rw[h];exact S2 A)
   rw[<- q4e H.net m] at this;exact this
 | tick _ r=>exact star (q95 r w C)
 | fail=>
  unfold Hs.bq;split
  ·have f:=Eu H (10*((Aw x.a 3:Nat):Int)+((Aw x.tx nodes:Nat):Int));exact⟨G,h.fail g _,fun t c=>e t (by rw[<- f.m];exact c)⟩
  ·exact star (.refl _)
 | fix _ r=>
  obtain⟨O,u1⟩:=h.a.b4 g;have z:=qab r h.a g;exact⟨G,h.cH g d r,fun t c=>e t (by rw[<- u1.m,<- z.sm.m];exact c)⟩
 | calm _ r=>exact star (qai r w C)
end
structure Sp (nd:Nat) (Q:Hs->List AZ->Int->Prop):Prop where
 a:∀ H T i,Q H T i->Ad H (4+3*i)/\H.m=T.length/\T.length<=7
 z:Q (BD nd) [] 0
 s:∀ (H:Hs) (T:List AZ) (i:Int) (x:ActX) (H':Hs) (T':List AZ),Q H T i->0<=i/\i<=10000->Ba VJ nd (i+1) x H T H' T'->Q H' (B9 H' (i+1) T') (i+1)
structure BgE (Q:Hs->List AZ->Int->Prop) (W:D0) (r o k gS:Nat) (nd i:Nat) (own:Ah) (P:Aq) (F:Nat->Prop) (H:Hs) (T:List AZ) (B:Nat) (wr:D0):Prop where
 sy:CV wr own P F gS r o k H T i VJ nd B
 st:Q H T i
 B:B<=i
 nd:1<=nd/\nd<=3
 fr:Fr (fun b=>W.heap.size<=b) W wr
 lo:∀ b,own b≠B0\/F b->W.heap.size<=b
def BgRE (Q:Hs->List AZ->Int->Prop) (W:D0) (r o k gS:Nat) (n nd:Nat) (v:O0) (wr:D0):Prop:=∃ (i:Nat) (own:Ah) (P:Aq) (F:Nat->Prop) (H:Hs) (T:List AZ) (B:Nat),v=.int .i64 i/\i<=n/\BgE Q W r o k gS nd i own P F H T B wr
def SE (Q:Hs->List AZ->Int->Prop) (W:D0) (r o k:Nat) (nd n:Nat) (e:Ending) (w':D0):Prop:=
 (120<n/\e=.returned (.tuple #[.pointer B0,.bool VJ])/\W=w')\/(n<=120/\∃ (gS:Nat) (own:Ah) (P:Aq) (F:Nat->Prop) (H:Hs) (T:List AZ) (B:Nat),e=.returned (.tuple #[pw gS,.bool VJ])/\BgE Q W r o k gS nd n own P F H T B w')
def BgE.act {Q:Hs->List AZ->Int->Prop} {r:Nat} {nd:Nat} {own:Ah} {P:Aq} {F:Nat->Prop} {H:Hs} {B:Nat} {wr:D0} {own1:Ah} {F1:Nat->Prop} {H1:Hs} {x:ActX} (h:BgE Q W r o k s nd i own P F H T B wr) (g:Sp nd Q) (u:i<1000)
  (q:CV w1 own1 P1 F1 s r o k H1 (B9 H1 ((i:Int)+1) T') ((i:Int)+1) VJ nd j) (c:Gr wr own F w1 own1 F1) (v:j<=B+1) (hM:Ba VJ nd ((i:Int)+1) x H T H1 T') :
  BgE Q W r o k s nd (i+1) own1 P1 F1 H1 (B9 H1 ((i:Int)+1) T') j w1:=by
 have d:=g.s _ _ _ _ _ _ h.st (by omega) hM;have hs:=h.fr.size;refine⟨q,d,by have:=h.B;omega,h.nd,h.fr.trans' c.fr (fun b _ e=>h.lo b e),fun b n=>?_⟩;by_cases e:b<wr.heap.size
 ·refine h.lo b (n.imp (fun f=>by rw[<- c.ext b e];exact f) (fun f=>(c.F b f).elim id (fun w=>by omega)))
 ·omega
def Mh (Q:Hs->List AZ->Int->Prop) (l:List ActX) (nodes:Int) (n cp:Nat) (A:Option Addr) (W:D0) {r:Nat} (hr:Rd W W.heap.size 4 A n (l.flatMap q5r)) (hl:l.length=n) (hv:∀ x∈l,x.val.size<=maxLen) (I:VF W r o k) (hq:∀ nd,1<=nd->nd<=3->Sp nd Q) :
  Calls Tryz.prog 7 #[.int .i64 nodes,.bool VJ,.slice A n cp] W (SE Q W r o k (1+Aw nodes 3) n):=by
 have HR:=LH hr;have HV:=LH hv;have a5:=LH I;have V:=LH (fun w=>JF w);have U:=LH (Tw nodes 3 (by omega) (by omega) W);have ab:=K9 nodes (n:=3) (by omega);clear hr hv I;generalize ac:1+Aw nodes 3=nd;have f:1<=nd/\nd<=3:=by omega
 have a8:IntKind.i64.wrap (1+(Aw nodes 3:Int))=nd:=by rw[V4 _ ⟨by omega,by omega⟩];omega
 go_enter Tryz.func7,Tryz.ntmps7;by_cases a3:120<n
 ·have hd:decide ((120:Int)<n)=VJ:=decide_eq_true (by omega);go_wp2_with fail;go_ret2;exact .inl ⟨a3,rfl,rfl⟩
 have a7:decide ((120:Int)<n)=Jx:=decide_eq_false (by omega);have HN:=LH (show Calls Tryz.prog 20 #[.int .i64 2,.int .i64 nd] W (Uy nd W) from FT (w:=W) nd (by omega) (by omega));have HQ:=LH (hq nd (by omega) (by omega));clear hq;go_wp2_with fail;refine U.o.mono ?_;rintro e w0 ⟨rfl,rfl⟩;go_wp2_with fail;refine HN.o.mono ?_;rintro e w1 ⟨P,own,rfl,hI,E,c,hg,J⟩;have HK:=LH (show Eg W w1 own P (BD nd) from⟨hI,E,c,J⟩);have HH:=LH (V.o w1);unfold Hy at HH;clear HN U hI E c hg J;go_wp2_with fail;refine HH.o.mono ?_;rintro e z ⟨rfl,M⟩;have y:=LH (HK.o.below M);clear HK HH M;unfold pw at *;obtain⟨C,d⟩:∃ C:D0,C=z.alloc (.cells #[.pointer (Bs ⟨P.g,0,B0⟩),.slice B0 0 0,.int .i64 0,.bool VJ,.int .i64 nd] 37):=⟨_,rfl⟩
 have h:=LH (show BgRE Q W r o k z.heap.size n nd (.int .i64 0) C from by
  have L:VP z.heap.size z C:=by rw[d];exact(VK _ _).alloc (K0 _) _
  have Y:Ae C z.heap.size 37 #[pw P.g,.slice B0 0 0,.int .i64 0,.bool VJ,.int .i64 nd]:=by rw[d];exact Ae.new _ _ _
  have Z:=CV.begin (n:=0) y.o a5.o (nd:Int) L Y;have hK:=y.o;have a2:=hK.bl.size;refine⟨0,own,P,_,BD nd,[],0,rfl,VN _,Z,HQ.o.z,K0 _,f,(DG (hK.bl.trans (L.mono a2))).mono (fun b c e=>e),fun b c=>?_⟩;rcases c with c|c
  ·exact hK.lo b c
  ·omega)
 clear y V;go_wp2_with fail;rw[<- d];clear d;generalize z.heap.size=gS at *;go_loopw [11] (BgRE Q W r o k gS n nd) (fun v _=>n-(intOf v).toNat)
 case atStart=>exact h.o
 case round=>
  clear h;obtain⟨i,own1,P1,F1,H,T,B,rfl,hi,g⟩:=hrel;by_cases ad:(i:Int)<n
  ·have a0:i<n:=by omega
   have q:VP W.heap.size W wr:=g.fr.below (fun b c=>c) (K0 _);obtain⟨g0,a9,x,hA,K,hx,k0,k1,k2,k3⟩:=(HR.o.below q).d7 hl a0;have a1:g0<wr.heap.size:=Nat.lt_of_lt_of_le K q.size;have X:=HQ.o.a _ _ _ g.st;have u:=LH (q9o g.sy X.1 (by omega) X.2.1 X.2.2 (by omega) (by omega) (by have:=g.B;omega) f x (HV.o x (S2 hx)));have HL:=LH g;subst hA;unfold Mu Uv pw at u;clear g q hx X;go_wp2_with fail;refine u.o.mono ?_;rintro e w4 ⟨rfl,D,P4,F4,H4,T4,a6,B4,R,N,rfl,S,T1,O,rfl⟩;have a4:=LH (show BgRE Q W r o k gS n nd (.int .i64 ((i+1:Nat):Int)) w4 from⟨i+1,D,P4,F4,H4,_,B4,rfl,by omega,HL.o.act HQ.o (by omega) R N S O⟩);have aa:IntKind.i64.wrap ((i:Int)+1)=((i+1:Nat):Int):=by rw[V4 _ ⟨by omega,by omega⟩];omega
   clear k0 k1 k2 k3 a1 K u R N S O HL;go_wp2_with fail;go_roundw
   ·exact a4.o
   ·simp[intOf];omega
  ·obtain rfl:i=n:=by omega
   have HF:=LH (show SE Q W r o k nd i (.returned (.tuple #[pw gS,.bool VJ])) wr from .inr ⟨by omega,gS,own1,P1,F1,H,T,B,rfl,g⟩);unfold pw at HF;clear g;go_wp2_with fail;go_ret2;exact HF.o
structure EC (H:Hs) (G:Gh) (T:List AZ) (i:Int):Prop where
 ser:AD H G (4+3*i)
 rd:∀ t,H.m<t->G.rd t=[]
 m:H.m=T.length
 m7:T.length<=7
 ei:EI H
def EC.act {H H':Hs} {G:Gh} {i:Int} {nodes:Nat} {x:ActX} (h:EC H G T i) (n:0<=i/\i<=10000) (c:1<=nodes/\nodes<=9) (r:Ba VJ nodes (i+1) x H T H' T'):∃ f,EC H' f (B9 H' (i+1) T') (i+1):=by
 have d:=h.m;have e:=h.m7;have g:=r.cnt h.ser.a (by omega) d e;obtain⟨f,s1,s2⟩:=h.ser.mid0 h.rd d (by omega) e r;exact⟨f,s1.mono (by omega),s2,by rw[F7];exact g.1,by rw[F7];exact g.2.1,h.ei.mid h.ser (by omega) d e c r⟩
def QL (H:Hs) (T:List AZ) (i:Int):Prop:=∃ G,EC H G T i
def Vg (nd:Nat) (c:1<=nd) (e:nd<=3):Sp nd QL:=by
 refine⟨fun H T i ⟨G,h⟩=>⟨h.ser.a,h.m,h.m7⟩,⟨_,(AD.new (n:=nd) (by omega)).mono (by omega),fun _ _=>rfl,(q86 (n:=nd) (by omega)).2.1,VN _,EI.new c e⟩,fun H T i x H' T' ⟨G,h⟩ d r=>h.act d ⟨c,by omega⟩ r⟩
def Np (w:D0) (e:Ending) (w':D0):Prop:=e=.returned (.bool VJ)/\VP w.heap.size w w'
def EC.fix {H H':Hs} {G:Gh} {i now:Int} {nodes:Nat} {x:ActX} (h:EC H G T i) (d:0<=i/\i<=10000) (c:x.aD=11) (r:Ba VJ nodes now x H T H' T'):Bo H':=
 (h.ei.cH h.ser (by omega) (by have:=h.m;have:=h.m7;omega) (r.fixE c).1).2
def EC.calm {H H':Hs} {G:Gh} {i:Int} {nodes:Nat} {x:ActX} (h:EC H G T i) (w:Bo H) (f:H.net.l.length<=200) (g:0<=i/\i<=10000) (c:1<=nodes/\nodes<=9) (e:x.aD=12) (r:Ba VJ nodes (i+1) x H T H' T'):∃ d,EC H' d (B9 H' (i+1) T') (i+1)/\Qt H'/\Bo H':=by
 obtain⟨d,n⟩:=h.act g c r;have q:=Nj h.ser h.ei w f (r.calmE e).1;exact⟨d,n,q.q,q.w⟩
def EC.qt {H:Hs} {G:Gh} {i:Int} (h:EC H G T i) (q:Qt H) (w:Bo H):QtS H G (4+3*i):=⟨h.ser,h.ei,q,w⟩
structure Il (W:D0) (r o k gS nd:Nat) (now:Int) (own:Ah) (P:Aq) (F:Nat->Prop) (H:Hs) (T:List AZ) (B:Nat) (wr:D0):Prop where
 sy:CV wr own P F gS r o k H T now VJ nd B
 fr:Fr (fun b=>W.heap.size<=b) W wr
 lo:∀ b,own b≠B0\/F b->W.heap.size<=b
section
variable {W wr w1:D0} {r o k gS nd:Nat} {now now1:Int} {own own1:Ah} {P P1:Aq} {F F1:Nat->Prop} {H H1:Hs} {T T1:List AZ} {B B1:Nat}
def Il.step (h:Il W r o k gS nd now own P F H T B wr) (g:CV w1 own1 P1 F1 gS r o k H1 T1 now1 VJ nd B1) (c:Gr wr own F w1 own1 F1):Il W r o k gS nd now1 own1 P1 F1 H1 T1 B1 w1:=by
 have hs:=h.fr.size;refine⟨g,h.fr.trans' c.fr (fun b _ e=>h.lo b e),fun b f=>?_⟩;by_cases e:b<wr.heap.size
 ·exact h.lo b (f.imp (fun d=>by rw[<- c.ext b e];exact d) (fun d=>(c.F b d).elim id (fun n=>by omega)))
 ·omega
def Il.bY (h:Il W r o k gS nd now own P F H T B wr) (g:BZ P own H1 wr w1):∃ own1,Il W r o k gS nd now own1 P F H1 T B w1:=by
 obtain⟨own1,c,z⟩:=h.sy.c7 g;exact⟨own1,h.step c z⟩
def Il.below (h:Il W r o k gS nd now own P F H T B wr) (d:VP wr.heap.size wr w1):Il W r o k gS nd now own P F H T B w1:=by
 obtain⟨c,z⟩:=h.sy.below d;exact h.step c z
def Il.drew (h:Il W r o k gS nd now own P F H T B wr):Il W r o k gS nd now own P F H T B wr.drew:=h.below (VK _ _).drew
def Il.fin (h:Il W r o k gS nd now own P F H T B wr):VP W.heap.size W wr:=h.fr.below (fun _ c=>c) (K0 _)
def BgE.sts {Q:Hs->List AZ->Int->Prop} (h:BgE Q W r o k gS nd i own P F H T B wr):Il W r o k gS nd i own P F H T B wr:=⟨h.sy,h.fr,h.lo⟩
def Il.m_len (h:Il W r o k gS nd now own P F H T B wr) (g:H.m=T.length):∃ V L,wr.cell? ⟨gS,0,B0⟩=Bs (pw P.g)/\wr.cell? ⟨gS,1,B0⟩=Bs V/\(∃ A c,V=.slice A H.m c)/\gS<wr.heap.size/\BU wr gS P.g V L now VJ nd B/\L.map (·.t)=T:=by
 obtain⟨V,L,f,d,w,v,u,_,_,_,n⟩:=h.sy.cells;obtain⟨A,c,e,_,_⟩:=AR f.row;have q:L.length=H.m:=by rw[g,<- d,We]
 exact⟨V,L,v,u,⟨A,c,by rw[e,q]⟩,n,f,d⟩
def Hs.db {H:Hs} (h:i<H.m):H.state ((i:Int)+1)=(H.tx (i+1)).state:=by
 unfold Hs.state;rw[if_neg (by omega),show((i:Int)+1).toNat=i+1 by omega]
end
def EldI (H:Hs) (d:Nat):Prop:=Ir H d/\(H.tx d).state=1/\∀ t,1<=t->t<d->(H.tx t).state≠1
def SB (e:D0) (H:Hs) (f c:O0) (wr:D0):Prop:=∃ i d:Nat,f=.int .i64 d/\c=.int .i64 i/\i<=H.m/\wr=e/\((d=0/\∀ t,1<=t->t<=i->(H.tx t).state≠1)\/EldI H d)
def IdP (c:D0) (H:Hs) (e:O0) (wr:D0):Prop:=∃ d:Nat,e=.int .i64 d/\wr=c/\(d=0\/EldI H d)
def ElPu (W:D0) (r o k gS nd:Nat) (now:Int) (T:List AZ) (B i:Nat) (v:O0) (wr:D0):Prop:=∃ (q:Nat) (own:Ah) (P:Aq) (F:Nat->Prop) (H:Hs) (G:Gh) (c:Int),v=.int .i64 q/\q<=4/\c<=900+3*q/\Il W r o k gS nd now own P F H T B wr/\MA H G c i
def q8f (l:List ActX) (nodes c:Int) (n cp:Nat) (A:Option Addr) (W:D0) {r:Nat} (hr:Rd W W.heap.size 4 A n (l.flatMap q5r)) (hl:l.length=n) (hv:∀ x∈l,x.val.size<=maxLen) (ah:VF W r o k) :
  Calls Tryz.prog 4 #[.int .i64 nodes,.slice A n cp,.int .i64 c] W (Np W):=by
 have HB:=LH (Mh QL l nodes n cp A W hr hl hv ah Vg);have aD:=K9 nodes (n:=3) (by omega);clear hr hv ah;generalize aE:1+Aw nodes 3=nd at *;have a1:1<=nd/\nd<=3:=by omega
 clear aE aD;go_enter Tryz.func4,Tryz.ntmps4;go_wp2_with fail;refine HB.o.mono ?_;rintro e w1 (⟨h1,rfl,rfl⟩|⟨h1,gS,own,P,F,H,T,B,rfl,hL⟩)
 ·clear HB;have Z:=LH (show Np W (.returned (.bool VJ)) W from⟨rfl,VK _ _⟩);go_wp2_with fail;go_ret;exact Z.o
 ·obtain⟨G,hG⟩:=hL.st;have J:=LH (q9o hL.sy hG.ser.a (by omega) hG.m hG.m7 (by omega) (by omega) (by have:=hL.B;omega) a1 (⟨11,0,0,⟨#[]⟩⟩:ActX) (show(0:Nat)<=maxLen from VN _));have HL:=LH hL;have HG:=LH hG;clear HB hL hG;unfold Mu Uv pw at J;unfold pw;go_wp2_with fail;refine J.o.mono ?_;rintro e w2 ⟨rfl,aP,P2,F2,H2,T2,aR,B2,aq,aj,rfl,ar,T1,a4,rfl⟩;have ak:=HG.o.fix (by omega) rfl a4;have Q:=HL.o.act (Vg nd (by omega) (by omega)) (by omega) aq aj ar a4;clear J aq aj a4 HL HG;generalize B9 H2 ((n:Int)+1) T1=T2 at *;obtain⟨G2,R⟩:=Q.st;have J:=LH (q9o Q.sy R.ser.a (by omega) R.m R.m7 (by omega) (by omega) (by have:=Q.B;omega) a1 (⟨12,0,0,⟨#[]⟩⟩:ActX) (show(0:Nat)<=maxLen from VN _));have a6:=LH Q;have aA:=LH R;have au:=LH ak;clear Q R ak;unfold Mu Uv pw at J;go_wp2_with fail;refine J.o.mono ?_;rintro e w3 ⟨rfl,a9,P3,F3,z,T3,aQ,B3,ap,ai,rfl,aL,T4,am,rfl⟩;have K:=a6.o.sy.hi.cu;have aJ:=aA.o.calm au.o K (by omega) (by omega) rfl am;have X:=a6.o.sts.step ap ai;clear J ap ai am a6 aA au K ar aL;generalize B9 z (((n+1:Nat):Int)+1) T4=T3 at *;obtain⟨G3,E,ad,a2⟩:=aJ;have aF:=E.m;have b5:=E.m7;have ax:=LH (E.qt ad a2);have a5:=LH X;have az:=LH X.sy.hi;obtain⟨V3,L3,c0,c1,⟨A3,k3,rfl⟩,gl,_,_⟩:=X.m_len aF;have b1:z.m<=7:=by omega
  clear X E ad a2;unfold pw at *;go_upto_block 0 with (fail)
  go_cut [9] (fun s9 wx=>IdP w3 z s9 wx)
  case first=>
   go_wp2_with fail;go_loopw [9,10] (SB w3 z) (fun _ v _=>z.m-(intOf v).toNat)
   case atStart=>exact⟨0,0,rfl,rfl,VN _,rfl,.inl ⟨rfl,fun t h1 h2=>by omega⟩⟩
   case round=>
    obtain⟨i,d,rfl,rfl,hi,rfl,w⟩:=hrel;by_cases aG:(i:Int)<z.m
    ·have aH:i<z.m:=by omega
     have aC:IntKind.i64.wrap ((i:Int)+1)=((i+1:Nat):Int):=by rw[V4 _ ⟨by omega,by omega⟩];omega
     rcases w with ⟨rfl,w⟩|w
     ·have D:=LH (q4c az.o (by omega) ((i+1:Nat):Int));rw[show z.state ((i+1:Nat):Int)=(z.tx (i+1)).state from Hs.db aH] at D;unfold pw at D;by_cases hs:(z.tx (i+1)).state=1
      ·have S:=LH (show SB wr z (.int .i64 ((i+1:Nat):Int)) (.int .i64 ((i+1:Nat):Int)) wr from⟨i+1,i+1,rfl,rfl,by omega,rfl,.inr ⟨⟨by omega,by omega⟩,hs,fun t h1 h2=>w t h1 (by omega)⟩⟩);rw[hs] at D;clear w hs;go_wp2_with fail;refine D.o.mono ?_;rintro e w4 ⟨rfl,rfl⟩;go_wp2_with fail;go_roundw
       ·exact S.o
       ·simp[intOf];omega
      ·have S:=LH (show SB wr z (.int .i64 ((0:Nat):Int)) (.int .i64 ((i+1:Nat):Int)) wr from⟨i+1,0,rfl,rfl,by omega,rfl,.inl ⟨rfl,fun t h1 h2=>by
        by_cases g:t=i+1
        ·subst g;exact hs
        ·exact w t h1 (by omega)⟩⟩)
       have aY:((z.tx (i+1)).state == 1)=Jx:=by simpa using hs
       have aX:decide ((z.tx (i+1)).state=1)=Jx:=decide_eq_false hs;clear w;generalize (z.tx (i+1)).state=st at *;clear hs;go_wp2_with fail;refine D.o.mono ?_;rintro e w4 ⟨rfl,rfl⟩;go_wp2_with fail;go_roundw
       ·exact S.o
       ·simp[intOf];omega
     ·have aI:=w.1.1;have Z:=LH (show IdP wr z (.int .i64 d) wr from⟨d,rfl,rfl,.inr w⟩);have e1:((d:Int) == 0)=Jx:=by simp;omega
      have e2:decide ((d:Int)=0)=Jx:=decide_eq_false (by omega);have e3:(d == 0)=Jx:=by simp;omega
      have e4:¬d=0:=by omega
      clear w;go_wp2_with fail;go_meet;exact Z.o
    ·have Z:=LH (show IdP wr z (.int .i64 d) wr from⟨d,rfl,rfl,w.imp (fun h=>h.1) id⟩);clear w;go_wp2_with fail;go_meet;exact Z.o
  case rest=>
   obtain⟨d,rfl,rfl,w⟩:=hcut;by_cases h0:d=0
   ·subst h0;have Z:=LH (show Np W (.returned (.bool VJ)) wc from⟨rfl,a5.o.fin⟩);go_wp2_with fail;go_ret;exact Z.o
   ·have w:=w.resolve_left h0;have aI:=w.1.1;have b3:=w.1.2;have aB:=LH (ax.o.eld w.1 w.2.1 w.2.2);have e1:((d:Int) == 0)=Jx:=by simp;omega
    have e2:decide ((d:Int)=0)=Jx:=decide_eq_false (by omega);have e3:(d == 0)=Jx:=by simp;omega
    have e4:¬d=0:=by omega
    have aw:=LH (show ElPu W r o k gS nd (((n+1:Nat):Int)+1) T3 B3 d (.int .i64 (0:Nat)) wc from⟨0,a9,P3,F3,z,G3,_,rfl,by omega,by omega,a5.o,aB.o⟩);clear w aB ax a5 az c0 c1 gl h0;go_wp2_with fail;clear e1 e2 e3 e4;go_loopw [11] (ElPu W r o k gS nd (((n+1:Nat):Int)+1) T3 B3 d) (fun v _=>4-(intOf v).toNat)
    case atStart=>exact aw.o
    case round=>
     clear aw;obtain⟨q,own,P,F,H,G,Bd,rfl,hq,b4,M,hE⟩:=hrel;by_cases aG:(q:Int)<4
     ·have aZ:=K9 c (n:=4) (by omega);have N:(q+Aw c 4) % 4<4:=Nat.mod_lt _ (by omega);have ag:names[(q+Aw c 4) % 4]? = Bs (names[(q+Aw c 4) % 4]'N):=L1 N;have O:names[(q+Aw c 4) % 4]'N∈names:=Wv N;generalize names[(q+Aw c 4) % 4]'N=kx at *;obtain⟨V,L,_,_,_,d0,_,_,_,_,gl⟩:=M.drew.sy.cells;obtain⟨n0,nq,aT,aS⟩:=M.drew.sy.nm;have n1:=nq _ _ ag;have m0:=M.sy.nm.var;have aN:=LH (Tw c 4 (by omega) (by omega) wr.drew);have Y:=LH (qcs M.drew.sy.hi hE.h.a.wf M.drew.sy.ns hE.h.a.c d kx O ⟨#[122]⟩ (by decide) Jx);obtain⟨af,ae⟩:=hE.put (by omega) (p:=⟨⟨kx.toArray⟩,⟨#[122]⟩,Jx⟩) (by show sx (bs kx)∈names;rw[Qo];exact O) (show(1:Nat)<=40 by decide);have aC:IntKind.i64.wrap ((q:Int)+1)=((q+1:Nat):Int):=by rw[V4 _ ⟨by omega,by omega⟩];omega
      have aW:IntKind.i64.wrap ((q:Int)+(Aw c 4:Int))=(q:Int)+(Aw c 4:Int):=V4 _ ⟨by omega,by omega⟩;have a2:Int.tmod ((q:Int)+(Aw c 4:Int)) 4=(((q+Aw c 4) % 4:Nat):Int):=by rw[Int.tmod_eq_emod_of_nonneg (by omega)];omega
      have aV:0<=((q:Int)+(Aw c 4:Int)) % 4/\((q:Int)+(Aw c 4:Int)) % 4<4:=⟨by omega,by omega⟩
      have aU:(((q:Int)+(Aw c 4:Int)) % 4).toNat=(q+Aw c 4) % 4:=by omega
      have HS:=LH M.drew;have ay:=LH ae;unfold E9 at Y;rw[af] at Y;clear M hE ae af nq ag O;unfold pw at *;go_upto_region 17 with (fail)
      refine nW ?_;refine CF (fun W=>W.cell? ⟨gS,0,B0⟩=Bs (.pointer (Bs ⟨P.g,0,B0⟩))/\W.cell? ⟨0,0,B0⟩=Bs (.slice (Bs ⟨r,o,B0⟩) 4 k)) 14 (fun _ _ _ _ _ h=>h) (fun y=>?_);have f:wr.drew.cell? ⟨gS,0,B0⟩=Bs (.pointer (Bs ⟨P.g,0,B0⟩))/\wr.drew.cell? ⟨0,0,B0⟩=Bs (.slice (Bs ⟨r,o,B0⟩) 4 k):=⟨d0,n0⟩
      refine nD 0 [1,2,3,14,15] y f ?_;refine nD 1 [2,3,14,15] y f ?_;refine nD 2 [3,14,15] y f ?_;refine nA 3 [14,15] rfl rfl y f (fun w' a3=>by obtain⟨p0,p1⟩:=a3;go_simp;rfl) ?_;refine nD 4 [14,15] y f ?_;refine nA 5 [11,12,13,14,15] rfl rfl y f (fun w' a3=>by obtain⟨p0,p1⟩:=a3;go_simp;rfl) ?_;refine nD 6 [9,10,11,12,13,14,15] y f ?_;refine nD 7 [8,9,10,11,12,13,14,15] y f ?_;refine nG 8 (fun I u=>?_);go_simp;refine aN.o.mono ?_;rintro e w2 ⟨rfl,rfl⟩;go_simp;refine u _ _ (fun _=>f) ?_;clear u I;refine nG 9 (fun I u=>?_);go_simp;refine u _ _ (fun _=>f) ?_;clear u I;refine nG 10 (fun I u=>?_);go_simp;refine u _ _ (fun _=>f) ?_;clear u I;refine nG 11 (fun I u=>?_);go_simp;refine u _ _ (fun _=>f) ?_;clear u I;refine nG 12 (fun I u=>?_);go_simp;refine u _ _ (fun _=>f) ?_;clear u I;refine nG 13 (fun I u=>?_);go_simp;refine u _ _ (fun _=>f) ?_;clear u I;refine nG 14 (fun I u=>?_);go_simp;refine Y.o.mono ?_;rintro e w3 ⟨rfl,E⟩;obtain⟨a0,C⟩:=HS.o.bY E;have S:=LH (show ElPu W r o k gS nd (((n+1:Nat):Int)+1) T3 B3 d (.int .i64 ((q+1:Nat):Int)) w3 from⟨q+1,a0,P,F,_,G,Bd+3,rfl,by omega,by omega,C,ay.o⟩);clear E C HS ay Y;simp only[CD,if_pos];go_simp;refine u _ _ nZ ?_;clear u I;refine nG 15 (fun I u=>?_);go_simp;refine u _ _ nZ ?_;clear u I;refine nX ?_;clear y;go_wp2_with fail;go_roundw
      ·exact S.o
      ·simp[intOf];omega
     ·obtain rfl:q=4:=by omega
      obtain⟨V,L,_,_,_,d0,_,_,_,_,gl⟩:=M.sy.cells;have m0:=M.sy.nm.var;have a7:=LH (Hj M.sy.hi hE.h.a.wf hE.h.a.c d);have HS:=LH M;have HE:=LH hE;unfold EG at a7;unfold pw at *;clear M hE;go_wp2_with fail;refine a7.o.mono ?_;rintro e w4 ⟨er,H4,rfl,hR,ao⟩;obtain⟨rfl,_,hN⟩:=HE.o.ends (by omega) hR;obtain⟨a0,C⟩:=HS.o.bY ao;obtain⟨V,L,_,_,_,c0,_,_,_,_,aM⟩:=C.sy.cells;have a8:=LH (qcy C.sy.hi hN.h.a.wf hN.h.a.c);have K:=C.sy.hi.cu;have HN:=LH hN;have av:=LH C;unfold NJ at a8;unfold pw at *;clear hR ao C hN a7 HS HE d0 gl;simp only[CD,if_pos];go_wp2_with fail;refine a8.o.mono ?_;rintro e w5 ⟨rfl,H5,al,an,aa,ab⟩;obtain⟨h3,aK,_⟩:=HN.o.calm K al;obtain⟨aO,U⟩:=av.o.bY an;obtain⟨V,L,_,_,_,b0,_,_,_,_,b6⟩:=U.sy.cells;have b2:d<=H5.m:=by rw[ab.m];exact HN.o.ir.2
      have D:=LH (q4c U.sy.hi (by have:=aa.bz;omega) (d:Int));have ac:H5.state (d:Int)=3:=by
       unfold Hs.state;rw[if_neg (by omega),show((d:Nat):Int).toNat=d by omega];exact h3
      rw[ac] at D;have Z:=LH (show Np W (.returned (.bool VJ)) w5 from⟨rfl,U.fin⟩);unfold pw at *;clear al an U aK HN av a8 c0 aM h3 ac;go_wp2_with fail;refine D.o.mono ?_;rintro e w6 ⟨rfl,rfl⟩;go_wp2_with fail;go_ret;exact Z.o
section
open Go.RowKit Go.WideShapes Go.ChangeShapes
section
variable {H:Type} {enc:VV×O0->H} {P:Program}
def qch {f:Func} {s:ChangeSpec} {n y:Bool} {A:D0} {args:Array O0} {I gs:List (YW H)} {c:List Zc}
  (K:DataW.Whole enc P f.params.toList s.vars n W args.toList I gs c)
  (u:∀ (b:Nat) (x:Nat->Bool) (O:Bool),YA enc P A b x O f.resultTypes.toList (v.resultList f.resultTypes.size) (s.fn H (I++gs)).results [])
  (g:∀ x:Nat->Bool,(∀ p∈c,x p.block=VJ)->YA enc P A 0 x VJ f.params.toList args.toList (s.fn H (I++gs)).args pa)
  (d:∀ x:Nat->Bool,(∀ p∈c,x p.block=VJ)->DataW.TrodVars enc P A x s.vars (s.fn H (I++gs)).vars pv)
  (q:c=pa++pv) (L:VP W.heap.size W A)
  (J:∀ (j:Nat) (t:VV) (r:O0),f.resultTypes[j]? = Bs t->(v.resultList f.resultTypes.size)[j]? = Bs r->Value.okWide P A .any 0 t r) :
  s.post enc P f n y h z W args v A:=by
 have D:∀ p∈c,p.block<W.heap.size:=fun p e=>K.lt p e
 have w:∀ p∈c,(fun b=>decide (b<W.heap.size)) p.block=VJ:=fun p e=>by simpa using D p e
 refine⟨I,gs,c,[],pa,pv,K,u _ _ _,g _ w,d _ w,World.keptBut_mono (fun p e=>⟨e,?_⟩) (L.frame (·∈c)),fun _=>?_⟩
 ·rw[q,XG] at e;exact Or.inr e
 ·obtain⟨_,_,_,_,_,M,N⟩:=K;refine⟨J,_,_,([]++pa)++pv,⟨[]++pa,pv,trodAll_append (g _ (fun _ _=>rfl)) (u _ _ _),d _ (fun _ _=>rfl),rfl,?_,?_⟩,?_⟩
  ·intro b C e;have E:MemPlace.cell b C∈c:=by rw[q];simpa using e
   rw[L.frozen (D _ E)];exact M b C E
  ·intro Q;have:=N Q;rw[q] at this;simpa using this
  ·intro p e _;rw[q];simpa using e
end
end
section
open Go.ChangeShapes Go.WideShapes Go.ChangeAt Go.RowKit Go.Deep
section
variable {H:Type} {enc:VV×O0->H} {P:Program}
def q6t (hl:laidOutB P=VJ) {W n:D0} {g:Nat->Bool} : ∀ (ts:List VV) (c:List O0) (f:List (YW H)) (ps:List Zc),(∀ t∈ts,P.readableRec t=VJ/\t<P.types.size)->
  YA enc P W 0 (fun _=>VJ) VJ ts c f ps->(∀ p∈ps,W.sameAt n p)->(∀ p∈ps,g p.block=VJ)->YA enc P n 0 g VJ ts c f ps
 | [],c,f,ps,_,h,_,_=>by
  cases c <;> cases f <;> simp_all [YA]
 | t::ts,[],f,ps,_,h,_,_=>by simp[YA] at h
 | t::ts,v::c,[],ps,_,h,_,_=>by simp[YA] at h
 | t::ts,v::c,d::f,ps,hr,h,hsame,hs=>by
  obtain⟨p,q,A,z,rfl⟩:=h;obtain⟨w,u⟩:=hr t (VH ..);exact⟨p,q,WideElems.Trod_stays hl w u A (fun x e=>hsame x (VT _ e)) (fun x e=>hs x (VT _ e)),
   q6t hl ts c f q (fun t y=>hr t (VI _ y)) z (fun x e=>hsame x (WZ _ e)) (fun x e=>hs x (WZ _ e)),rfl⟩
def close_law {f:Func} {s:ChangeSpec} {e n d:Bool} {K:D0} {args:Array O0} {D gs:List (YW H)} 
  (hl:laidOutB P=VJ) (L:∀ t∈f.params.toList,P.readableRec t=VJ/\t<P.types.size) (y:f.resultTypes=#[tb]) (w:P.underlying tb=Bs .bool) (v:s.vars=[])
  (I:DataW.Whole enc P f.params.toList s.vars e W args.toList D gs g) (c:s.fn H (D++gs) = { results:=[.lit (.bool VJ)],args:=D }) (E:VP W.heap.size W K) :
  s.post enc P f e n d u W args (.bool VJ) K:=by
 have h:=I;obtain⟨p,q,O,J,rfl,N,M⟩:=I;rw[v] at J;obtain⟨rfl,rfl⟩:=trodVars_none J;simp only[WE] at h c;have C:∀ x∈p,x.block<W.heap.size:=fun x z=>h.lt x z
 refine qch (pa:=p) (pv:=[]) h (fun _ _ _=>?_) (fun Q A=>?_) (fun _ _=>?_) (by simp) E (ok_one y rfl (okWide_bool_mk w _))
 ·rw[y];simp only[WE,c];exact trodAll_cons_mk (shut_bool w _) trodAll_mk0
 ·simp only[WE,c];exact q6t hl _ _ _ _ L O (fun x z=>E.same (C x z)) A
 ·rw[v];simp only[WE,c];rfl
end
def S8 {H:Type} {d:YW H} {l:List (YW H)} (h:d∈l):Rows.uptoBulk d<=Rows.uptoBulkAll l:=by
 induction l with
 | nil=>cases h
 | cons x r c=>
  simp only[Rows.uptoBulkAll];rcases List.mem_cons.1 h with e|e
  ·subst e;omega
  ·have:=c e;omega
def Qb {H:Type} (l r:List (YW H)):Rows.uptoBulkAll l<=Rows.uptoBulk (DataW.slice l r):=by simp only[Rows.uptoBulk];omega
def q9c {g:Nat} {c:Option Nat} (h:w.cell? ⟨g,o,c⟩=Bs v):c=B0:=by
 rcases c with _|c
 ·rfl
 ·unfold World.cell? at h;split at h
  ·simp at h
  ·cases h
def q6q {a:Addr} (h:w.cell? (a.add k)=Bs v) (g o:Nat) (d:Option Nat) (f:a=⟨g,o,d⟩):w.cell? ⟨g,o+k,B0⟩=Bs v/\g<w.heap.size:=by
 subst f;have c:=Wa w _ h;rw[Hm] at c;refine⟨?_,c⟩;unfold Addr.add at h;split at h
 ·rename_i e;subst e;have:=q9c h;subst this;exact h
 ·exact h
section
variable {H:Type} {enc:VV×O0->H} {W:D0}
def RI {α:Type} (size:Nat) (c:α->List O0) (n:∀ x,(c x).length=size) (Q:α->Prop) (g o:Nat):∀ m:Nat,(∀ i,i<m->∃ x,Q x/\∀ j u,(c x)[j]? = Bs u->W.cell? ⟨g,o+(i*size+j),B0⟩=Bs u)->
  ∃ l:List α,l.length=m/\(∀ x∈l,Q x)/\∀ j u,(l.flatMap c)[j]? = Bs u->W.cell? ⟨g,o+j,B0⟩=Bs u
 | 0,_=>⟨[],rfl,(fun x w=>by cases w),(fun j u d=>by simp at d)⟩
 | m+1,h=>by
  obtain⟨l,hl,A,C⟩:=RI size c n Q g o m (fun i E=>h i (by omega));obtain⟨x,w,z⟩:=h m (by omega);have q:(l.flatMap c).length=m*size:=by
   rw[<- hl];clear hl A C;induction l with
   | nil=>simp
   | cons y r D=>simp only[VM,VS,n,D,Wl,Nat.succ_mul];omega
  refine⟨l++[x],by simp[hl],fun y f=>?_,fun j u d=>?_⟩
  ·rcases List.mem_append.1 f with f|f
   ·exact A y f
   ·rw[List.mem_singleton.1 f];exact w
  ·rw[WG] at d;rcases Nat.lt_or_ge j (l.flatMap c).length with v|v
   ·rw[Wg v] at d;exact C j u d
   ·rw[Wk v] at d;have:=z (j-m*size) u (by rw[<- q];simpa using d);rw[q] at v;have e:m*size+(j-m*size)=j:=by omega
    rwa [e] at this
def open_gen {P:Program} {T e:VV} (hT:P.underlying T=Bs (.slice e)) (size:Nat) (hC:P.cellsOf e=size) (BD:0<size) (d:α->List O0) (q:∀ x,(d x).length=size) (Q:Nat->α->Prop) {sp:Nat->Bool}
  (M:∀ (n:Nat) (cs:List O0) (y:YW H×List Zc),DataW.trod enc P W 0 sp VJ n e cs=Bs y->∃ x,cs=d x/\Q (Rows.uptoBulk y.1) x)
  {y:YW H×List Zc} (h:DataW.trod enc P W 0 sp VJ n T [v]=Bs y) :
  ∃ (A:Option Addr) (k c:Nat) (l:List α),v=.slice A k c/\k<=c/\l.length=k/\Rd W W.heap.size size A k (l.flatMap d)/\∀ x∈l,∃ m,m<=Rows.uptoBulk y.1/\Q m x:=by
 rcases open_slice hT h with ⟨hc,_⟩|⟨a,f,cap,m,n',D,Pl,hc,_,a0,_,hm,rfl,hi⟩
 ·obtain rfl:v=.slice B0 0 0:=by simpa using hc
  exact⟨B0,0,0,[],rfl,K0 _,rfl,Rd.none_ _ _ _ _,(fun p K=>by cases K)⟩
 ·obtain rfl:v=.slice (Bs a) f cap:=by simpa using hc
  have a6:f<=m:=by rw[hm];split <;> omega
  obtain⟨g,o,E⟩:=a;have a3:=Qb ((WS f).map D) ((WS (m-f)).map fun j=>D (f+j));have L:∀ i,i<f->∃ x:α,((∃ b,b<=Rows.uptoBulk (DataW.slice ((WS f).map D) ((WS (m-f)).map fun j=>D (f+j)))/\Q b x)/\g<W.heap.size/\E=B0)/\∀ j u,(d x)[j]? = Bs u->W.cell? ⟨g,o+(i*size+j),B0⟩=Bs u:=fun i a1=>by
   obtain⟨a8,N,ht⟩:=hi i (by omega);rw[hC] at N;obtain⟨p,rfl,K⟩:=M _ _ _ ht;obtain⟨_,_,a5⟩:=World.cells?_some N;have C:∀ j u,(d p)[j]? = Bs u->W.cell? ⟨g,o+(i*size+j),B0⟩=Bs u/\g<W.heap.size:=fun j u U=>by
    have hj:j<size:=by rw[<- q p];exact(List.getElem?_eq_some_iff.1 U).1
    have S:=a5 j hj;rw[U,Mq] at S;exact q6q S g o E rfl
   have a4:Rows.uptoBulk (D i)<=Rows.uptoBulkAll ((WS f).map D):=S8 (List.mem_map.2 ⟨i,List.mem_range.2 a1,rfl⟩);obtain⟨u0,X⟩:∃ u0,(d p)[0]? = Bs u0:=⟨_,L1 (by rw[q];exact BD)⟩
   have z:E=B0:=by
    obtain⟨a7,J,Y⟩:=hi 0 (by omega);rw[hC] at J;obtain⟨p0,rfl,_⟩:=M _ _ _ Y;obtain⟨_,_,R⟩:=World.cells?_some J;have S:=R 0 BD;obtain⟨u1,V⟩:∃ u1,(d p0)[0]? = Bs u1:=⟨_,L1 (by rw[q];exact BD)⟩
    rw[V] at S;exact q9c (w:=W) (g:=g) (o:=o) (v:=u1) (by simpa [Addr.add] using S)
   exact⟨p,⟨⟨Rows.uptoBulk (D i),VO a4 a3,K⟩,(C 0 _ X).2,z⟩,fun j u U=>(C j u U).1⟩
  obtain⟨l,I,Z,O⟩:=RI size d q _ g o f L;have a2:(l.flatMap d).length=f*size:=by
   rw[<- I];clear I Z O;induction l with
   | nil=>simp
   | cons y r ih=>simp only[VM,VS,ih,Wl,q,Nat.succ_mul];omega
  refine⟨Bs ⟨g,o,E⟩,f,cap,l,rfl,a0,I,⟨a2,fun h0=>?_⟩,fun p K=>(Z p K).1⟩;obtain⟨x,hx⟩:∃ x,x∈l:=by
   cases l with
   | nil=>simp at I;omega
   | cons x r=>exact⟨x,VH ..⟩
  obtain⟨_,hg,z⟩:=Z x hx;subst z;exact⟨g,o,rfl,hg,O⟩
end
end
section
open Go.ChangeShapes Go.WideShapes Go.ChangeAt Go.RowKit Go.Deep
def own_knob:ownKnob Tryz.prog.godebug=B0:=by kernel_rfl
def h_size:Tryz.prog.types.size=259:=by kernel_rfl
def Ud:Tryz.prog.globalNamed "chainmail/chainmailkeep.names" = Bs 0:=by kernel_rfl
def Ti:(Tryz.prog.globals[0]?).map (·.type)=Bs 39:=by kernel_rfl
def qco:List (String×YW Unit):=[("chainmail/chainmailkeep.names",Rows.laid_chainmail_chainmailkeep_names)]
def names_of (h:laidMetH Tryz.prog qco W):∃ r o k,VF W r o k:=by
 rw[MakeChecks.laidMetH_plain _ _ _ (by kernel_rfl)] at h;obtain⟨ps,⟨V,R,Q,X,U,S,f,y,u,C,_,_⟩,_,_⟩:=h;obtain rfl:=WR (Ud.symm.trans f);obtain rfl:=WR (Ti.symm.trans y);obtain⟨a,cap,D,M,A⟩:=open_row Tryz.underlying39 (by kernel_rfl) C;have c:W.cell? ⟨0,0,B0⟩=Bs (.slice (Bs a) 4 cap):=by
  have:=World.var?_cell f u 0;rw[Array.eq_one_of_toList D] at this;simpa using this
 have hs:∀ (i:Nat) (x:Sx),names[i]? = Bs x->W.cell? (a.add i)=Bs (.string ⟨x.toArray⟩):=fun i x d=>by
  have N:([.lit (.string [97]),.lit (.string [98]),.lit (.string [99]),.lit (.string [100])]:List (YW Unit))[i]? = Bs (.lit (.string x)):=by
   have e:=(List.getElem?_eq_some_iff.1 d).1;have e:i<4:=e;rcases(by omega:i=0\/i=1\/i=2\/i=3) with rfl|rfl|rfl|rfl <;> (simp[names] at d;subst d;rfl)
  obtain⟨v,n,q,O,L⟩:=A i _ N;obtain⟨s,E,J,_⟩:=DataW.trod_string Tryz.underlying9 L;simp only[Prod.mk.injEq,DataW.lit.injEq,Lit.string.injEq] at J;have E:v=.string s:=by simpa using E
  rw[O,E];congr 2;rw[J.1]
 obtain⟨g,o,K⟩:=a;have I:=hs 0 [97] rfl;have z:K=B0:=q9c (w:=W) (g:=g) (o:=o) (by simpa [Addr.add] using I);subst z;refine⟨g,o,cap,c,fun q x d=>(q6q (hs q x d) g o B0 rfl).1,Wa W _ c,(q6q I g o B0 rfl).2⟩
def door_met (c:Os) (args:Array O0):laidMetH Tryz.prog qco ((World.doorLaid Tryz.prog 400 c).forCall (fun _ _=>0) ⟨#[],args,[]⟩).memory:=
 laidMetH_of_parts3 (fuel:=8) (laidMet_of_run' 8 (by kernel_rfl) (by kernel_rfl)) (by kernel_rfl) (by kernel_rfl)
end
end Go.Proofs.YtccahlhdifadfaaGreatDoor
