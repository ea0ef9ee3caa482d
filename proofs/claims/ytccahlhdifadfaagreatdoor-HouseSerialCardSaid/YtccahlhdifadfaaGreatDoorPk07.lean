/- Part 8 of the texts that the claim rests on (of 9): Sa2, Sa3, Sa4, Sa5, Sa6, Sa7, Sa8, Sa9, SaA, SaB, SaC, SaD, SaE, SaF, SaG, SaH, SaI, SaJ, SaK, SaL, QMapSS. -/
import Derived.Test.YtccahlhdifadfaaGreatDoorPk06
import Derived.Test.YtccahlhdifadfaaGreatDoorRows
import Derived.Maps.OwnSet
import Derived.Maps.RangeWalk
import Derived.Maps.Ext
import Derived.Maps.StringElems
import Derived.WalkKit
import Derived.WalkSpells
import Derived.WalkLawsBesides
namespace Go.Proofs.YtccahlhdifadfaaGreatDoor
open Go.RowKit
open _root_.Bool renaming false → Jx, true → T2
open _root_.Classical renaming byContradiction → Wl
open _root_.Go renaming World → B1, maxLen → VZ, Operand → X6, DataW → Yv
open _root_.Go.Result renaming andThen → WV
open _root_.Iff renaming rfl → Yr
open _root_.Int renaming le_refl → Xk
open _root_.List renaming getElem?_eq_getElem → K0, mem_of_getElem? → O0, mem_cons_self → VL, mem_cons_of_mem → VM, length_append → VP, findIdx?_eq_some_iff_getElem → VR, prefix_refl → VS, getElem?_map → VT, take_add_one → VV, mem_singleton → VW, getElem?_mapIdx → V5, mem_append_left → Wa, getElem?_append_left → Wc, take_append_of_le_length → Wp, range → Wu, mem_of_mem_take → WB, getElem_mem → WE, range' → WG, length_cons → WH, append_nil → WM, mem_of_find?_eq_some → WT, nodup_append → Xo, length_nil → Xu, pairwise_map → XA, filter_sublist → XQ, getElem?_concat_length → X9, getElem?_set → Yi, nodup_nil → Ys, mem_filter → YA, eq_nil_or_concat → YG, concat_eq_append → YH, filter_cons → YP, append_inj' → YQ, mem_map_of_mem → YU, take_left' → YY, nodup_cons → YZ, find?_eq_none → Y2, idxOf_append → Y8
open _root_.List.Nodup renaming length_le_of_subset → WZ
open _root_.List.Pairwise renaming nil → Yj
open _root_.Nat renaming le_refl → L1, zero_le → VK, le_of_lt → Yh
open _root_.Option renaming some → Bs, none → B0
open _root_.Option.some renaming injEq → VN, inj → Wj
set_option linter.all false
set_option maxRecDepth 100000
set_option maxHeartbeats 16000000
def S0 (l:List Cm) (i:Int):Prop:=AP l 2 i/\¬AP l 3 i/\¬AP l 4 i
def Shr (a b:List Pr):Prop:=∃ p∈a,∃ q∈b,sx p.key=sx q.key
def SP (l:List Cm):Prop:=∀ (q:Nat) (c:Cm),l[q]? = Bs c->c.ag=2->¬AP (l.take q) 2 c.tx/\¬AP (l.take q) 3 c.tx/\¬AP (l.take q) 4 c.tx/\∀ w∈l.take q,w.ag=2->Shr w.aa c.aa->¬S0 (l.take q) w.tx
theorem IT {l l':List Cm} (e:l' <+: l) {q:Nat} (d:q<=l'.length):l'.take q=l.take q:=by
 obtain⟨r,rfl⟩:=e;rw[Wp d]
theorem SP.pre {l l':List Cm} (h:SP l) (d:l' <+: l):SP l':=fun q c e=>by
 have f:=(List.getElem?_eq_some_iff.1 e).1;rw[IT d (Yh f)];exact h q c (getElem?_prefix d e)
theorem SP.snoc {l:List Cm} (h:SP l) {c:Cm} (p:c.ag=2->¬AP l 2 c.tx/\¬AP l 3 c.tx/\¬AP l 4 c.tx/\∀ w∈l,w.ag=2->Shr w.aa c.aa->¬S0 l w.tx):SP (l++[c]):=fun q d e k=>by
 by_cases g:q<l.length
 ·rw[Wc g] at e;rw[Wp (Yh g)];exact h q d e k
 ·have f:=(List.getElem?_eq_some_iff.1 e).1;simp only[VP,WH,Xu] at f;obtain rfl:q=l.length:=by omega
  simp only[X9,VN] at e;subst e;rw[YY rfl];exact p k
theorem AP.left {l:List Cm} {k i:Int} (h:AP l k i) (r:List Cm):AP (l++r) k i:=h.mono (fun _ d=>Wa _ d)
theorem Tz {l:List Cm} {c:Cm} {k i:Int} : AP (l++[c]) k i↔AP l k i\/(c.ag=k/\c.tx=i):=by
 unfold AP;constructor
 ·rintro ⟨d,e,h⟩;rcases List.mem_append.1 e with e|e
  ·exact .inl ⟨d,e,h⟩
  ·rw[VW] at e;subst e;exact .inr h
 ·rintro (⟨d,e,h⟩|h)
  ·exact⟨d,Wa _ e,h⟩
  ·exact⟨c,by simp,h⟩
theorem S0.dk {l:List Cm} {c:Cm} {i:Int} (h:S0 (l++[c]) i) (d:AP l 2 i):S0 l i:=⟨d,fun e=>h.2.1 (e.left _),fun e=>h.2.2 (e.left _)⟩
noncomputable def tabT (c:Cm) (T:Tb):Tb:=if c.ag=2 then Cd T c.tx c.aa else if c.ag=3 then Bh T c.tx else if c.ag=4 then Bh T c.tx else T
theorem q8y {c:Cm} (h:c.ag=2) (T:Tb):tabT c T=Cd T c.tx c.aa:=if_pos h
theorem Up {c:Cm} (h:c.ag=3\/c.ag=4) (T:Tb):tabT c T=Bh T c.tx:=by
 unfold tabT;rcases h with h|h
 ·rw[if_neg (by omega),if_pos h]
 ·rw[if_neg (by omega),if_neg (by omega),if_pos h]
def EO (T:Tb) (l:List Cm) (ex:Int->Prop):Prop:=∀ w∈l,w.ag=2->S0 l w.tx->¬ex w.tx->∀ p∈w.aa,Hd T (sx p.key) w.tx 2
theorem EO.mono {T T':Tb} {l:List Cm} {ex d:Int->Prop} (h:EO T l ex) (t:∀ i,ex i->d i) (u:∀ x i m,¬d i->Hd T x i m->Hd T' x i m):EO T' l d:=fun w g r q f p k=>u _ _ _ f (h w g r q (fun e=>f (t _ e)) p k)
theorem EO.step {T:Tb} {l:List Cm} {ex:Int->Prop} (g:GT T) (h:EO T l ex) {c:Cm} (d:c.ag=2\/c.ag=3\/c.ag=4) (y:c.ag=2->∀ p∈c.aa,DD T (sx p.key) c.tx) :
  EO (tabT c T) (l++[c]) (fun i=>ex i/\(c.ag=2\/i≠c.tx)):=fun w k f u x p q=>by
 rcases List.mem_append.1 k with k|k
 ·have r:=u.dk ⟨w,k,f,rfl⟩;rcases d with d|d
  ·have v:=h w k f r (fun e=>x ⟨e,.inl d⟩) p q;rw[q8y d];exact(Uo _ g (y d)).up _ _ _ v
  ·have t:w.tx≠c.tx:=fun e=>by
    rcases d with d|d
    ·exact u.2.1 (Tz.2 (.inr ⟨d,e.symm⟩))
    ·exact u.2.2 (Tz.2 (.inr ⟨d,e.symm⟩))
   have v:=h w k f r (fun e=>x ⟨e,.inr t⟩) p q;rw[Up d];exact v.rel g t
 ·rw[VW] at k;subst k;rw[q8y f];exact(Uo _ g (y f)).hd p q
theorem GT.tabT {T:Tb} (g:GT T) {c:Cm} (d:c.ag=2->∀ p∈c.aa,DD T (sx p.key) c.tx):GT (tabT c T):=by
 unfold Go.Proofs.YtccahlhdifadfaaGreatDoor.tabT;split
 ·rename_i h;exact(Uo _ g (d h)).gt
 ·split
  ·exact g.rel _
  ·split
   ·exact g.rel _
   ·exact g
structure TI (T:Tb) (l:List Cm):Prop where
 gt:GT T
 ws:∀ x,(Ac T x).ws=[]
 src:∀ x o m,(Ac T x).h o=Bs m->S0 l o/\∃ w∈l,w.ag=2/\w.tx=o/\∃ p∈w.aa,sx p.key=x
 cov:EO T l (fun _=>False)
theorem TI.nil:TI (fun _=>B0) []:=⟨GT.none_,fun _=>rfl,fun _ _ _ h=>(nomatch h),fun _ h=>(nomatch h)⟩
theorem TI.step {T:Tb} {l:List Cm} (h:TI T l) {c:Cm} (J:SP (l++[c])) (d:c.ag=2\/c.ag=3\/c.ag=4):TI (tabT c T) (l++[c]):=by
 have k:=fun u=>J l.length c (by simp) u
 simp only[YY rfl] at k;have g:c.ag=2->∀ p∈c.aa,DD T (sx p.key) c.tx:=fun u p A=>by
  obtain⟨_,_,_,C⟩:=k u;refine⟨by rw[h.ws];rfl,.inr ⟨fun o m v t=>?_,by rw[h.ws];rfl⟩⟩;obtain⟨I,w,r,D,rfl,q,L,z⟩:=h.src _ _ _ v;exact absurd I (C w r D ⟨q,L,p,A,z⟩)
 have y:EO (tabT c T) (l++[c]) (fun _=>False):=(h.cov.step h.gt d g).mono (fun i e=>e.1.elim) (fun x i m _ e=>e);refine⟨h.gt.tabT g,?_,?_,y⟩
 ·intro x;rcases d with d|d
  ·rw[q8y d,(Uo _ h.gt (g d)).ws,h.ws]
  ·rw[Up d];refine List.eq_nil_iff_forall_not_mem.2 (fun w r=>?_);have:=Es h.gt (show Wt (Bh T c.tx) x w.1 w.2 from r);unfold Wt at this;rw[h.ws] at this;exact nomatch this.2
 ·intro x o m v;rcases d with d|d
  ·rw[q8y d] at v;obtain⟨I,N,M,_⟩:=k d;rcases(Uo _ h.gt (g d)).src x o m v with f|⟨rfl,p,A,f⟩
   ·obtain⟨⟨a1,a2,F⟩,w,r,E⟩:=h.src x o m f;refine⟨⟨a1.left _,fun e=>?_,fun e=>?_⟩,w,Wa _ r,E⟩
    ·rcases Tz.1 e with e|⟨e,_⟩
     ·exact a2 e
     ·omega
    ·rcases Tz.1 e with e|⟨e,_⟩
     ·exact F e
     ·omega
   ·refine⟨⟨Tz.2 (.inr ⟨d,rfl⟩),fun e=>?_,fun e=>?_⟩,c,by simp,d,rfl,p,A,f⟩
    ·rcases Tz.1 e with e|⟨e,_⟩
     ·exact N e
     ·omega
    ·rcases Tz.1 e with e|⟨e,_⟩
     ·exact M e
     ·omega
  ·rw[Up d] at v;obtain⟨t,f⟩:=Uj h.gt v;rcases f with f|⟨O,f⟩
   ·obtain⟨⟨a1,a2,F⟩,w,r,E⟩:=h.src x o m f;refine⟨⟨a1.left _,fun e=>?_,fun e=>?_⟩,w,Wa _ r,E⟩
    ·rcases Tz.1 e with e|⟨_,e⟩
     ·exact a2 e
     ·exact t e.symm
    ·rcases Tz.1 e with e|⟨_,e⟩
     ·exact F e
     ·exact t e.symm
   ·unfold Wt at f;rw[h.ws] at f;cases f
def vxP (t:Int) (p:Pr):Vx:=⟨t,if p.gone then [] else sx p.val,p.gone⟩
def Vv (l:List Cm) (x:Sx) (v:Vx):Prop:=∃ c w p,c∈l/\c.ag=3/\w∈l/\w.ag=2/\w.tx=c.tx/\p∈w.aa/\sx p.key=x/\v=vxP c.ae p
structure EP (K:Kp) (l:List Cm):Prop where
 sorted:∀ x,FB (K x)
 src:∀ x v,v∈K x->Vv l x v
 all:∀ (q:Nat) (c:Cm),l[q]? = Bs c->c.ag=3->∀ w∈l.take q,w.ag=2->w.tx=c.tx->∀ p∈w.aa,∃ v∈K (sx p.key),v.t=c.ae
theorem EP.nil:EP (fun _=>[]) []:=⟨fun _=>Yj,fun _ _ h=>(nomatch h),fun q c h=>by simp at h⟩
structure C1 (K K':Kp) (S:Sx->Vx->Prop) (N:Sx->Int->Prop):Prop where
 sorted:∀ x,FB (K' x)
 src:∀ x v,v∈K' x->v∈K x\/S x v
 up:∀ x v,v∈K x->v∈K' x
 all:∀ x t,N x t->∃ v∈K' x,v.t=t
theorem putS_p {K:Kp} (hs:∀ x,FB (K x)) {t:Int} (r:0<=t/\t<=60) {p:Pr} (g:SO p):C1 K (Ct K 0 ⟨sx p.key,sx p.val,p.gone,t⟩).2 (fun x v=>sx p.key=x/\v=vxP t p) (fun x u=>sx p.key=x/\u=t):=by
 have y:=KJ g.1;have q:=g.2;rw[I9] at q;unfold Ct;rw[if_neg (by show ¬(t<0\/1099511627776<t);omega),if_neg (by show ¬(20<(sx p.key).length\/40<(sx p.val).length);omega),if_neg (by show ¬t<0;omega)];by_cases d:Dc (K (sx p.key)) t=T2
 ·rw[if_pos d];refine⟨hs,fun x v h=>.inl h,fun x v h=>h,?_⟩;rintro x u ⟨rfl,rfl⟩;unfold Dc at d;obtain⟨v,k,l⟩:=List.any_eq_true.1 d;exact⟨v,k,by simpa using l⟩
 ·have d:Dc (K (sx p.key)) t=Jx:=by simpa using d
  rw[if_neg (by rw[d];simp)];refine⟨fun x=>?_,fun x v h=>?_,fun x v h=>?_,?_⟩
  ·show FB (BX K (sx p.key) _ x);unfold BX;split
   ·exact q9s (hs _) d
   ·exact hs x
  ·have f:v∈BX K (sx p.key) (Cu (K (sx p.key)) (Im ⟨sx p.key,sx p.val,p.gone,t⟩)) x:=h;clear h;unfold BX at f;by_cases e:x=sx p.key
   ·rw[if_pos e] at f;subst e;rcases q6x.1 f with h|h
    ·exact .inr ⟨rfl,h⟩
    ·exact .inl h
   ·rw[if_neg e] at f;exact .inl f
  ·show v∈BX K (sx p.key) (Cu (K (sx p.key)) (Im ⟨sx p.key,sx p.val,p.gone,t⟩)) x;unfold BX;split
   ·rename_i e;subst e;exact q6x.2 (.inr h)
   ·exact h
  ·rintro x u ⟨rfl,rfl⟩;refine⟨Im ⟨sx p.key,sx p.val,p.gone,u⟩,?_,rfl⟩;show _∈BX K (sx p.key) (Cu (K (sx p.key)) (Im ⟨sx p.key,sx p.val,p.gone,u⟩)) (sx p.key);unfold BX;rw[if_pos rfl];exact q6x.2 (.inl rfl)
theorem C1.refl {K:Kp} (hs:∀ x,FB (K x)) {S:Sx->Vx->Prop} {N:Sx->Int->Prop} (d:∀ x t,¬N x t):C1 K K S N:=⟨hs,fun _ _ h=>.inl h,fun _ _ h=>h,fun x t h=>(d x t h).elim⟩
theorem C1.trans {A B C:Kp} {S q:Sx->Vx->Prop} {N u:Sx->Int->Prop} (h:C1 A B S N) (k:C1 B C q u) {p:Sx->Vx->Prop} {r:Sx->Int->Prop} (l:∀ x v,S x v\/q x v->p x v) (z:∀ x t,r x t->N x t\/u x t):C1 A C p r:=by
 refine⟨k.sorted,fun x v f=>?_,fun x v f=>k.up x v (h.up x v f),fun x t y=>?_⟩
 ·rcases k.src x v f with d|d
  ·rcases h.src x v d with g|g
   ·exact .inl g
   ·exact .inr (l _ _ (.inl g))
  ·exact .inr (l _ _ (.inr d))
 ·rcases z x t y with d|d
  ·obtain⟨v,f,e⟩:=h.all x t d;exact⟨v,k.up x v f,e⟩
  ·exact k.all x t d
theorem Ng {t:Int} (e:0<=t/\t<=60):∀ (ps:List Pr) {K:Kp},(∀ x,FB (K x))->(∀ p∈ps,SO p)->C1 K (CV K t ps) (fun x v=>∃ p∈ps,sx p.key=x/\v=vxP t p) (fun x u=>∃ p∈ps,sx p.key=x/\u=t)
 | [],K,hs,_=>C1.refl hs (fun x u h=>by obtain⟨p,g,_⟩:=h;cases g)
 | p::ps,K,hs,hw=>by
  have f:=putS_p hs e (hw p VL);have k:=Ng e ps (K:=(Ct K 0 ⟨sx p.key,sx p.val,p.gone,t⟩).2) f.sorted (fun q d=>hw q (VM _ d));refine f.trans k ?_ ?_
  ·rintro x v (⟨a,b⟩|⟨q,d,a⟩)
   ·exact⟨p,VL,a,b⟩
   ·exact⟨q,VM _ d,a⟩
  ·rintro x u ⟨q,d,a,b⟩;rcases List.mem_cons.1 d with rfl|d
   ·exact .inl ⟨a,b⟩
   ·exact .inr ⟨q,d,a,b⟩
theorem Hq {c:Cm} (g:0<=c.ae/\c.ae<=60):∀ (l:List Cm) {K:Kp},(∀ x,FB (K x))->(∀ w∈l,D2 w)->
  C1 K (Bc K l c) (fun x v=>∃ w∈l,w.ag=2/\w.tx=c.tx/\∃ p∈w.aa,sx p.key=x/\v=vxP c.ae p) (fun x u=>∃ w∈l,w.ag=2/\w.tx=c.tx/\∃ p∈w.aa,sx p.key=x/\u=c.ae)
 | [],K,hs,_=>C1.refl hs (fun x u h=>by obtain⟨p,k,_⟩:=h;cases k)
 | w::l,K,hs,hw=>by
  have e:Bc K (w::l) c=Bc (if w.ag=2/\w.tx=c.tx then CV K c.ae w.aa else K) l c:=rfl;rw[e];by_cases f:w.ag=2/\w.tx=c.tx
  ·rw[if_pos f];have t:=Ng g w.aa hs (hw w VL).ps;have r:=Hq g l (K:=CV K c.ae w.aa) t.sorted (fun q d=>hw q (VM _ d));refine t.trans r ?_ ?_
   ·rintro x v (⟨p,k,a⟩|⟨q,d,a⟩)
    ·exact⟨w,VL,f.1,f.2,p,k,a⟩
    ·exact⟨q,VM _ d,a⟩
   ·rintro x u ⟨q,d,a1,a2,a⟩;rcases List.mem_cons.1 d with rfl|d
    ·exact .inl a
    ·exact .inr ⟨q,d,a1,a2,a⟩
  ·rw[if_neg f];have r:=Hq g l (K:=K) hs (fun q d=>hw q (VM _ d));refine(C1.refl hs (S:=fun _ _=>False) (N:=fun _ _=>False) (fun _ _ h=>h)).trans r ?_ ?_
   ·rintro x v (h|⟨q,d,a⟩)
    ·exact h.elim
    ·exact⟨q,VM _ d,a⟩
   ·rintro x u ⟨q,d,a1,a2,a⟩;rcases List.mem_cons.1 d with rfl|d
    ·exact absurd ⟨a1,a2⟩ f
    ·exact .inr ⟨q,d,a1,a2,a⟩
noncomputable def QU (c:Cm) (l:List Cm) (K:Kp):Kp:=if c.ag=3 then Bc K l c else K
theorem Vv.left {l:List Cm} {x:Sx} {v:Vx} (h:Vv l x v) (r:List Cm):Vv (l++r) x v:=by
 obtain⟨c,w,p,g,f,e,d⟩:=h;exact⟨c,w,p,Wa _ g,f,Wa _ e,d⟩
theorem EP.step {K:Kp} {l:List Cm} (h:EP K l) {c:Cm} (M:D2 c) (L:∀ w∈l,D2 w):EP (QU c l K) (l++[c]):=by
 have g:∀ (A:Kp),(∀ x v,v∈K x->v∈A x)->(c.ag=3->∀ w∈l,w.ag=2->w.tx=c.tx->∀ p∈w.aa,∃ v∈A (sx p.key),v.t=c.ae)->
   ∀ (q:Nat) (d:Cm),(l++[c])[q]? = Bs d->d.ag=3->∀ w∈(l++[c]).take q,w.ag=2->w.tx=d.tx->∀ p∈w.aa,∃ v∈A (sx p.key),v.t=d.ae:=fun A C J q d z t w f=>by
  by_cases I:q<l.length
  ·rw[Wc I] at z;rw[Wp (Yh I)] at f;intro r D p u;obtain⟨v,y,e⟩:=h.all q d z t w f r D p u;exact⟨v,C _ _ y,e⟩
  ·have E:=(List.getElem?_eq_some_iff.1 z).1;simp only[VP,WH,Xu] at E;obtain rfl:q=l.length:=by omega
   simp only[X9,VN] at z;subst z;rw[YY rfl] at f;exact J t w f
 unfold QU;by_cases t:c.ag=3
 ·rw[if_pos t];have u:=Hq M.ae l h.sorted L;refine⟨u.sorted,fun x v y=>?_,g _ u.up (fun _ w f r D p k=>u.all _ _ ⟨w,f,r,D,p,k,rfl,rfl⟩)⟩;rcases u.src x v y with F|⟨w,f,F,P,p,k,O,N⟩
  ·exact(h.src x v F).left _
  ·exact⟨c,w,p,by simp,t,Wa _ f,F,P,k,O,N⟩
 ·rw[if_neg t];exact⟨h.sorted,fun x v y=>(h.src x v y).left _,g _ (fun _ _ h=>h) (fun e=>absurd e t)⟩
section
variable {H:Hs} {s:Nat}
theorem q8x (l:List Cm) (i:Nat) (c:Cm):((H.taken s l i c).sh s).tab=tabT c (H.sh s).tab/\((H.taken s l i c).sh s).sto=QU c (l.take i) (H.sh s).sto/\((H.taken s l i c).sh s).done=i+1:=by
 unfold Hs.taken;rw[Cj];unfold Hs.a9 tabT QU;by_cases f:c.ag=2
 ·rw[if_pos f,if_pos f,if_neg (by omega),Cj];exact⟨rfl,by first|rfl|trivial,by first|rfl|trivial⟩
 ·rw[if_neg f,if_neg f];by_cases d:c.ag=3
  ·rw[if_pos d,if_pos d,if_pos d];unfold Hs.rel;simp only[Cj];refine⟨?_,?_,by first|rfl|trivial⟩
   ·show((Hs.al _ s _).sh s).tab=_;rw[Cj]
   ·show((Hs.al _ s _).sh s).sto=_;rw[Cj]
  ·rw[if_neg d,if_neg d,if_neg d];by_cases e:c.ag=4
   ·rw[if_pos e,if_pos e];unfold Hs.rel;refine⟨?_,?_,by first|rfl|trivial⟩
    ·show((Hs.al _ s _).sh s).tab=_;rw[Cj]
    ·show((Hs.al _ s _).sh s).sto=_;rw[Cj]
   ·rw[if_neg e,if_neg e];exact⟨rfl,by first|rfl|trivial,by first|rfl|trivial⟩
theorem Fj {l:List Cm} (r:SP l) (g:∀ c∈l,(c.ag=2\/c.ag=3\/c.ag=4)/\D2 c):∀ (k:Nat) (H:Hs),(H.sh s).done+k=l.length->TI (H.sh s).tab (l.take (H.sh s).done)->EP (H.sh s).sto (l.take (H.sh s).done)->
  ((Hs.aI s l k H).sh s).done=l.length/\TI ((Hs.aI s l k H).sh s).tab l/\EP ((Hs.aI s l k H).sh s).sto l
 | 0,H,d,f,e=>by
  have d:(H.sh s).done=l.length:=d;rw[d,List.take_length] at f e;exact⟨d,f,e⟩
 | k+1,H,d,f,e=>by
  obtain⟨c,h⟩:∃ c,l[(H.sh s).done]? = Bs c:=⟨_,K0 (by omega)⟩
  rw[q46 rfl h];obtain⟨e1,x,q⟩:=q8x (H:=H) (s:=s) l (H.sh s).done c;have p:l.take ((H.sh s).done+1)=l.take (H.sh s).done++[c]:=by rw[VV,h];rfl
  obtain⟨u,t⟩:=g c (O0 h);refine Fj r g k _ (by rw[q];omega) ?_ ?_
  ·rw[e1,q,p];exact f.step (r.pre (by rw[<- p];exact List.take_prefix _ _)) u
  ·rw[x,q,p];exact e.step t (fun w v=>(g w (WB v)).2)
theorem Oh {l:List Cm} {c:Cm} (d:(H.sh s).done=l.length):Hs.aI s (l++[c]) ((l++[c]).length-(H.sh s).done) H=H.taken s (l++[c]) l.length c:=by
 have e:(l++[c]).length-(H.sh s).done=0+1:=by rw[d];simp
 rw[e,q46 (c:=c) d (by simp)];rfl
end
structure Gh where
 E:List Nat
 rd:Nat->List (Sx×Option Sx)
def Ir (H:Hs) (i:Nat):Prop:=1<=i/\i<=H.m
def Wr (H:Hs) (i:Nat) (x:Sx):Prop:=∃ p∈(H.tx i).aa,sx p.key=x
def Rdx (G:Gh) (i:Nat) (x:Sx):Prop:=∃ v,(x,v)∈G.rd i
def Cp (H:Hs) (G:Gh) (i:Nat) (x:Sx):Prop:=Wr H i x\/Rdx G i x
def BJ (H:Hs) (i:Nat):Prop:=(H.tx i).ae=0/\∃ k,k∈(H.tx i).ai/\(H.tx i).ad k≠Bs (H.sh k).ab/\∀ j,Lv H k j->¬AP (lg H k j) 2 i
def VF (E:List Nat) (a b:Nat):Prop:=∃ A B,E=A++b::B/\a∈A
def Is (d:List Pr) (x:Sx):Option (Option Sx):=(d.find? (fun p=>sx p.key == x)).map fun p=>if p.gone then B0 else Bs (sx p.val)
def Hp (H:Hs) (x:Sx) (i:Nat):Option (Option Sx):=if (H.tx i).state=3 then Is (H.tx i).aa x else B0
def AZ (H:Hs) (A:List Nat) (x:Sx):Option Sx:=A.foldl (fun v i=>(Hp H x i).getD v) B0
def DO (l:List Cm):Prop:=∀ (q:Nat) (c:Cm),l[q]? = Bs c->¬AP (l.take q) c.ag c.tx
theorem q5d {d:List Pr} {x:Sx} : Is d x=B0↔∀ p∈d,sx p.key≠x:=by
 unfold Is;rw[Option.map_eq_none_iff,Y2];simp
theorem q45 (H:Hs) (A:List Nat) (i:Nat) (x:Sx):AZ H (A++[i]) x=(Hp H x i).getD (AZ H A x):=by unfold AZ;rw[List.foldl_append];rfl
theorem qbh {α β:Type} {f g:β->α->β} : ∀ (l:List α) (b:β),(∀ a∈l,∀ b,f b a=g b a)->l.foldl f b=l.foldl g b
 | [],_,_=>rfl
 | a::l,b,h=>by
  rw[List.foldl_cons,List.foldl_cons,h a VL];exact qbh l _ (fun c d=>h c (VM _ d))
theorem Rp {H H':Hs} {A:List Nat} {x:Sx} (h:∀ i∈A,Hp H' x i=Hp H x i):AZ H' A x=AZ H A x:=qbh A B0 (fun i d b=>by rw[h i d])
structure SI (H:Hs) (G:Gh) (ex:Nat->Int->Prop):Prop where
 gt:∀ k,k<3->GT (H.sh k).tab
 t2:∀ x,(H.sh 2).tab x=B0
 dn:∀ k j,k<3->H.head k=Bs j->(H.sh k).done=(lg H k j).length
 pw:∀ k j,k<2->Lv H k j->∀ c∈lg H k j,c.ag=2->(H.tx c.tx.toNat).state≠1/\k∈(H.tx c.tx.toNat).ai/\c.aa=(H.tx c.tx.toNat).of k
 wl:∀ k j,k<3->Lv H k j->SP (lg H k j)/\DO (lg H k j)
 cv:∀ k j,k<2->H.head k=Bs j->EO (H.sh k).tab (lg H k j) (ex k)/\EP (H.sh k).sto (lg H k j)
 wc:∀ i,Ir H i->(∀ x,Cp H G i x->Ad x∈(H.tx i).ai)/\((H.tx i).aa.map (·.key)).Nodup
 se:∀ i,Ir H i->∀ k∈(H.tx i).ai,∀ e,(H.tx i).ad k=Bs e->e<=(H.sh k).ab
 ho:∀ (i k:Nat),Ir H i->k<2->((H.tx i).state=1\/(H.tx i).state=2)->(H.tx i).ad k=Bs (H.sh k).ab->∀ x,Ad x=k->(Wr H i x->Hd (H.sh k).tab x i 2)/\(Rdx G i x->Hd (H.sh k).tab x i 1)
 tp:∀ i,Ir H i->(H.tx i).ae≠0->((H.tx i).state=2\/(H.tx i).state=3)/\∀ k∈(H.tx i).ai,∀ j,Lv H k j->AP (lg H k j) 2 i
 tu:∀ i j,Ir H i->Ir H j->(H.tx i).ae≠0->(H.tx i).ae=(H.tx j).ae->i=j
 st:∀ i,Ir H i->1<=(H.tx i).state/\(H.tx i).state<=4
 en:G.E.Nodup/\(∀ i∈G.E,Ir H i/\(H.tx i).state≠1)/\∀ i,Ir H i->((H.tx i).state=2\/(H.tx i).state=3)->i∈G.E
 dm:∀ t w x,Ir H t->Ir H w->t≠w->(H.tx w).state=2->((H.tx t).state=1\/(((H.tx t).state=2\/(H.tx t).state=3)/\VF G.E w t))->Cp H G t x->Wr H w x->BJ H w
 tm:∀ v w x,VF G.E v w->Wr H v x->Wr H w x->(H.tx v).ae≠0->(H.tx w).ae≠0->(H.tx v).ae<(H.tx w).ae
 ri:∀ t,Ir H t->∀ x v,(x,v)∈G.rd t->((H.tx t).state=1->AZ H G.E x=v)/\(((H.tx t).state=2\/(H.tx t).state=3)->∀ A B,G.E=A++t::B->AZ H A x=v)
 wt:∀ k,k<2->∀ x (o m:Int),Wt (H.sh k).tab x o m->(1<=o/\o<=H.m)/\(H.tx o.toNat).state=1/\(H.tx o.toNat).ad k=Bs (H.sh k).ab/\Ad x=k
 ww:∀ (i k:Nat),Ir H i->k<2->(H.tx i).state=1->(H.tx i).ad k=Bs (H.sh k).ab->∀ x m,Ad x=k->((x,m)∈(H.tx i).af↔Wt (H.sh k).tab x i m)
 wn:∀ i,Ir H i->∀ x m,(x,m)∈(H.tx i).af->Ad x∈(H.tx i).ai
structure SiS (H H':Hs):Prop where
 m:H'.m=H.m
 lv:∀ k j,k<3->Lv H' k j->Lv H k j
 hd:∀ k j,k<3->H'.head k=Bs j->H.head k=Bs j
 up:∀ k j,k<3->Lv H' k j->lg H k j <+: lg H' k j
 sub:∀ k j,k<3->Lv H' k j->∃ i,Lv H k i/\lg H' k j <+: lg H k i
 lh:∀ k j,k<3->H'.head k=Bs j->lg H' k j=lg H k j
 tab:∀ k,k<3->(H'.sh k).tab=(H.sh k).tab/\(H'.sh k).sto=(H.sh k).sto/\(H'.sh k).done=(H.sh k).done/\(H'.sh k).ab=(H.sh k).ab
 tx:∀ i,(H'.tx i).state=(H.tx i).state/\(H'.tx i).aa=(H.tx i).aa/\(H'.tx i).ad=(H.tx i).ad/\(H'.tx i).ae=(H.tx i).ae/\(H'.tx i).af=(H.tx i).af
theorem BJ.mono {H H':Hs} {i:Nat} (h:BJ H i) (g:(H'.tx i).ae=(H.tx i).ae) (hs:(H'.tx i).ad=(H.tx i).ad) (q:∀ k,k<2->(H'.sh k).ab=(H.sh k).ab)
  (l:∀ k j,k<2->Lv H' k j->AP (lg H' k j) 2 i->∃ d,Lv H k d/\AP (lg H k d) 2 i):BJ H' i:=by
 obtain⟨v,k,f,u,t⟩:=h;have r:(H'.tx i).ai=(H.tx i).ai:=Il hs;refine⟨g.trans v,k,by rw[r];exact f,by rw[hs,q k (DI f)];exact u,fun j p e=>?_⟩;obtain⟨d,y,x⟩:=l k j (DI f) p e;exact t d y x
theorem DO.pre {l l':List Cm} (h:DO l) (d:l' <+: l):DO l':=fun q c e=>by
 have f:=(List.getElem?_eq_some_iff.1 e).1;rw[IT d (Yh f)];exact h q c (getElem?_prefix d e)
theorem DO.snoc {l:List Cm} (h:DO l) {c:Cm} (k:¬AP l c.ag c.tx):DO (l++[c]):=fun q d e=>by
 by_cases g:q<l.length
 ·rw[Wc g] at e;rw[Wp (Yh g)];exact h q d e
 ·have f:=(List.getElem?_eq_some_iff.1 e).1;simp only[VP,WH,Xu] at f;obtain rfl:q=l.length:=by omega
  simp only[X9,VN] at e;subst e;rw[YY rfl];exact k
theorem Wr.congr {H H':Hs} {i:Nat} {x:Sx} (e:(H'.tx i).aa=(H.tx i).aa):Wr H' i x↔Wr H i x:=by unfold Wr;rw[e]
theorem Cp.congr {H H':Hs} {G:Gh} {i:Nat} {x:Sx} (e:(H'.tx i).aa=(H.tx i).aa):Cp H' G i x↔Cp H G i x:=by unfold Cp;rw[Wr.congr e]
theorem Us {H H':Hs} {i:Nat} {x:Sx} (e:(H'.tx i).state=(H.tx i).state) (d:(H'.tx i).aa=(H.tx i).aa):Hp H' x i=Hp H x i:=by unfold Hp;rw[e,d]
section
variable {H H':Hs} {G:Gh} {ex:Nat->Int->Prop}
theorem SI.same (h:SI H G ex) (k:SiS H H'):SI H' G ex:=by
 have f:∀ i,Ir H' i↔Ir H i:=fun i=>by unfold Ir;rw[k.m]
 have p:∀ i,(H'.tx i).ai=(H.tx i).ai:=fun i=>Il (k.tx i).2.2.1
 have r:∀ i x,Wr H' i x↔Wr H i x:=fun i x=>Wr.congr (k.tx i).2.1
 have F:∀ i x,Cp H' G i x↔Cp H G i x:=fun i x=>Cp.congr (k.tx i).2.1
 have I:∀ A x,AZ H' A x=AZ H A x:=fun A x=>Rp (fun i _=>Us (k.tx i).1 (k.tx i).2.1)
 have O:∀ i,BJ H i->BJ H' i:=fun i V=>V.mono (k.tx i).2.2.2.1 (k.tx i).2.2.1 (fun a d=>(k.tab a (by omega)).2.2.2) (fun a j d l e=>by
  obtain⟨z,E,D⟩:=k.sub a j (by omega) l;exact⟨z,E,e.mono (fun c J=>D.subset J)⟩)
 refine⟨fun a d=>by rw[(k.tab a d).1];exact h.gt a d,fun x=>by rw[(k.tab 2 (by omega)).1];exact h.t2 x,fun a j d l=>by rw[(k.tab a d).2.2.1,k.lh a j d l];exact h.dn a j d (k.hd a j d l),
  fun a j d l c J U=>?_,fun a j d l=>?_,fun a j d l=>?_,fun i g=>?_,fun i g a d e u=>?_,fun i a g d hs u x q=>?_,fun i g C=>?_,fun i j g l=>?_,fun i g=>?_,?_,fun t w x C S N hs L q M=>?_,fun v w x L Y X=>?_,fun t C x v T=>?_,fun a d x o m P=>?_,fun i a g d hs u x m q=>?_,fun i g x m q=>by rw[p];rw[(k.tx i).2.2.2.2] at q;exact h.wn i ((f i).1 g) x m q⟩
 ·obtain⟨z,E,D⟩:=k.sub a j (by omega) l;rw[(k.tx _).1,p];obtain⟨q1,y,R⟩:=h.pw a z d E c (D.subset J) U;exact⟨q1,y,by unfold Bi.of;rw[(k.tx _).2.1];exact R⟩
 ·obtain⟨z,E,D⟩:=k.sub a j d l;exact⟨(h.wl a z d E).1.pre D,(h.wl a z d E).2.pre D⟩
 ·rw[(k.tab a (by omega)).1,(k.tab a (by omega)).2.1,k.lh a j (by omega) l];exact h.cv a j d (k.hd a j (by omega) l)
 ·rw[p,(k.tx i).2.1];obtain⟨q1,y⟩:=h.wc i ((f i).1 g);exact⟨fun x q=>q1 x ((F i x).1 q),y⟩
 ·rw[p] at d;rw[(k.tx i).2.2.1] at u;rw[(k.tab a (by have:=DI d;omega)).2.2.2];exact h.se i ((f i).1 g) a d e u
 ·rw[(k.tx i).1] at hs;rw[(k.tx i).2.2.1,(k.tab a (by omega)).2.2.2] at u;rw[(k.tab a (by omega)).1,r];exact h.ho i a ((f i).1 g) d hs u x q
 ·rw[(k.tx i).2.2.2.1] at C;rw[(k.tx i).1,p];obtain⟨q1,y⟩:=h.tp i ((f i).1 g) C;exact⟨q1,fun a d j l=>(y a d j (k.lv a j (by have:=DI d;omega) l)).mono (fun c J=>(k.up a j (by have:=DI d;omega) l).subset J)⟩
 ·rw[(k.tx i).2.2.2.1,(k.tx j).2.2.2.1];exact h.tu i j ((f i).1 g) ((f j).1 l)
 ·rw[(k.tx i).1];exact h.st i ((f i).1 g)
 ·refine⟨h.en.1,fun i g=>?_,fun i g hs=>?_⟩
  ·rw[f,(k.tx i).1];exact h.en.2.1 i g
  ·rw[(k.tx i).1] at hs;exact h.en.2.2 i ((f i).1 g) hs
 ·rw[(k.tx w).1] at hs;rw[(k.tx t).1] at L;exact O w (h.dm t w x ((f t).1 C) ((f w).1 S) N hs L ((F t x).1 q) ((r w x).1 M))
 ·rw[(k.tx v).2.2.2.1,(k.tx w).2.2.2.1];exact h.tm v w x L ((r v x).1 Y) ((r w x).1 X)
 ·rw[(k.tx t).1,I];obtain⟨q1,y⟩:=h.ri t ((f t).1 C) x v T;exact⟨q1,fun hs A B W=>by rw[I];exact y hs A B W⟩
 ·rw[(k.tab a (by omega)).1] at P;rw[k.m,(k.tx _).1,(k.tx _).2.2.1,(k.tab a (by omega)).2.2.2];exact h.wt a d x o m P
 ·rw[(k.tx i).1] at hs;rw[(k.tx i).2.2.1,(k.tab a (by omega)).2.2.2] at u;rw[(k.tx i).2.2.2.2,(k.tab a (by omega)).1];exact h.ww i a ((f i).1 g) d hs u x m q
end
section
variable {H:Hs} {G:Gh} {ex:Nat->Int->Prop} {s j i:Nat} {c:Cm} {b:Bool}
open Classical in
theorem q67 {T:Tb} {tx:Int} {a:Nat} {w:Sx×Int} : w∈((H.granted T tx).tx a).af↔w∈(H.tx a).af/\¬Ez T tx a w.1:=by
 show w∈((H.tx a).af.filter fun w=>!decide (Ez T tx a w.1))↔_;rw[YA];simp
theorem q8w (l:List Cm) (i:Nat) (c:Cm) (a:Nat) (w:Sx×Int):w∈((H.taken s l i c).tx a).af↔w∈(H.tx a).af/\(c.ag=3\/c.ag=4->¬Ez (H.sh s).tab c.tx a w.1):=by
 unfold Hs.taken Hs.a9;by_cases g:c.ag=2
 ·rw[if_pos g];constructor
  ·exact fun h=>⟨h,fun e=>by omega⟩
  ·exact fun h=>h.1
 ·rw[if_neg g];by_cases f:c.ag=3
  ·rw[if_pos f];unfold Hs.rel;refine q67.trans ?_;rw[Cj];exact and_congr Yr ⟨fun h _=>h,fun h=>h (.inl f)⟩
  ·rw[if_neg f];by_cases d:c.ag=4
   ·rw[if_pos d];unfold Hs.rel;refine q67.trans ?_;exact and_congr Yr ⟨fun h _=>h,fun h=>h (.inr d)⟩
   ·rw[if_neg d];constructor
    ·exact fun h=>⟨h,fun e=>by omega⟩
    ·exact fun h=>h.1
structure AddF (H H':Hs) (s j:Nat) (c:Cm):Prop where
 tab:(H'.sh s).tab=tabT c (H.sh s).tab
 sto:(H'.sh s).sto=QU c (lg H s j) (H.sh s).sto
 done:(H'.sh s).done=(lg H s j++[c]).length
 ab:∀ k,(H'.sh k).ab=(H.sh k).ab
 sh:∀ k,k≠s->H'.sh k=H.sh k
 lg:∀ a i,Go.Proofs.YtccahlhdifadfaaGreatDoor.lg H' a i=if a=s/\i=j then Go.Proofs.YtccahlhdifadfaaGreatDoor.lg H s j++[c] else Go.Proofs.YtccahlhdifadfaaGreatDoor.lg H a i
 lv:∀ a i,Lv H' a i↔Lv H a i
 head:∀ k,H'.head k=H.head k
 af:∀ a w,w∈(H'.tx a).af↔w∈(H.tx a).af/\(c.ag=3\/c.ag=4->¬Ez (H.sh s).tab c.tx a w.1)
 tx:∀ i,(H'.tx i).state=(H.tx i).state/\(H'.tx i).aa=(H.tx i).aa/\(H'.tx i).ad=(H.tx i).ad/\(H'.tx i).ae=(H.tx i).ae
 m:H'.m=H.m
theorem q8n (I:H.head s=Bs j) (E:(((H.sh s).nd j).add c b).2.2=0) (J:(H.sh s).done=(lg H s j).length):AddF H (H.add s j c b).2 s j c:=by
 have f:=EW H s j c b;have p:=SJ H s j c b;have q:(H.add s j c b).2=((H.an s j (((H.sh s).nd j).add c b).1.1).send (((H.sh s).nd j).add c b).1.2).take s:=by unfold Hs.add;rw[if_neg (by simp[E])]
 have e1:=(qc7 E).1;generalize hM:(H.an s j (((H.sh s).nd j).add c b).1.1).send (((H.sh s).nd j).add c b).1.2=M at *;have g:M.sh s = { H.sh s with nd:=Ae (H.sh s).nd j (((H.sh s).nd j).add c b).1.1 }:=by rw[<- hM];exact EX _ _ _ _
 have z:M.head s=Bs j:=by
  rw[<- I];refine q6b (by rw[<- hM];rfl) (by rw[g]) (fun a=>?_);rw[g];show(Ae (H.sh s).nd j _ a).id=_/\(Ae (H.sh s).nd j _ a).head=_;by_cases e:a=j
  ·subst e;rw[Ay];exact⟨(q48 _ c b).2,(q48 _ c b).1⟩
  ·rw[AF e];exact⟨rfl,rfl⟩
 have t:((M.sh s).nd j).log=lg H s j++[c]:=by rw[g];show(Ae (H.sh s).nd j (((H.sh s).nd j).add c b).1.1 j).log=_;rw[Ay,e1,q3o];rfl
 have A:(M.sh s).done=(lg H s j).length:=by rw[g];exact J
 have y:M.take s=M.taken s (lg H s j++[c]) (lg H s j).length c:=by
  have:M.take s=Hs.aI s ((M.sh s).nd j).log (((M.sh s).nd j).log.length-(M.sh s).done) M:=by unfold Hs.take;rw[z]
  rw[this,t];exact Oh A
 have r:M.tx=H.tx:=by rw[<- hM];rfl
 obtain⟨t1,u,C⟩:=q8x (H:=M) (s:=s) (lg H s j++[c]) (lg H s j).length c;have l:(lg H s j++[c]).take (lg H s j).length=lg H s j:=YY rfl;rw[l] at u;have d:(M.sh s).tab=(H.sh s).tab/\(M.sh s).sto=(H.sh s).sto:=by rw[g];exact⟨rfl,rfl⟩
 rw[d.1] at t1;rw[d.2] at u;have v:=fun a w=>q8w (H:=M) (s:=s) (lg H s j++[c]) (lg H s j).length c a w
 rw[r,d.1] at v;have x:=Hx H s j c b;rw[<- y,<- q] at t1 u C v;refine⟨t1,u,by rw[C];simp,x.ep,fun k F=>Hz H s j c b F,fun a i=>?_,p.2,fun k=>q8m H s j c b k,v,fun i=>⟨(f.2.2.2.2 i).1,(f.2.2.2.2 i).2.1,(f.2.2.2.2 i).2.2.1,(f.2.2.2.2 i).2.2.2.2⟩,f.2.2.1⟩;rcases p.1 with h|h
 ·exfalso;have D:lg (H.add s j c b).2 s j=lg H s j++[c]:=by
   have:=(Bf.take M s).lg s j;rw[q,this];exact t
  rw[h] at D;have:=congrArg List.length D;simp at this
 ·exact h a i
structure AddC (H:Hs) (s j i:Nat) (c:Cm):Prop where
 tx:c.tx=(i:Int)
 ir:Ir H i
 ag:c.ag=2\/c.ag=3\/c.ag=4
 k2:s=2->c.ag=3
 wf:D2 c
 uq:¬AP (lg H s j) c.ag c.tx
 pr:c.ag=2->(H.tx i).state=2/\s∈(H.tx i).ai/\c.aa=(H.tx i).of s/\(H.tx i).ad s=Bs (H.sh s).ab/\¬AP (lg H s j) 3 i/\¬AP (lg H s j) 4 i/\(∀ w∈lg H s j,w.ag=2->Shr w.aa c.aa->¬S0 (lg H s j) w.tx)/\∀ p∈c.aa,DD (H.sh s).tab (sx p.key) i
 cl:s<2->c.ag=3\/c.ag=4->(H.tx i).state=3\/(H.tx i).state=4
theorem SI.addF {H':Hs} (h:SI H G ex) (wf:Wf H) (ah:H.c=3) (hs:s<3) (hh:H.head s=Bs j) (a:AddC H s j i c) (f:AddF H H' s j c):SI H' G (fun k x=>ex k x/\(k≠s\/c.ag=2\/x≠(i:Int))):=by
 obtain⟨Z,_⟩:=EY hh;have l:∀ x,Ir H' x↔Ir H x:=fun x=>by unfold Ir;rw[f.m]
 have M:∀ x,(H'.tx x).ai=(H.tx x).ai:=fun x=>Il (f.tx x).2.2.1
 have T:∀ i x,Wr H' i x↔Wr H i x:=fun i x=>Wr.congr (f.tx i).2.1
 have a3:∀ i x,Cp H' G i x↔Cp H G i x:=fun i x=>Cp.congr (f.tx i).2.1
 have a9:∀ A x,AZ H' A x=AZ H A x:=fun A x=>Rp (fun i _=>Us (f.tx i).1 (f.tx i).2.1)
 have C:=h.gt s hs;have R:c.ag=2->∀ p∈c.aa,DD (H.sh s).tab (sx p.key) c.tx:=fun g p hp=>by rw[a.tx];exact(a.pr g).2.2.2.2.2.2.2 p hp
 have ac:SP (lg H s j++[c])/\DO (lg H s j++[c]):=by
  obtain⟨w1,w2⟩:=h.wl s j hs Z;refine⟨w1.snoc (fun g=>?_),w2.snoc a.uq⟩;obtain⟨_,_,_,_,p5,p6,p7,_⟩:=a.pr g;have:=a.uq;rw[g] at this;exact⟨this,by rw[a.tx];exact p5,by rw[a.tx];exact p6,p7⟩
 have ae:∀ w∈lg H s j,D2 w:=(wf.nd s j (by rw[ah];exact hs) Z.1).log;have F:∀ k q,¬(k=s/\q=j)->lg H' k q=lg H k q:=fun k q e=>by rw[f.lg,if_neg e]
 have E:lg H' s j=lg H s j++[c]:=by rw[f.lg,if_pos ⟨rfl,rfl⟩]
 have a0:∀ k q,lg H k q <+: lg H' k q:=fun k q=>by
  rw[f.lg];split
  ·rename_i e;obtain⟨rfl,rfl⟩:=e;exact List.prefix_append _ _
  ·exact VS _
 have ag:∀ w,BJ H w->BJ H' w:=fun w I=>by
  obtain⟨d1,k,d2,d3,d4⟩:=I;refine⟨(f.tx w).2.2.2.trans d1,k,by rw[M];exact d2,by rw[(f.tx w).2.2.1,f.ab];exact d3,fun q D e=>?_⟩;have a5:=(f.lv k q).1 D;by_cases L:k=s/\q=j
  ·obtain⟨rfl,rfl⟩:=L;rw[E] at e;rcases Tz.1 e with e4|⟨e4,e3⟩
   ·exact d4 q a5 e4
   ·rw[a.tx] at e3;have e3:i=w:=by omega
    subst e3;exact d3 (a.pr e4).2.2.2.1
  ·rw[F k q L] at e;exact d4 q a5 e
 have r:∀ k,k≠s->(H'.sh k).tab=(H.sh k).tab:=fun k g=>by rw[f.sh k g]
 have af:∀ k,k<3->GT (H'.sh k).tab:=fun k g=>by
  by_cases e:k=s
  ·subst e;rw[f.tab];exact C.tabT R
  ·rw[r k e];exact h.gt k g
 have a7:s<2->c.ag=3\/c.ag=4->∀ o,((H.tx o).state=1\/(H.tx o).state=2)->(o:Int)≠c.tx:=fun J g o ho e=>by
  rw[a.tx] at e;have e:o=i:=by omega
  subst e;have:=a.cl J g;omega
 have X:(H'.sh 2).tab=(H.sh 2).tab:=by
  by_cases e:(2:Nat)=s
  ·subst e;rw[f.tab,Up (.inl (a.k2 rfl))];funext x;unfold Bh;rw[h.t2 x];rfl
  ·exact r 2 e
 have a8:∀ k,k<2->∀ x (o:Nat) m,((H.tx o).state=1\/(H.tx o).state=2)->Hd (H.sh k).tab x o m->Hd (H'.sh k).tab x o m:=fun k g x o m ho I=>by
  by_cases e:k=s
  ·subst e;rw[f.tab];by_cases J:c.ag=2
   ·rw[q8y J];exact(Uo _ C (R J)).up _ _ _ I
   ·have N:c.ag=3\/c.ag=4:=a.ag.resolve_left J;rw[Up N];exact I.rel C (a7 g N o ho)
  ·rw[r k e];exact I
 have ab:∀ k,k<2->∀ x o m,Wt (H'.sh k).tab x o m->Wt (H.sh k).tab x o m:=fun k g x o m P=>by
  by_cases e:k=s
  ·subst e;rw[f.tab] at P;by_cases J:c.ag=2
   ·rw[q8y J] at P;unfold Wt at P ⊢;rw[<- (Uo _ C (R J)).ws];exact P
   ·rw[Up (a.ag.resolve_left J)] at P;exact(Es C P).2
  ·rw[r k e] at P;exact P
 refine⟨af,fun x=>by rw[X];exact h.t2 x,fun k q g D=>?_,fun k q g D d I a1=>?_,fun k q g D=>?_,fun k q g D=>?_,fun x u=>?_,fun x u k g e W=>?_,fun x k u g z W y S=>?_,fun x u ht=>?_,fun x y u S=>?_,fun x u=>?_,?_,fun t w x ht P a6 a4 hb u aa=>?_,fun v w x hb h1 J=>?_,fun t ht x v hv=>?_,fun k g x o m ho=>?_,fun x k u g z W y m S=>?_,fun x u y m S=>by rw[M];exact h.wn x ((l x).1 u) y m ((f.af x _).1 S).1⟩
 ·rw[f.head] at D;by_cases e:k=s
  ·subst e;rw[hh] at D;injection D with D;subst D;rw[f.done,E]
  ·rw[f.sh k e,F k q (fun L=>e L.1)];exact h.dn k q g D
 ·rw[(f.tx _).1,M];have ad:((H'.tx d.tx.toNat).of k)=(H.tx d.tx.toNat).of k:=by unfold Bi.of;rw[(f.tx _).2.1]
  rw[ad];by_cases L:k=s/\q=j
  ·obtain⟨rfl,rfl⟩:=L;rw[E] at I;rcases List.mem_append.1 I with I|I
   ·exact h.pw k q g Z d I a1
   ·rw[VW] at I;subst I;obtain⟨p1,p2,p3,_⟩:=a.pr a1;rw[a.tx];exact⟨by show(H.tx i).state≠1;omega,p2,p3⟩
  ·rw[F k q L] at I;exact h.pw k q g ((f.lv k q).1 D) d I a1
 ·by_cases L:k=s/\q=j
  ·obtain⟨rfl,rfl⟩:=L;rw[E];exact ac
  ·rw[F k q L];exact h.wl k q g ((f.lv k q).1 D)
 ·rw[f.head] at D;by_cases e:k=s
  ·subst e;rw[hh] at D;injection D with D;subst D;obtain⟨c1,c2⟩:=h.cv k j g hh;rw[E,f.tab,f.sto];refine⟨(c1.step C a.ag R).mono (fun x u=>⟨u.1,?_⟩) (fun _ _ _ _ h=>h),c2.step a.wf ae⟩;rcases u.2 with e|e
   ·exact .inr (.inl e)
   ·exact .inr (.inr (by rw[<- a.tx];exact e))
  ·rw[f.sh k e,F k q (fun L=>e L.1)];obtain⟨c1,c2⟩:=h.cv k q g D;exact⟨c1.mono (fun x u=>⟨u,.inl e⟩) (fun _ _ _ _ h=>h),c2⟩
 ·rw[M,(f.tx x).2.1];obtain⟨q1,O⟩:=h.wc x ((l x).1 u);exact⟨fun y S=>q1 y ((a3 x y).1 S),O⟩
 ·rw[M] at g;rw[(f.tx x).2.2.1] at W;rw[f.ab];exact h.se x ((l x).1 u) k g e W
 ·rw[(f.tx x).1] at z;rw[(f.tx x).2.2.1,f.ab] at W;obtain⟨q1,O⟩:=h.ho x k ((l x).1 u) g z W y S;exact⟨fun P=>a8 k g _ _ _ z (q1 ((T x y).1 P)),fun hr=>a8 k g _ _ _ z (O hr)⟩
 ·rw[(f.tx x).2.2.2] at ht;rw[(f.tx x).1,M];obtain⟨q1,O⟩:=h.tp x ((l x).1 u) ht;exact⟨q1,fun k g q D=>(O k g q ((f.lv k q).1 D)).mono (fun d I=>(a0 k q).subset I)⟩
 ·rw[(f.tx x).2.2.2,(f.tx y).2.2.2];exact h.tu x y ((l x).1 u) ((l y).1 S)
 ·rw[(f.tx x).1];exact h.st x ((l x).1 u)
 ·refine⟨h.en.1,fun x u=>?_,fun x u z=>?_⟩
  ·rw[l,(f.tx x).1];exact h.en.2.1 x u
  ·rw[(f.tx x).1] at z;exact h.en.2.2 x ((l x).1 u) z
 ·rw[(f.tx w).1] at a4;rw[(f.tx t).1] at hb;exact ag w (h.dm t w x ((l t).1 ht) ((l w).1 P) a6 a4 hb ((a3 t x).1 u) ((T w x).1 aa))
 ·rw[(f.tx v).2.2.2,(f.tx w).2.2.2];exact h.tm v w x hb ((T v x).1 h1) ((T w x).1 J)
 ·rw[(f.tx t).1,a9];obtain⟨q1,O⟩:=h.ri t ((l t).1 ht) x v hv;exact⟨q1,fun hs A B hE=>by rw[a9];exact O hs A B hE⟩
 ·rw[f.m,(f.tx _).1,(f.tx _).2.2.1,f.ab];exact h.wt k g x o m (ab k g x o m ho)
 ·rw[(f.tx x).1] at z;rw[(f.tx x).2.2.1,f.ab] at W;rw[f.af];have V:=h.ww x k ((l x).1 u) g z W y m S;by_cases J:c.ag=2
  ·have Y:Wt (H'.sh k).tab y x m↔Wt (H.sh k).tab y x m:=by
    by_cases e:k=s
    ·subst e;rw[f.tab,q8y J];unfold Wt;rw[(Uo _ C (R J)).ws]
    ·rw[r k e]
   rw[Y,<- V];exact⟨fun q=>q.1,fun q=>⟨q,fun e=>by omega⟩⟩
  ·have N:=a.ag.resolve_left J;by_cases e:k=s
   ·subst e;rw[f.tab,Up N];have a2:(x:Int)≠c.tx:=a7 g N x (.inl z);constructor
    ·rintro ⟨q1,O⟩;rcases q6o C (V.1 q1) a2 with q|q
     ·exact q.1
     ·exact absurd q.1 (O N)
    ·intro q;obtain⟨_,O⟩:=Es C q;refine⟨V.2 O,fun _ hg=>?_⟩;rcases q6o C O a2 with q3|q3
     ·exact q3.2 hg
     ·exact q3.2.2 m q
   ·rw[r k e,<- V];refine⟨fun q=>q.1,fun q=>⟨q,fun _ hg=>?_⟩⟩;obtain⟨_,m',U⟩:=Hh C hg;by_cases L:s=2
    ·subst L;unfold Wt Ac at U;rw[h.t2 y] at U;cases U
    ·have:=(h.wt s (by omega) y _ _ U).2.2.2;omega
end
theorem QF {l:List Cm} {m:Nat} (h:DO l) (g:∀ c∈l,(c.ag=2\/c.ag=3\/c.ag=4)/\1<=c.tx/\c.tx<=m):l.length<=3*m:=by
 have f:(l.map fun c:Cm=>((c.ag-2)*(m:Int)+(c.tx-1)).toNat).Nodup:=by
  rw[List.Nodup,XA,List.pairwise_iff_getElem];intro i j u p t e;have r:=h j l[j] (K0 p);have k:l[i]∈l.take j:=List.mem_take_iff_getElem.2 ⟨i,by omega,rfl⟩;obtain⟨a1,a2,y⟩:=g _ (WE u);obtain⟨b1,b2,z⟩:=g _ (WE p);refine r ⟨l[i],k,?_⟩;rcases a1 with a1|a1|a1 <;> rcases b1 with b1|b1|b1 <;> rw[a1,b1] at e <;> rw[a1,b1] <;> omega
 have d:∀ x∈(l.map fun c:Cm=>((c.ag-2)*(m:Int)+(c.tx-1)).toNat),x∈Wu (3*m):=fun x q=>by
  obtain⟨c,v,rfl⟩:=List.mem_map.1 q;obtain⟨a1,a2,y⟩:=g c v;rw[List.mem_range];rcases a1 with a1|a1|a1 <;> rw[a1] <;> omega
 have:=WZ f d;rw[List.length_map,List.length_range] at this;exact this
section
variable {H H':Hs} {G:Gh} {ex:Nat->Int->Prop} {i:Nat} {B:Int}
theorem Ag.ag (a:Ag H B) {k j:Nat} (r:k<3) (f:Lv H k j) {c:Cm} (g:c∈lg H k j):(c.ag=2\/c.ag=3\/c.ag=4)/\1<=c.tx/\c.tx<=H.m:=by
 by_cases q:k<2
 ·obtain⟨p,l⟩:=List.mem_iff_getElem?.1 g;obtain⟨e,d⟩:=a.bI.pl k q j f p c l;exact⟨d.imp id (Or.imp (fun h=>h.1) (fun h=>h.1)),e⟩
 ·obtain rfl:k=2:=by omega
  obtain⟨e,d,_⟩:=a.bI.p2 j f c g;exact⟨.inr (.inl d),e⟩
theorem SI.room (h:SI H G ex) (d:Dt H) (q:H.m<=60) {s j:Nat} (hs:s<3) (t:H.head s=Bs j) (c:Cm) (b:Bool):(((H.sh s).nd j).add c b).2.2=0:=by
 obtain⟨f,u⟩:=EY t;have e:(lg H s j).length<=3*H.m:=QF (h.wl s j hs f).2 (fun c l=>by
  by_cases v:s<2
  ·obtain⟨p,r⟩:=List.mem_iff_getElem?.1 l;obtain⟨k,g⟩:=d.pl s v j f p c r;exact⟨g.imp id (Or.imp (fun h=>h.1) (fun h=>h.1)),k⟩
  ·obtain rfl:s=2:=by omega
   obtain⟨k,g,_⟩:=d.p2 j f c l;exact⟨.inr (.inl g),k⟩)
 unfold Nd.add;rw[u,if_neg (by simp),if_neg (by unfold lg at e;omega)]
theorem SI.ds (h:SI H G ex) {d:Nat->Int->Prop} (g:∀ k j,k<2->H.head k=Bs j->EO (H.sh k).tab (lg H k j) (d k)):SI H G d:=
 ⟨h.gt,h.t2,h.dn,h.pw,h.wl,fun k j e f=>⟨g k j e f,(h.cv k j e f).2⟩,h.wc,h.se,h.ho,h.tp,h.tu,h.st,h.en,h.dm,h.tm,h.ri,h.wt,h.ww,h.wn⟩
theorem Oe {j:Nat} (g:Wf H) (f:1<=i) (d:i<=H.m) {kind:Int} {k:Nat} (p:k<2) (hs:(kind=3/\(H.tx i).state=3)\/(kind=4/\(H.tx i).state=4)) (l:¬AP (lg H k j) kind i):AddC H k j i (tellC H i kind):=
 ⟨rfl,⟨f,d⟩,by rcases hs with ⟨rfl,_⟩|⟨rfl,_⟩ <;> simp[tellC],fun e=>by omega,g.cm f d kind,l,fun e=>by
  have e:kind=2:=e;rcases hs with ⟨h,_⟩|⟨h,_⟩ <;> omega,fun _ _=>hs.imp (fun h=>h.2) (fun h=>h.2)⟩
theorem SI.a7 (h:SI H G ex) (t:Wf H) (u:Dt H) (C:H.c=3) (J:1<=i) (I:i<=H.m) {kind:Int} {k:Nat} (F:k<2) (hs:(kind=3/\(H.tx i).state=3)\/(kind=4/\(H.tx i).state=4)) :
  SI (H.a7 i kind k) G (fun k' x=>ex k' x/\(k'≠k\/x≠(i:Int))):=by
 cases g:H.head k with
 | none=>
  rw[TC g];refine h.ds (fun k' j f A=>((h.cv k' j f A).1).mono (fun x l=>⟨l,.inl (fun e=>by subst e;rw[g] at A;cases A)⟩) (fun _ _ _ _ h=>h))
 | some j=>
  rw[TD g];split
  ·rename_i y;have D:=h.addF t C (by omega) g (Oe t J I F hs (q3g.1 y.1)) (q8n (b:=Jx) g (h.room u t.bC (by omega) g _ _) (h.dn k j (by omega) g));refine D.ds (fun k' v f d=>((D.cv k' v f d).1).mono (fun x l=>⟨l.1,?_⟩) (fun _ _ _ _ h=>h));rcases l.2 with e|e|e
   ·exact .inl e
   ·have e:kind=2:=e;rcases hs with ⟨h,_⟩|⟨h,_⟩ <;> omega
   ·exact .inr e
  ·rename_i y;refine h.ds (fun k' v f d=>?_);by_cases e:k'=k
   ·subst e;rw[g] at d;injection d with d;subst d;intro w E z p l;by_cases r:w.tx=(i:Int)
    ·exfalso;refine y ⟨q3g.2 (fun q=>?_),fun q=>?_⟩
     ·rcases hs with ⟨rfl,_⟩|⟨rfl,_⟩
      ·exact p.2.1 (by rw[r];exact q)
      ·exact p.2.2 (by rw[r];exact q)
     ·exact q3g.1 q (by rw[<- r];exact p.1)
    ·exact(h.cv k' j f g).1 w E z p (fun L=>l ⟨L,.inr r⟩)
   ·exact((h.cv k' v f d).1).mono (fun x l=>⟨l,.inl e⟩) (fun _ _ _ _ h=>h)
theorem SI.aT {kind:Int} (g:1<=i):∀ (ks:List Nat) {H:Hs} {ex:Nat->Int->Prop},SI H G ex->Wf H->Dt H->H.c=3->i<=H.m->(∀ k∈ks,k<2)->((kind=3/\(H.tx i).state=3)\/(kind=4/\(H.tx i).state=4))->
  SI (Go.Proofs.YtccahlhdifadfaaGreatDoor.telld H i kind ks) G (fun k x=>ex k x/\(k ∉ ks\/x≠(i:Int)))
 | [],H,ex,h,_,_,_,_,_,_=>h.ds (fun k j f p=>((h.cv k j f p).1).mono (fun x d=>⟨d,.inl (by simp)⟩) (fun _ _ _ _ h=>h))
 | k::ks,H,ex,h,wf,lgi,hc,hi,f,hs=>by
  have e:=KL H i kind k;have q:=SI.aT g ks (h.a7 wf lgi hc g hi (f k VL) hs) (wf.a7 g hi (by have:=f k VL;omega) _)
   (lgi.a7 g hi (f k VL) (hs.imp (fun⟨a,b⟩=>⟨a,b,lgi.ct i g hi b⟩) id)) (e.2.1.trans hc) (by rw[e.2.2.1];exact hi) (fun x d=>f x (VM _ d)) (by rw[(e.2.2.2.2 i).1];exact hs)
  refine q.ds (fun k' j l p=>((q.cv k' j l p).1).mono (fun x d=>⟨d.1.1,?_⟩) (fun _ _ _ _ h=>h));rcases d.1.2 with a|a
  ·rcases d.2 with b|b
   ·exact .inl (by simp[a,b])
   ·exact .inr b
  ·exact .inr a
theorem q98 (i:Nat):∀ (ks:List Nat) (H:Hs),ks.Nodup->∀ k,(reld H i ks).sh k=if k∈ks then { H.sh k with tab:=Bh (H.sh k).tab i } else H.sh k
 | [],H,_,k=>by rw[if_neg (by simp)];rfl
 | q::ks,H,hn,k=>by
  rw[YZ] at hn;show(reld (H.rel q i) i ks).sh k=_;rw[q98 i ks _ hn.2 k];have f:∀ k,(H.rel q i).sh k=if k=q then { H.sh q with tab:=Bh (H.sh q).tab i } else H.sh k:=fun k=>by
   show(Ae H.sh q _ k)=_;unfold Ae;rfl
  rw[f];by_cases e:k=q
  ·subst e;simp[hn.1]
  ·by_cases d:k∈ks
   ·simp[e,d]
   ·simp[e,d]
theorem qb3 (i:Nat):∀ (ks:List Nat) (H:Hs),ks.Nodup->∀ a w,w∈((reld H i ks).tx a).af↔w∈(H.tx a).af/\∀ k∈ks,¬Ez (H.sh k).tab i a w.1
 | [],H,_,a,w=>⟨fun h=>⟨h,fun _ h=>(nomatch h)⟩,fun h=>h.1⟩
 | q::ks,H,hn,a,w=>by
  rw[YZ] at hn;show w∈((reld (H.rel q i) i ks).tx a).af↔_;rw[qb3 i ks _ hn.2 a w];have f:∀ k,k∈ks->(H.rel q i).sh k=H.sh k:=fun k d=>by
   show(Ae H.sh q _ k)=_;exact AF (show k≠q from fun e=>hn.1 (by rw[<- e];exact d)) _
  have g:w∈((H.rel q i).tx a).af↔w∈(H.tx a).af/\¬Ez (H.sh q).tab i a w.1:=q67;rw[g];constructor
  ·rintro ⟨⟨a1,a2⟩,l⟩;refine⟨a1,fun k d=>?_⟩;rcases List.mem_cons.1 d with rfl|d
   ·exact a2
   ·rw[<- f k d];exact l k d
  ·rintro ⟨a1,a2⟩;exact⟨⟨a1,a2 q VL⟩,fun k d=>by rw[f k d];exact a2 k (VM _ d)⟩
theorem Fz (i:Nat) (ks:List Nat) (H:Hs) (d:ks.Nodup) (k:Nat):(reld H i ks).head k=H.head k:=by
 refine q6b (Rm i ks H).2.1 ?_ (fun a=>?_)
 ·rw[q98 i ks H d];split <;> rfl
 ·rw[q98 i ks H d];split <;> exact⟨rfl,rfl⟩
theorem SI.cB (h:SI H G (fun _ _=>False)) (h1:1<=i) (hi:i<=H.m) (hs:(H.tx i).state=1\/((H.tx i).state=2/\(H.tx i).ae=0)):SI (reld (H.aq i) i (H.tx i).ai) G (fun k x=>x=(i:Int)/\k∈(H.tx i).ai):=by
 have hn:=q3q (H.tx i);generalize a0:(H.tx i).ai=ks at *;have P:=Rm i ks (H.aq i);have a8:=q98 i ks (H.aq i) hn;have L:=qb3 i ks (H.aq i) hn;have aa:∀ k,(reld (H.aq i) i ks).head k=H.head k:=fun k=>(Fz i ks (H.aq i) hn k).trans (q3h rfl rfl)
 have u:Bf H (reld (H.aq i) i ks):=(Bf.aw H i _).trans (q4k i ks _);generalize hK:reld (H.aq i) i ks=K at *;have N:∀ a,((H.aq i).tx a).state=(if a=i then 4 else(H.tx a).state)/\((H.aq i).tx a).aa=(H.tx a).aa/\((H.aq i).tx a).ad=(H.tx a).ad/\((H.aq i).tx a).ae=(H.tx a).ae/\((H.aq i).tx a).af=(if a=i then [] else(H.tx a).af):=fun a=>by
  show((Ae H.tx i _ a).state=_/\(Ae H.tx i _ a).aa=_/\(Ae H.tx i _ a).ad=_/\(Ae H.tx i _ a).ae=_/\(Ae H.tx i _ a).af=_);by_cases e:a=i
  ·subst e;rw[Ay,if_pos rfl,if_pos rfl];exact⟨rfl,rfl,rfl,rfl,rfl⟩
  ·rw[AF e,if_neg e,if_neg e];exact⟨rfl,rfl,rfl,rfl,rfl⟩
 have l:∀ a,(K.tx a).state=if a=i then 4 else(H.tx a).state:=fun a=>((P.2.2.2.2 a).1).trans (N a).1
 have C:∀ a,(K.tx a).aa=(H.tx a).aa:=fun a=>((P.2.2.2.2 a).2.1).trans (N a).2.1
 have y:∀ a,(K.tx a).ad=(H.tx a).ad:=fun a=>((P.2.2.2.2 a).2.2.1).trans (N a).2.2.1
 have M:∀ a,(K.tx a).ae=(H.tx a).ae:=fun a=>((P.2.2.2.2 a).2.2.2.2).trans (N a).2.2.2.1
 have hm:K.m=H.m:=P.2.2.1;have g:∀ a,Ir K a↔Ir H a:=fun a=>by unfold Ir;rw[hm]
 have R:∀ a,(K.tx a).ai=(H.tx a).ai:=fun a=>Il (y a)
 have S:∀ a x,Wr K a x↔Wr H a x:=fun a x=>Wr.congr (C a)
 have a7:∀ a x,Cp K G a x↔Cp H G a x:=fun a x=>Cp.congr (C a)
 have aj:(H.tx i).ae=0:=Wl (fun e=>by have:=(h.tp i ⟨h1,hi⟩ e).1;rcases hs with h|⟨_,h⟩ <;> omega);have D:∀ k,(K.sh k).tab=if k∈ks then Bh (H.sh k).tab i else(H.sh k).tab:=fun k=>by rw[a8];split <;> rfl
 have r:∀ k,(K.sh k).sto=(H.sh k).sto/\(K.sh k).done=(H.sh k).done/\(K.sh k).ab=(H.sh k).ab:=fun k=>by rw[a8];split <;> exact⟨rfl,rfl,rfl⟩
 have a5:∀ k∈ks,k<2:=fun k d=>DI (a0▸d)
 have I:∀ k,k<3->∀ x (o m:Int),o≠i->Hd (H.sh k).tab x o m->Hd (K.sh k).tab x o m:=fun k d x o m U hd=>by
  rw[D];split
  ·exact hd.rel (h.gt k d) U
  ·exact hd
 have ae:∀ k,k<2->∀ x (o m:Int),Wt (K.sh k).tab x o m->o≠i/\Wt (H.sh k).tab x o m:=fun k d x o m L=>by
  rw[D] at L;split at L
  ·exact Es (h.gt k (by omega)) L
  ·rename_i al;refine⟨fun e=>al ?_,L⟩;obtain⟨_,_,a3,_⟩:=h.wt k d x o m L;subst e;rw[<- a0];exact EZ.2 ⟨by omega,by rw[show((i:Int).toNat)=i by omega] at a3;rw[a3];simp⟩
 have an:∀ w,BJ H w->BJ K w:=fun w hd=>hd.mono (M w) (y w) (fun k _=>(r k).2.2) (fun k j d J e=>⟨j,u.lv.1 J,by rw[u.lg] at e;exact e⟩)
 have ac:∀ A x,AZ K A x=AZ H A x:=fun A x=>Rp (fun a _=>by
  unfold Hp;rw[l,C];by_cases e:a=i
  ·subst e;rw[if_pos rfl,if_neg (by decide),if_neg (by rcases hs with h|⟨h,_⟩ <;> omega)]
  ·rw[if_neg e])
 refine⟨fun k d=>by rw[D];split;exact(h.gt k d).rel i;exact h.gt k d,fun x=>by rw[D,if_neg (fun e=>by have:=a5 2 e;omega)];exact h.t2 x,fun k j d J=>by rw[(r k).2.1,u.lg];rw[aa] at J;exact h.dn k j d J,
  fun k j d J c hc am=>?_,fun k j d J=>by rw[u.lg];exact h.wl k j d (u.lv.1 J),fun k j d J=>?_,fun a z=>?_,fun a z k d e W=>?_,fun a k z d f W x O=>?_,fun a z Z=>?_,fun a b z X=>by rw[M,M];exact h.tu a b ((g a).1 z) ((g b).1 X),fun a z=>?_,?_,fun t w x Z ai U T X O ad=>?_,fun v w x X h1 h2=>by rw[M,M];exact h.tm v w x X ((S v x).1 h1) ((S w x).1 h2),fun t Z x v hv=>?_,fun k d x o m ho=>?_,fun a k z d f W x m O=>?_,fun a z x m O=>?_⟩
 ·rw[u.lg] at hc;obtain⟨a1,a2,a3⟩:=h.pw k j d (u.lv.1 J) c hc am;rw[l,R];refine⟨?_,a2,by unfold Bi.of;rw[C];exact a3⟩;split
  ·decide
  ·exact a1
 ·rw[aa] at J;obtain⟨c1,c2⟩:=h.cv k j d J;rw[u.lg,(r k).1];refine⟨fun w L a9 ho O p hp=>?_,c2⟩;refine I k (by omega) _ _ _ (fun e=>O ⟨e,?_⟩) (c1 w L a9 ho (fun e=>e) p hp);have:=(h.pw k j d (EY J).1 w L a9).2.1;rw[e,show((i:Int).toNat)=i by omega,a0] at this;exact this
 ·obtain⟨q1,F⟩:=h.wc a ((g a).1 z);rw[R,C];exact⟨fun x O=>q1 x ((a7 a x).1 O),F⟩
 ·rw[R] at d;rw[y] at W;rw[(r k).2.2];exact h.se a ((g a).1 z) k d e W
 ·rw[l] at f;have E:a≠i:=fun e=>by rw[if_pos e] at f;omega
  rw[if_neg E] at f;rw[y,(r k).2.2] at W;obtain⟨q1,F⟩:=h.ho a k ((g a).1 z) d f W x O;exact⟨fun L=>I k (by omega) _ _ _ (by omega) (q1 ((S a x).1 L)),fun hr=>I k (by omega) _ _ _ (by omega) (F hr)⟩
 ·rw[M] at Z;have E:a≠i:=fun e=>by subst e;exact Z aj
  rw[l,if_neg E,R];obtain⟨q1,F⟩:=h.tp a ((g a).1 z) Z;exact⟨q1,fun k d j J=>by rw[u.lg];exact F k d j (u.lv.1 J)⟩
 ·rw[l];split
  ·decide
  ·exact h.st a ((g a).1 z)
 ·refine⟨h.en.1,fun a z=>?_,fun a z f=>?_⟩
  ·obtain⟨q1,F⟩:=h.en.2.1 a z;refine⟨(g a).2 q1,?_⟩;rw[l];split
   ·decide
   ·exact F
  ·rw[l] at f;have E:a≠i:=fun e=>by rw[if_pos e] at f;omega
   rw[if_neg E] at f;exact h.en.2.2 a ((g a).1 z) f
 ·rw[l] at T;have ag:w≠i:=fun e=>by rw[if_pos e] at T;omega
  rw[if_neg ag] at T;rw[l] at X;have a6:t≠i:=fun e=>by rw[if_pos e] at X;omega
  rw[if_neg a6] at X;exact an w (h.dm t w x ((g t).1 Z) ((g w).1 ai) U T X ((a7 t x).1 O) ((S w x).1 ad))
 ·obtain⟨q1,F⟩:=h.ri t ((g t).1 Z) x v hv;rw[l,ac];by_cases e:t=i
  ·rw[if_pos e];exact⟨fun h=>by omega,fun h=>by omega⟩
  ·rw[if_neg e];exact⟨q1,fun ak A B hE=>by rw[ac];exact F ak A B hE⟩
 ·obtain⟨q1,F⟩:=ae k d x o m ho;obtain⟨a1,a2,a3,a4⟩:=h.wt k d x o m F;rw[hm,l,y,(r k).2.2,if_neg (by omega)];exact⟨a1,a2,a3,a4⟩
 ·rw[l] at f;have E:a≠i:=fun e=>by rw[if_pos e] at f;omega
  rw[if_neg E] at f;rw[y,(r k).2.2] at W;have Y:=h.ww a k ((g a).1 z) d f W x m O;have ah:((H.aq i).tx a).af=(H.tx a).af:=by rw[(N a).2.2.2.2,if_neg E]
  rw[L,ah];have ab:∀ q∈ks,q≠k->¬Ez ((H.aq i).sh q).tab i a x:=fun q hq U hg=>by
   obtain⟨_,m',af⟩:=Hh (h.gt q (by have:=a5 q hq;omega)) hg;have:=(h.wt q (a5 q hq) x _ _ af).2.2.2;omega
  rw[D];by_cases e:k∈ks
  ·rw[if_pos e];constructor
   ·rintro ⟨q1,F⟩;rcases q6o (h.gt k (by omega)) (tx:=i) (Y.1 q1) (by omega) with q|q
    ·exact q.1
    ·exact absurd q.1 (F k e)
   ·intro q;obtain⟨_,F⟩:=Es (h.gt k (by omega)) q;refine⟨Y.2 F,fun k' V hg=>?_⟩;by_cases e2:k'=k
    ·subst e2;rcases q6o (h.gt k' (by omega)) (tx:=i) F (by omega) with q3|q3
     ·exact q3.2 hg
     ·exact q3.2.2 m q
    ·exact ab k' V e2 hg
  ·rw[if_neg e,<- Y];exact⟨fun q=>q.1,fun q=>⟨q,fun k' V hg=>ab k' V (fun e2=>e (e2▸V)) hg⟩⟩
 ·rw[R];have:=((L a (x,m)).1 O).1;rw[(N a).2.2.2.2] at this;split at this
  ·cases this
  ·exact h.wn a ((g a).1 z) x m this
theorem SI.abort (h:SI H G (fun _ _=>False)) (D:Wf H) (p:Dt H) (I:H.c=3) (y:1<=i) (u:i<=H.m) (hs:(H.tx i).state=1\/((H.tx i).state=2/\(H.tx i).ae=0)):SI (H.abort i) G (fun _ _=>False):=by
 rw[Tu];have J:=h.cB y u hs;have d:=Rm i (H.tx i).ai (H.aq i);have l:Wf (reld (H.aq i) i (H.tx i).ai):=(D.aq y u).cF i _ (fun k g=>by show k<H.c;have:=DI g;omega);have r:((reld (H.aq i) i (H.tx i).ai).tx i).state=4:=by
  rw[(d.2.2.2.2 i).1];show(Ae H.tx i _ i).state=4;rw[Ay]
 have v:((reld (H.aq i) i (H.tx i).ai).tx i).ai=(H.tx i).ai:=Il (by rw[(d.2.2.2.2 i).2.2.1];show(Ae H.tx i _ i).ad=_;rw[Ay]);have f:Dt (reld (H.aq i) i (H.tx i).ai):=by
  have t1:Bu H (H.aq i):=by
   refine⟨L1 _,fun a _ _ e=>?_,fun a _ _ e=>?_,fun a _ _ e=>?_⟩
   ·show(Ae H.tx i _ a).state=_;by_cases d:a=i
    ·subst d;rw[e] at hs;rcases hs with h|⟨h,_⟩ <;> cases h
    ·rw[AF d];exact e
   ·show(Ae H.tx i _ a).state=_;by_cases d:a=i
    ·subst d;rw[Ay]
    ·rw[AF d];exact e
   ·show(Ae H.tx i _ a).ae=_;by_cases d:a=i
    ·subst d;rw[Ay]
    ·rw[AF d]
  have E:Bu (H.aq i) (reld (H.aq i) i (H.tx i).ai):=Bu.of d.2.2.1 (fun a=>⟨(d.2.2.2.2 a).1,(d.2.2.2.2 a).2.2.2.2⟩);have t:AS H (reld (H.aq i) i (H.tx i).ai):=fun a L A e=>by
   rw[(d.2.2.2.2 a).1] at e;have e:(Ae H.tx i _ a).state=3:=e;refine⟨by rw[d.2.2.1] at A;exact A,?_⟩;by_cases C:a=i
   ·subst C;rw[Ay] at e;cases e
   ·rw[AF C] at e;exact e
  exact p.sub (t1.trans E) t (BO.same ((Bf.aw H i _).trans (q4k i _ _)))
 show SI (Go.Proofs.YtccahlhdifadfaaGreatDoor.telld _ i 4 _) G _;rw[v];have z:=SI.aT (kind:=4) y (H.tx i).ai J l f (d.1.trans I) (by rw[d.2.2.1];exact u) (fun k g=>DI g) (.inr ⟨rfl,r⟩);refine z.ds (fun k j g F=>((z.cv k j g F).1).mono (fun x q=>?_) (fun _ _ _ _ h=>h));rcases q.2 with a|a
 ·exact a q.1.2
 ·exact a q.1.1
theorem SI.bX (h:SI H G (fun _ _=>False)) (a:Ag H B) {k j:Nat} (E:1<=i) (A:i<=H.m) (I:k∈(H.tx i).ai) (J:H.head k=Bs j) (f:¬AP (lg H k j) 2 i) (hs:(H.tx i).state=2)
  (L:(H.tx i).ad k=Bs (H.sh k).ab):AddC H k j i ⟨2,i,0,(H.tx i).of k⟩:=by
 have d:=DI I;obtain⟨P,_⟩:=EY J;have C:=fun x=>h.ho i k ⟨E,A⟩ d (.inr hs) L x
 have g:∀ u,u=3\/u=4->¬AP (lg H k j) u i:=fun u R D=>by
  obtain⟨c,D,e1,F⟩:=D;obtain⟨p,f⟩:=List.mem_iff_getElem?.1 D;obtain⟨_,l⟩:=a.bI.pl k d j P p c f;have S:stt H c.tx=(H.tx i).state:=by rw[F];rfl
  rcases l with l|l|l
  ·omega
  ·have:=l.2.1;omega
  ·have:=l.2;omega
 have r:∀ p∈(H.tx i).of k,Hd (H.sh k).tab (sx p.key) i 2:=fun p f=>by
  obtain⟨q1,M⟩:=List.mem_filter.1 f;exact(C (sx p.key) (by simpa using M)).1 ⟨p,q1,rfl⟩
 refine⟨rfl,⟨E,A⟩,.inl rfl,fun e=>by omega,a.wf.bX E A k,f,fun _=>⟨hs,I,rfl,L,g 3 (.inl rfl),g 4 (.inr rfl),fun w v t y O=>?_,fun p f=>?_⟩,fun _ e=>by
  have e:(2:Int)=3\/(2:Int)=4:=e;omega⟩
 ·obtain⟨p,z,q,N,e⟩:=y;have e1:=(h.cv k j d J).1 w v t O (fun e=>e) p z;have F:=r q N;rw[e] at e1;have:=Hd.dr (h.gt k (by omega)) e1 (F.mono (by omega));exact f ⟨w,v,t,this⟩
 ·exact DD.of_hd (r p f) (fun m v=>by
   have:=(h.wt k d _ _ _ v).2.1;rw[show((i:Int).toNat)=i by omega] at this;omega)
theorem SI.prep (h:SI H G (fun _ _=>False)) (a:Ag H B) {k j:Nat} (b:Bool) (y:1<=i) (u:i<=H.m) (g:k∈(H.tx i).ai) (d:H.head k=Bs j) (r:¬AP (lg H k j) 2 i) (hs:(H.tx i).state=2)
  (v:(H.tx i).ad k=Bs (H.sh k).ab):SI (H.add k j ⟨2,i,0,(H.tx i).of k⟩ b).2 G (fun _ _=>False):=by
 have t:=DI g;have l:=h.addF a.wf a.c (by omega) d (h.bX a y u g d r hs v) (q8n (b:=b) d (h.room a.bI a.wf.bC (by omega) d _ _) (h.dn k j (by omega) d));exact l.ds (fun k' p e f=>((l.cv k' p e f).1).mono (fun x q=>q.1) (fun _ _ _ _ h=>h))
theorem SI.decide (h:SI H G (fun _ _=>False)) (a:Ag H B) {j:Nat} (b:Bool) (p:1<=i) (k:i<=H.m) (d:H.head 2=Bs j) (t:¬AP (lg H 2 j) 3 i):SI (H.add 2 j ⟨3,i,(H.tx i).ae,[]⟩ b).2 G (fun _ _=>False):=by
 have u:AddC H 2 j i ⟨3,i,(H.tx i).ae,[]⟩:=⟨rfl,⟨p,k⟩,.inr (.inl rfl),fun _=>rfl,a.wf.de p k,t,fun e=>by
  have e:(3:Int)=2:=e;omega,fun e=>by omega⟩
 have l:=h.addF a.wf a.c (by omega) d u (q8n (b:=b) d (h.room a.bI a.wf.bC (by omega) d _ _) (h.dn 2 j (by omega) d));exact l.ds (fun k' q f g=>((l.cv k' q f g).1).mono (fun x r=>r.1) (fun _ _ _ _ h=>h))
theorem NI {E:List Nat} {a b:Nat} (h:VF E a b):a∈E/\b∈E:=by
 obtain⟨A,C,rfl,d⟩:=h;exact⟨by simp[d],by simp⟩
theorem SD {E:List Nat} {a b:Nat} (h:VF E a b) (d:E.Nodup):a≠b:=by
 obtain⟨A,C,rfl,e⟩:=h;rintro rfl;rw[Xo] at d;exact d.2.2 a e a (by simp) rfl
theorem SI.timed (h:SI H G (fun _ _=>False)) (a:Ag H B) (h1:1<=i) (hi:i<=H.m) (hs:(H.tx i).state=2) (hp:∀ k∈(H.tx i).ai,C0 H k 2 i):SI (H.timed i) G (fun _ _=>False):=by
 rw[qbu a.wf];split
 ·rename_i h0;have d:∀ b,((H.aK i).tx b).state=(H.tx b).state/\((H.aK i).tx b).aa=(H.tx b).aa/\((H.aK i).tx b).ad=(H.tx b).ad/\((H.aK i).tx b).af=(H.tx b).af/\((H.aK i).tx b).ae=(if b=i then H.ae+1 else(H.tx b).ae):=fun b=>by
   show((Ae H.tx i _ b).state=_/\(Ae H.tx i _ b).aa=_/\(Ae H.tx i _ b).ad=_/\(Ae H.tx i _ b).af=_/\(Ae H.tx i _ b).ae=_);by_cases e:b=i
   ·subst e;rw[Ay,if_pos rfl];exact⟨rfl,rfl,rfl,rfl,rfl⟩
   ·rw[AF e,if_neg e];exact⟨rfl,rfl,rfl,rfl,rfl⟩
  have E:∀ b,((H.aK i).tx b).ai=(H.tx b).ai:=fun b=>Il (d b).2.2.1
  have z:∀ b x,Wr (H.aK i) b x↔Wr H b x:=fun b x=>Wr.congr (d b).2.1
  have T:∀ b x,Cp (H.aK i) G b x↔Cp H G b x:=fun b x=>Cp.congr (d b).2.1
  have W:∀ A x,AZ (H.aK i) A x=AZ H A x:=fun A x=>Rp (fun b _=>Us (d b).1 (d b).2.1)
  have a1:∀ k∈(H.tx i).ai,∀ j,Lv H k j->AP (lg H k j) 2 i:=fun k q j M=>by
   obtain⟨I,p,c,q1,u,O,X,q5⟩:=hp k q;have a7:=DI q;have a3:=a.ch.st k (by rw[a.c];omega) I j (EY q1).1 M;have V:p<(lg H k j).length:=by
    have:H.ao k I<=(lg H k j).length:=a3;omega
   rcases Nat.le_total I j with r|r
   ·have D:=a.ch.pre k (by rw[a.c];omega) I j r (EY q1).1 M;have e:(lg H k j)[p]? = Bs c:=by
     have:=getElem?_prefix D (K0 V);rw[u] at this;rw[K0 V,<- this]
    exact⟨c,O0 e,O,X⟩
   ·have D:=a.ch.pre k (by rw[a.c];omega) j I r M (EY q1).1;exact⟨c,O0 (getElem?_prefix D u),O,X⟩
  have U:¬BJ H i:=by
   rintro ⟨_,k,q,_,h4⟩;obtain⟨I,p,c,q1,u,O,X,_⟩:=hp k q;exact h4 I (EY q1).1 ⟨c,O0 u,O,X⟩
  have a5:∀ w,BJ H w->BJ (H.aK i) w:=fun w hd=>by
   have L:w≠i:=fun e=>U (e▸hd)
   exact hd.mono (by rw[(d w).2.2.2.2,if_neg L]) (d w).2.2.1 (fun _ _=>rfl) (fun k j q M e=>⟨j,M,e⟩)
  have r:∀ b,Ir H b->(H.tx b).ae<=H.ae:=fun b f=>(a.wf.cL b f.1 f.2).2
  have a6:=a.wf.aY;refine⟨h.gt,h.t2,h.dn,fun k j q M c hc a4=>?_,h.wl,h.cv,fun b f=>?_,fun b f k q e y=>?_,fun b k f q l y x g=>?_,fun b f P=>?_,fun b c f hc J y=>?_,fun b f=>by rw[(d b).1];exact h.st b f,⟨h.en.1,fun b f=>by rw[(d b).1];exact h.en.2.1 b f,fun b f l=>by rw[(d b).1] at l;exact h.en.2.2 b f l⟩,fun t w x P Y L F f g a0=>?_,fun v w x f q1 u tv R=>?_,fun t P x v Z=>?_,fun k q x o m ho=>?_,fun b k f q l y x m g=>?_,fun b f x m g=>?_⟩
  ·rw[(d _).1,E];obtain⟨q1,u,O⟩:=h.pw k j q M c hc a4;exact⟨q1,u,by unfold Bi.of;rw[(d _).2.1];exact O⟩
  ·rw[E,(d b).2.1];obtain⟨q1,u⟩:=h.wc b f;exact⟨fun x g=>q1 x ((T b x).1 g),u⟩
  ·rw[E] at q;rw[(d b).2.2.1] at y;exact h.se b f k q e y
  ·rw[(d b).1] at l;rw[(d b).2.2.1] at y;rw[z];exact h.ho b k f q l y x g
  ·rw[(d b).1,E];by_cases e:b=i
   ·subst e;exact⟨.inl hs,a1⟩
   ·rw[(d b).2.2.2.2,if_neg e] at P;exact h.tp b f P
  ·rw[(d b).2.2.2.2] at J;rw[(d b).2.2.2.2,(d c).2.2.2.2] at y;have q1:=r b f;have u:=r c hc;by_cases e:b=i
   ·by_cases N:c=i
    ·omega
    ·rw[if_pos e,if_neg N] at y;omega
   ·by_cases N:c=i
    ·rw[if_neg e,if_pos N] at y;omega
    ·rw[if_neg e] at J;rw[if_neg e,if_neg N] at y;exact h.tu b c f hc J y
  ·rw[(d w).1] at F;rw[(d t).1] at f;exact a5 w (h.dm t w x P Y L F f ((T t x).1 g) ((z w x).1 a0))
  ·have Z:=h.en.2.1 v (NI f).1;have Y:=h.en.2.1 w (NI f).2;have S:=SD f h.en.1;rw[(d v).2.2.2.2] at tv ⊢;rw[(d w).2.2.2.2] at R ⊢;by_cases e:v=i
   ·subst e;exfalso;rw[if_neg (fun e=>S e.symm)] at R;have F:=(h.tp w Y.1 R).1;exact U (h.dm w v x Y.1 Z.1 (fun e=>S e.symm) hs (.inr ⟨F,f⟩) (.inl ((z w x).1 u)) ((z v x).1 q1))
   ·rw[if_neg e] at tv ⊢;by_cases N:w=i
    ·rw[if_pos N];have:=r v Z.1;omega
    ·rw[if_neg N] at R ⊢;exact h.tm v w x f ((z v x).1 q1) ((z w x).1 u) tv R
  ·rw[(d t).1,W];obtain⟨q1,u⟩:=h.ri t P x v Z;exact⟨q1,fun a2 A C hE=>by rw[W];exact u a2 A C hE⟩
  ·rw[(d _).1,(d _).2.2.1];exact h.wt k q x o m ho
  ·rw[(d b).1] at l;rw[(d b).2.2.1] at y;rw[(d b).2.2.2.1];exact h.ww b k f q l y x m g
  ·rw[E];rw[(d b).2.2.2.1] at g;exact h.wn b f x m g
 ·exact h
theorem SI.commit (h:SI H G (fun _ _=>False)) (a:Ag H B) (h1:1<=i) (hi:i<=H.m) (hs:(H.tx i).state=2) (Y:C0 H 2 3 i):SI (H.a3 i 3) G (fun _ _=>False):=by
 have M:(H.tx i).ae≠0:=by
  obtain⟨j,p,c,q1,q,T,U,_⟩:=Y;have q5:=a.bI.p2 j (EY q1).1 c (O0 q);have q6:=q5.2.2.1;have q7:=q5.2.2.2;rw[U] at q6;have q8:To H (i:Int)=(H.tx i).ae:=rfl;omega
 have R:¬BJ H i:=fun hd=>M hd.1
 have d:∀ b,((H.a3 i 3).tx b).state=(if b=i then 3 else(H.tx b).state)/\((H.a3 i 3).tx b).aa=(H.tx b).aa/\((H.a3 i 3).tx b).ad=(H.tx b).ad/\((H.a3 i 3).tx b).af=(H.tx b).af/\((H.a3 i 3).tx b).ae=(H.tx b).ae:=fun b=>by
  show((Ae H.tx i _ b).state=_/\(Ae H.tx i _ b).aa=_/\(Ae H.tx i _ b).ad=_/\(Ae H.tx i _ b).af=_/\(Ae H.tx i _ b).ae=_);by_cases e:b=i
  ·subst e;rw[Ay,if_pos rfl];exact⟨rfl,rfl,rfl,rfl,rfl⟩
  ·rw[AF e,if_neg e];exact⟨rfl,rfl,rfl,rfl,rfl⟩
 have z:∀ b,((H.a3 i 3).tx b).ai=(H.tx b).ai:=fun b=>Il (d b).2.2.1
 have D:∀ b x,Wr (H.a3 i 3) b x↔Wr H b x:=fun b x=>Wr.congr (d b).2.1
 have O:∀ b x,Cp (H.a3 i 3) G b x↔Cp H G b x:=fun b x=>Cp.congr (d b).2.1
 have a1:∀ w,BJ H w->BJ (H.a3 i 3) w:=fun w hd=>hd.mono (d w).2.2.2.2 (d w).2.2.1 (fun _ _=>rfl) (fun k j u hj e=>⟨j,hj,e⟩)
 have E:∀ b,(((H.a3 i 3).tx b).state=2\/((H.a3 i 3).tx b).state=3)↔((H.tx b).state=2\/(H.tx b).state=3):=fun b=>by
  rw[(d b).1];by_cases e:b=i
  ·subst e;rw[if_pos rfl];exact⟨fun _=>.inl hs,fun _=>.inr rfl⟩
  ·rw[if_neg e]
 have r:∀ b,((H.a3 i 3).tx b).state=1↔(H.tx b).state=1:=fun b=>by
  rw[(d b).1];by_cases e:b=i
  ·subst e;rw[if_pos rfl];exact⟨fun e=>by omega,fun e=>by omega⟩
  ·rw[if_neg e]
 have F:∀ (A:List Nat) (x:Sx),(i∈A->¬Wr H i x)->AZ (H.a3 i 3) A x=AZ H A x:=fun A x hA=>Rp (fun b f=>by
  unfold Hp;rw[(d b).1,(d b).2.1];by_cases e:b=i
  ·subst e;have I:Is (H.tx b).aa x=B0:=q5d.2 (fun p Y e=>hA f ⟨p,Y,e⟩);rw[if_pos rfl,if_pos rfl,I,if_neg (by omega)]
  ·rw[if_neg e])
 refine⟨h.gt,h.t2,h.dn,fun k j u hj c hc a0=>?_,h.wl,h.cv,fun b f=>?_,fun b f k u e y=>?_,fun b k f u l y x g=>?_,fun b f M=>?_,fun b c f hc P y=>?_,fun b f=>?_,⟨h.en.1,fun b f=>?_,fun b f l=>h.en.2.2 b f ((E b).1 l)⟩,fun t w x M I Z L f g V=>?_,fun v w x f q1 q tv tw=>?_,fun t J x v hv=>?_,fun k u x o m ho=>?_,fun b k f u l y x m g=>?_,fun b f x m g=>?_⟩
 ·obtain⟨q1,q,T⟩:=h.pw k j u hj c hc a0;rw[ne_eq,r,z];exact⟨q1,q,by unfold Bi.of;rw[(d _).2.1];exact T⟩
 ·rw[z,(d b).2.1];obtain⟨q1,q⟩:=h.wc b f;exact⟨fun x g=>q1 x ((O b x).1 g),q⟩
 ·rw[z] at u;rw[(d b).2.2.1] at y;exact h.se b f k u e y
 ·have a2:b≠i:=fun e=>by rw[(d b).1,if_pos e] at l;omega
  rw[(d b).1,if_neg a2] at l;rw[(d b).2.2.1] at y;rw[D];exact h.ho b k f u l y x g
 ·rw[(d b).2.2.2.2] at M;rw[z];obtain⟨q1,q⟩:=h.tp b f M;exact⟨(E b).2 q1,q⟩
 ·rw[(d b).2.2.2.2] at P;rw[(d b).2.2.2.2,(d c).2.2.2.2] at y;exact h.tu b c f hc P y
 ·rw[(d b).1];split
  ·decide
  ·exact h.st b f
 ·obtain⟨q1,q⟩:=h.en.2.1 b f;exact⟨q1,fun e=>q ((r b).1 e)⟩
 ·have W:w≠i:=fun e=>by rw[(d w).1,if_pos e] at L;omega
  rw[(d w).1,if_neg W] at L;exact a1 w (h.dm t w x M I Z L (f.imp (fun e=>(r t).1 e) (fun⟨a,b⟩=>⟨(E t).1 a,b⟩)) ((O t x).1 g) ((D w x).1 V))
 ·rw[(d v).2.2.2.2] at tv ⊢;rw[(d w).2.2.2.2] at tw ⊢;exact h.tm v w x f ((D v x).1 q1) ((D w x).1 q) tv tw
 ·obtain⟨q1,q⟩:=h.ri t J x v hv;have N:Cp H G t x:=.inr ⟨v,hv⟩;refine⟨fun e=>?_,fun e A C hE=>?_⟩
  ·have e:=(r t).1 e;have X:t≠i:=fun e2=>by subst e2;omega
   rw[F _ _ (fun _ I=>R (h.dm t i x J ⟨h1,hi⟩ X hs (.inl e) N I))];exact q1 e
  ·have e:=(E t).1 e;rw[F _ _ (fun hA I=>?_)]
   ·exact q e A C hE
   ·have S:VF G.E i t:=⟨A,C,hE,hA⟩
    exact R (h.dm t i x J ⟨h1,hi⟩ (fun e2=>SD S h.en.1 e2.symm) hs (.inr ⟨e,S⟩) N I)
 ·obtain⟨q1,q,T,U⟩:=h.wt k u x o m ho;exact⟨q1,(r _).2 q,by rw[(d _).2.2.1];exact T,U⟩
 ·have l:=(r b).1 l;rw[(d b).2.2.1] at y;rw[(d b).2.2.2.1];exact h.ww b k f u l y x m g
 ·rw[z];rw[(d b).2.2.2.1] at g;exact h.wn b f x m g
theorem SI.came (h:SI H G (fun _ _=>False)) (a:Ag H B) (h1:1<=i) (hi:i<=H.m) {k:Nat} (hk:k<2) (hs:(H.tx i).state=1) (y:(H.tx i).ad k=B0\/(H.tx i).ad k=Bs (H.sh k).ab):SI (H.came i k) G (fun _ _=>False):=by
 have f:∀ b,((H.came i k).tx b).state=(H.tx b).state/\((H.came i k).tx b).aa=(H.tx b).aa/\((H.came i k).tx b).af=(H.tx b).af/\((H.came i k).tx b).ae=(H.tx b).ae/\((H.came i k).tx b).ad=(if b=i then AG (H.tx i).ad k (H.sh k).ab else(H.tx b).ad):=fun b=>by
  show((Ae H.tx i _ b).state=_/\(Ae H.tx i _ b).aa=_/\(Ae H.tx i _ b).af=_/\(Ae H.tx i _ b).ae=_/\(Ae H.tx i _ b).ad=_);by_cases e:b=i
  ·subst e;rw[Ay,if_pos rfl];exact⟨rfl,rfl,rfl,rfl,rfl⟩
  ·rw[AF e,if_neg e];exact⟨rfl,rfl,rfl,rfl,rfl⟩
 have u:∀ q:Nat,((H.came i k).tx i).ad q=if q=k then Bs (H.sh k).ab else(H.tx i).ad q:=fun q=>by
  rw[(f i).2.2.2.2,if_pos rfl];unfold AG;by_cases e:q=k
  ·subst e;simp
  ·rw[if_neg (by omega),if_neg e]
 have N:∀ b q,q∈(H.tx b).ai->q∈((H.came i k).tx b).ai:=fun b q r=>by
  rw[EZ] at r ⊢;refine⟨r.1,?_⟩;by_cases e:b=i
  ·subst e;rw[u];split
   ·simp
   ·exact r.2
  ·rw[(f b).2.2.2.2,if_neg e];exact r.2
 have J:∀ b,b≠i->((H.came i k).tx b).ai=(H.tx b).ai:=fun b e=>Il (by rw[(f b).2.2.2.2,if_neg e])
 have E:∀ b x,Wr (H.came i k) b x↔Wr H b x:=fun b x=>Wr.congr (f b).2.1
 have O:∀ b x,Cp (H.came i k) G b x↔Cp H G b x:=fun b x=>Cp.congr (f b).2.1
 have T:∀ A x,AZ (H.came i k) A x=AZ H A x:=fun A x=>Rp (fun b _=>Us (f b).1 (f b).2.1)
 have W:(H.tx i).ae=0:=Wl (fun e=>by have:=(h.tp i ⟨h1,hi⟩ e).1;omega);have Y:∀ b,((H.tx b).state=2\/(H.tx b).state=3)->b≠i:=fun b l e=>by subst e;omega
 have a0:∀ w,(H.tx w).state=2->BJ H w->BJ (H.came i k) w:=fun w L hd=>hd.mono (f w).2.2.2.1 (by rw[(f w).2.2.2.2,if_neg (Y w (.inl L))]) (fun _ _=>rfl) (fun k j hk hj e=>⟨j,hj,e⟩)
 refine⟨h.gt,h.t2,h.dn,fun q j r hj c hc Z=>?_,h.wl,h.cv,fun b l=>?_,fun b l q r e d=>?_,fun b q l r p d x g=>?_,fun b l F=>?_,fun b c l hc P d=>by rw[(f b).2.2.2.1] at P;rw[(f b).2.2.2.1,(f c).2.2.2.1] at d;exact h.tu b c l hc P d,fun b l=>by rw[(f b).1];exact h.st b l,⟨h.en.1,fun b l=>by rw[(f b).1];exact h.en.2.1 b l,fun b l p=>by rw[(f b).1] at p;exact h.en.2.2 b l p⟩,fun t w x F L S M l g V=>?_,fun v w x l q1 D tv tw=>?_,fun t F x v hv=>?_,fun q r x o m ho=>?_,fun b q l r p d x m g=>?_,fun b l x m g=>?_⟩
 ·obtain⟨q1,D,U⟩:=h.pw q j r hj c hc Z;rw[(f _).1];exact⟨q1,N _ _ D,by unfold Bi.of;rw[(f _).2.1];exact U⟩
 ·obtain⟨q1,D⟩:=h.wc b l;rw[(f b).2.1];exact⟨fun x g=>N _ _ (q1 x ((O b x).1 g)),D⟩
 ·by_cases I:b=i
  ·subst I;rw[u] at d;split at d
   ·rename_i z;subst z;injection d with d;rw[<- d];exact Xk _
   ·rename_i z;refine h.se b l q (EZ.2 ⟨(EZ.1 r).1,by rw[d];simp⟩) e d
  ·rw[J b I] at r;rw[(f b).2.2.2.2,if_neg I] at d;exact h.se b l q r e d
 ·rw[(f b).1] at p;rw[E];by_cases I:b=i
  ·subst I;rw[u] at d;by_cases z:q=k
   ·subst z;rcases y with y|y
    ·have R:¬Cp H G b x:=fun F=>by
      have:=(h.wc b l).1 x F;rw[g] at this;exact(EZ.1 this).2 y
     exact⟨fun L=>(R (.inl L)).elim,fun hr=>(R (.inr hr)).elim⟩
    ·exact h.ho b q l r p y x g
   ·rw[if_neg z] at d;exact h.ho b q l r p d x g
  ·rw[(f b).2.2.2.2,if_neg I] at d;exact h.ho b q l r p d x g
 ·rw[(f b).2.2.2.1] at F;have a1:b≠i:=fun e=>by subst e;exact F W
  rw[(f b).1,J b a1];exact h.tp b l F
 ·rw[(f w).1] at M;rw[(f t).1] at l;exact a0 w M (h.dm t w x F L S M l ((O t x).1 g) ((E w x).1 V))
 ·rw[(f v).2.2.2.1] at tv ⊢;rw[(f w).2.2.2.1] at tw ⊢;exact h.tm v w x l ((E v x).1 q1) ((E w x).1 D) tv tw
 ·rw[(f t).1,T];obtain⟨q1,D⟩:=h.ri t F x v hv;exact⟨q1,fun X A C hE=>by rw[T];exact D X A C hE⟩
 ·obtain⟨q1,D,U,q4⟩:=h.wt q r x o m ho;refine⟨q1,by rw[(f _).1];exact D,?_,q4⟩;by_cases e:o.toNat=i
  ·rw[e,u];split
   ·rename_i z;subst z;rfl
   ·rw[<- e];exact U
  ·rw[(f _).2.2.2.2,if_neg e];exact U
 ·rw[(f b).1] at p;rw[(f b).2.2.1];by_cases I:b=i
  ·subst I;rw[u] at d;by_cases z:q=k
   ·subst z;rcases y with y|y
    ·constructor
     ·intro hm;have:=h.wn b l x m hm;rw[g] at this;exact absurd y (EZ.1 this).2
     ·intro L;have:=(h.wt q r x _ _ L).2.2.1;rw[show((b:Int).toNat)=b by omega,y] at this;cases this
    ·exact h.ww b q l r p y x m g
   ·rw[if_neg z] at d;exact h.ww b q l r p d x m g
  ·rw[(f b).2.2.2.2,if_neg I] at d;exact h.ww b q l r p d x m g
 ·rw[(f b).2.2.1] at g;exact N _ _ (h.wn b l x m g)
theorem SI.locked (h:SI H G (fun _ _=>False)) (a:Ag H B) (ae:H.m<=40) (h1:1<=i) (hi:i<=H.m) (hs:(H.tx i).state=1) {x:Sx} {mode:Int} (hm:BW mode) (he:(H.tx i).ad (Ad x)=Bs (H.sh (Ad x)).ab)
  (hw:CC (Ac (H.sh (Ad x)).tab x).ws i=Jx) (f:Bool) (hf:As (Ac (H.sh (Ad x)).tab x).h i mode (Ac (H.sh (Ad x)).tab x).ws=f) (l:H'=if f then H.aX i (Ad x) x mode else(H.aX i (Ad x) x mode).aN i x mode):SI H' G (fun _ _=>False):=by
 have aa:=KM x;have d:∀ b,(H'.tx b).state=(H.tx b).state/\(H'.tx b).aa=(H.tx b).aa/\(H'.tx b).ae=(H.tx b).ae/\(H'.tx b).ad=(H.tx b).ad/\(H'.tx b).af=(if b=i/\f=Jx then(H.tx i).af++[(x,mode)] else(H.tx b).af):=fun b=>by
  subst l;cases f with
  | true=>exact⟨rfl,rfl,rfl,rfl,by simp[Hs.aX,Hs.al]⟩
  | false=>
   show((Ae H.tx i _ b).state=_/\(Ae H.tx i _ b).aa=_/\(Ae H.tx i _ b).ae=_/\(Ae H.tx i _ b).ad=_/\(Ae H.tx i _ b).af=_);by_cases e:b=i
   ·subst e;rw[Ay,if_pos ⟨rfl,rfl⟩];exact⟨rfl,rfl,rfl,rfl,rfl⟩
   ·rw[AF e,if_neg (fun h=>e h.1)];exact⟨rfl,rfl,rfl,rfl,rfl⟩
 have a1:∀ k,H'.sh k=if k=Ad x then { H.sh k with tab:=An (H.sh k).tab i x mode } else H.sh k:=fun k=>by
  subst l;have e:(if f=T2 then H.aX i (Ad x) x mode else(H.aX i (Ad x) x mode).aN i x mode).sh k=Ae H.sh (Ad x) { H.sh (Ad x) with tab:=An (H.sh (Ad x)).tab i x mode } k:=by cases f <;> rfl
  rw[e];unfold Ae;by_cases S:k=Ad x
  ·rw[if_pos S,if_pos S,S]
  ·rw[if_neg S,if_neg S]
 have P:H'.m=H.m/\H'.n=H.n:=by subst l;cases f <;> exact⟨rfl,rfl⟩
 have D:∀ k,(H'.sh k).tab=if k=Ad x then An (H.sh k).tab i x mode else(H.sh k).tab:=fun k=>by rw[a1];split <;> rfl
 have p:∀ k,(H'.sh k).sto=(H.sh k).sto/\(H'.sh k).done=(H.sh k).done/\(H'.sh k).ab=(H.sh k).ab/\(H'.sh k).nd=(H.sh k).nd/\(H'.sh k).ak=(H.sh k).ak:=fun k=>by rw[a1];split <;> exact⟨rfl,rfl,rfl,rfl,rfl⟩
 have I:∀ k j,lg H' k j=lg H k j:=fun k j=>by unfold lg;rw[(p k).2.2.2.1]
 have R:∀ k j,Lv H' k j↔Lv H k j:=fun k j=>by unfold Lv;rw[P.2,(p k).2.2.2.1,(p k).2.2.2.2]
 have a4:∀ k,H'.head k=H.head k:=fun k=>q6b P.2 (p k).2.2.2.2 (fun j=>by rw[(p k).2.2.2.1];exact⟨rfl,rfl⟩)
 have g:∀ b,Ir H' b↔Ir H b:=fun b=>by unfold Ir;rw[P.1]
 have N:∀ b,(H'.tx b).ai=(H.tx b).ai:=fun b=>Il (d b).2.2.2.1
 have O:∀ b x,Wr H' b x↔Wr H b x:=fun b x=>Wr.congr (d b).2.1
 have X:∀ b x,Cp H' G b x↔Cp H G b x:=fun b x=>Cp.congr (d b).2.1
 have a5:∀ A x,AZ H' A x=AZ H A x:=fun A x=>Rp (fun b _=>Us (d b).1 (d b).2.1)
 have ac:∀ w,BJ H w->BJ H' w:=fun w W=>W.mono (d w).2.2.1 (d w).2.2.2.1 (fun k _=>(p k).2.2.1) (fun k j l J e=>⟨j,(R k j).1 J,by rw[I] at e;exact e⟩)
 have F:∀ k y (o m:Int),Hd (H.sh k).tab y o m->Hd (H'.sh k).tab y o m:=fun k y o m W=>by
  rw[D];split
  ·exact W.lock _ _ _
  ·exact W
 have ad:(Ac (H.sh (Ad x)).tab x).ws.length≠50:=by
  have hg:=h.gt (Ad x) (by omega) x;have a9:((Ac (H.sh (Ad x)).tab x).ws.map (·.1)).Nodup:=by
   rw[List.Nodup,XA];exact hg.sorted.imp (fun h=>by omega)
  have a0:∀ o∈(Ac (H.sh (Ad x)).tab x).ws.map (·.1),o∈(Wu 41).map Int.ofNat:=fun o V=>by
   obtain⟨w,T,rfl⟩:=List.mem_map.1 V;have:=(h.wt (Ad x) aa x w.1 w.2 T).1;exact List.mem_map.2 ⟨w.1.toNat,List.mem_range.2 (by omega),by show((w.1.toNat:Nat):Int)=w.1;omega⟩
  have:=WZ a9 a0;simp at this;omega
 refine⟨fun k l=>by rw[D];split;exact(h.gt k l).lock hm x;exact h.gt k l,fun y=>by rw[D,if_neg (by omega)];exact h.t2 y,fun k j l J=>by rw[(p k).2.1,I];rw[a4] at J;exact h.dn k j l J,
  fun k j l J c hc ab=>?_,fun k j l J=>by rw[I];exact h.wl k j l ((R k j).1 J),fun k j l J=>?_,fun b r=>?_,fun b r k l e u=>?_,fun b k r l E u y L=>?_,fun b r U=>?_,fun b c r hc Y u=>by rw[(d b).2.2.1] at Y;rw[(d b).2.2.1,(d c).2.2.1] at u;exact h.tu b c ((g b).1 r) ((g c).1 hc) Y u,fun b r=>by rw[(d b).1];exact h.st b ((g b).1 r),⟨h.en.1,fun b r=>by rw[(d b).1,g];exact h.en.2.1 b r,fun b r E=>by rw[(d b).1] at E;exact h.en.2.2 b ((g b).1 r) E⟩,fun t w y U T a3 Z r a6 a7=>?_,fun v w y r q1 z tv tw=>?_,fun t U y v hv=>?_,fun k l y o m V=>?_,fun b k r l E u y m L=>?_,fun b r y m L=>?_⟩
 ·rw[I] at hc;obtain⟨q1,z,q3⟩:=h.pw k j l ((R k j).1 J) c hc ab;rw[(d _).1,N];exact⟨q1,z,by unfold Bi.of;rw[(d _).2.1];exact q3⟩
 ·rw[a4] at J;obtain⟨c1,c2⟩:=h.cv k j l J;rw[I,(p k).1];exact⟨c1.mono (fun _ e=>e) (fun y o m _ W=>F k y o m W),c2⟩
 ·rw[N,(d b).2.1];obtain⟨q1,z⟩:=h.wc b ((g b).1 r);exact⟨fun y L=>q1 y ((X b y).1 L),z⟩
 ·rw[N] at l;rw[(d b).2.2.2.1] at u;rw[(p k).2.2.1];exact h.se b ((g b).1 r) k l e u
 ·rw[(d b).1] at E;rw[(d b).2.2.2.1,(p k).2.2.1] at u;obtain⟨q1,z⟩:=h.ho b k ((g b).1 r) l E u y L;exact⟨fun hw=>F _ _ _ _ (q1 ((O b y).1 hw)),fun hr=>F _ _ _ _ (z hr)⟩
 ·rw[(d b).2.2.1] at U;rw[(d b).1,N];obtain⟨q1,z⟩:=h.tp b ((g b).1 r) U;exact⟨q1,fun k l j J=>by rw[I];exact z k l j ((R k j).1 J)⟩
 ·rw[(d w).1] at Z;rw[(d t).1] at r;exact ac w (h.dm t w y ((g t).1 U) ((g w).1 T) a3 Z r ((X t y).1 a6) ((O w y).1 a7))
 ·rw[(d v).2.2.1] at tv ⊢;rw[(d w).2.2.1] at tw ⊢;exact h.tm v w y r ((O v y).1 q1) ((O w y).1 z) tv tw
 ·rw[(d t).1,a5];obtain⟨q1,z⟩:=h.ri t ((g t).1 U) y v hv;exact⟨q1,fun a8 A C hE=>by rw[a5];exact z a8 A C hE⟩
 ·have a2:Wt (H.sh k).tab y o m\/(o=i/\y=x/\k=Ad x):=by
   rw[D] at V;split at V
   ·rename_i e;rcases Ha V with h2|⟨h2,h3,_,_⟩
    ·exact .inl h2
    ·exact .inr ⟨h2,h3,e⟩
   ·exact .inl V
  rw[P.1,(d _).1,(d _).2.2.2.1,(p k).2.2.1];rcases a2 with h2|⟨rfl,rfl,rfl⟩
  ·exact h.wt k l y o m h2
  ·rw[show((i:Int).toNat)=i by omega];exact⟨by omega,hs,he,rfl⟩
 ·rw[(d b).1] at E;rw[(d b).2.2.2.1,(p k).2.2.1] at u;have M:=h.ww b k ((g b).1 r) l E u y m L;rw[(d b).2.2.2.2,D];cases f with
  | true=>
   rw[if_neg (by simp),M];split
   ·rename_i e;subst e;refine⟨fun q=>q.lock _ _ _,fun q=>?_⟩;rcases Ha q with q|⟨_,z,_,q4⟩
    ·exact q
    ·rw[hf] at q4;cases q4
   ·exact Yr
  | false=>
   by_cases S:b=i
   ·subst S;rw[if_pos ⟨rfl,rfl⟩];split
    ·rename_i e;subst e;constructor
     ·intro q;rcases List.mem_append.1 q with q|q
      ·exact(M.1 q).lock _ _ _
      ·rw[VW] at q;injection q with q1 z;subst q1 z;exact FV hw hf ad
     ·intro q;rcases Ha q with q|⟨_,rfl,rfl,_⟩
      ·exact Wa _ (M.2 q)
      ·simp
    ·rename_i e;rw[<- M];constructor
     ·intro q;rcases List.mem_append.1 q with q|q
      ·exact q
      ·rw[VW] at q;injection q with q1 z;subst q1;exact absurd L.symm e
     ·exact fun q=>Wa _ q
   ·rw[if_neg (fun h=>S h.1),M];split
    ·rename_i e;subst e;refine⟨fun q=>q.lock _ _ _,fun q=>?_⟩;rcases Ha q with q|⟨z,_⟩
     ·exact q
     ·exact absurd (by omega) S
    ·exact Yr
 ·rw[N];rw[(d b).2.2.2.2] at L;split at L
  ·rename_i e;obtain⟨rfl,_⟩:=e;rcases List.mem_append.1 L with q|q
   ·exact h.wn b ((g b).1 r) y m q
   ·rw[VW] at q;injection q with q1 z;subst q1;exact EZ.2 ⟨by omega,by rw[he];simp⟩
  ·exact h.wn b ((g b).1 r) y m L
theorem M6 {H:Hs} {s:Nat} (h:∀ j,H.head s=Bs j->(H.sh s).done=(lg H s j).length):H.take s=H:=by
 unfold Hs.take;cases e:H.head s with
 | none=>rfl
 | some j=>
  have:=h j e;show Hs.aI s ((H.sh s).nd j).log (((H.sh s).nd j).log.length-(H.sh s).done) H=H;have d:((H.sh s).nd j).log.length-(H.sh s).done=0:=by unfold lg at this;omega
  rw[d];rfl
theorem Jh (d:Nd) (m:Ms):(d.step m).1.at_=d.at_/\(d.head=T2->(d.step m).1.log=d.log):=by
 have f:(d.grow m.cmd).1.at_=d.at_:=by
  unfold Nd.grow;split
  ·exact(E7 _).2.2.2.2
  ·rfl
 unfold Nd.step;split
 ·exact⟨rfl,fun _=>rfl⟩
 ·simp only;split
  ·exact⟨rfl,fun _=>rfl⟩
  ·split
   ·exact⟨rfl,fun _=>rfl⟩
   ·split
    ·rename_i h;refine⟨f,fun e=>?_⟩;have g:=h.2.1;unfold Nd.head at e;simp only[Bool.and_eq_true,decide_eq_true_eq,beq_iff_eq] at g e;omega
    ·split <;> exact⟨rfl,fun _=>rfl⟩
theorem SiS.nd {s j:Nat} {d:Nd} (hs:s<3) (p:d.id=((H.sh s).nd j).id) (v:d.at_=((H.sh s).nd j).at_) (t:lg H s j <+: d.log) (l:Lv H s j->∃ q,Lv H s q/\d.log <+: lg H s q) (u:((H.sh s).nd j).head=T2->d.log=lg H s j) (ms:List Ms) (net:Bk) :
  SiS H ((({ H with net:=net } : Hs).an s j d).send ms):=by
 have h:∀ {a q},Lv ((({ H with net:=net } : Hs).an s j d).send ms) a q↔Lv H a q:=fun {a q}=>q5j (H:={ H with net:=net }) p
 have k:∀ a q,lg ((({ H with net:=net } : Hs).an s j d).send ms) a q=if a=s/\q=j then d.log else lg H a q:=q4q { H with net:=net } s j d
 have f:∀ a,(((({ H with net:=net } : Hs).an s j d).send ms).sh a).tab=(H.sh a).tab/\(((({ H with net:=net } : Hs).an s j d).send ms).sh a).sto=(H.sh a).sto/\(((({ H with net:=net } : Hs).an s j d).send ms).sh a).done=(H.sh a).done/\(((({ H with net:=net } : Hs).an s j d).send ms).sh a).ab=(H.sh a).ab/\(((({ H with net:=net } : Hs).an s j d).send ms).sh a).ak=(H.sh a).ak:=fun a=>by
  show((({ H with net:=net } : Hs).an s j d).sh a).tab=_/\((({ H with net:=net } : Hs).an s j d).sh a).sto=_/\((({ H with net:=net } : Hs).an s j d).sh a).done=_/\((({ H with net:=net } : Hs).an s j d).sh a).ab=_/\((({ H with net:=net } : Hs).an s j d).sh a).ak=_;by_cases e:a=s
  ·subst e;rw[EX];exact⟨rfl,rfl,rfl,rfl,rfl⟩
  ·rw[Nb _ j d e];exact⟨rfl,rfl,rfl,rfl,rfl⟩
 have r:∀ a,((({ H with net:=net } : Hs).an s j d).send ms).head a=H.head a:=fun a=>q6b rfl (f a).2.2.2.2 (fun q=>by
  show(((({ H with net:=net } : Hs).an s j d).sh a).nd q).id=_/\(((({ H with net:=net } : Hs).an s j d).sh a).nd q).head=_;by_cases e:a=s
  ·subst e;rw[EX];by_cases x:q=j
   ·subst x;simp only[Ay];exact⟨p,by unfold Nd.head;rw[v]⟩
   ·simp only[AF x];exact⟨by first|rfl|trivial,by first|rfl|trivial⟩
  ·rw[Nb _ j d e];exact⟨rfl,rfl⟩)
 refine⟨rfl,fun a q _ g=>h.1 g,fun a q _ g=>by rw[<- r];exact g,fun a q _ _=>?_,fun a q _ g=>?_,fun a q _ g=>?_,fun a _=>⟨(f a).1,(f a).2.1,(f a).2.2.1,(f a).2.2.2.1⟩,fun _=>⟨rfl,rfl,rfl,rfl,rfl⟩⟩
 ·rw[k];split
  ·rename_i e;obtain⟨rfl,rfl⟩:=e;exact t
  ·exact VS _
 ·rw[k];split
  ·rename_i e;obtain⟨rfl,rfl⟩:=e;exact l (h.1 g)
  ·exact⟨q,h.1 g,VS _⟩
 ·rw[k];split
  ·rename_i e;obtain⟨rfl,rfl⟩:=e;rw[r] at g;exact u (EY g).2
  ·rfl
theorem SI.arrive (h:SI H G (fun _ _=>False)) (a:Ag H B) {k:Nat} {m:Ms} (t:H.net.l[k]? = Bs m):SI (({ H with net:=takeS H.net k } : Hs).arrive m) G (fun _ _=>False):=by
 cases f:Hs.node { H with net:=takeS H.net k } m.a4 with
 | none=>
  rw[OG f];exact h.same ⟨rfl,fun _ _ _ h=>h,fun _ _ _ h=>h,fun _ _ _ _=>VS _,fun _ j _ h=>⟨j,h,VS _⟩,fun _ _ _ _=>rfl,fun _ _=>⟨rfl,rfl,rfl,rfl⟩,fun _=>⟨rfl,rfl,rfl,rfl,rfl⟩⟩
 | some r=>
  obtain⟨s,j⟩:=r;obtain⟨hs,x,_⟩:=q6q (H:={ H with net:=takeS H.net k }) a.c f;have d:s<3:=by have:=a.c;have hs:s<H.c:=hs;omega
  rw[OH f];have v:SiS H ((({ H with net:=takeS H.net k } : Hs).an s j (((H.sh s).nd j).step m).1).send (((H.sh s).nd j).step m).2):=
   SiS.nd d (q8d _ m).2 (Jh _ m).1 (q8d _ m).1 (fun g=>IV a.ch (s:=s) (j:=j) (by rw[a.c];exact d) g (O0 t)) (fun u=>(Jh _ m).2 u) _ _
  have l:=h.same v;have e:(((({ H with net:=takeS H.net k } : Hs).an s j (((H.sh s).nd j).step m).1).send (((H.sh s).nd j).step m).2).take s)=((({ H with net:=takeS H.net k } : Hs).an s j (((H.sh s).nd j).step m).1).send (((H.sh s).nd j).step m).2):=M6 (fun q p=>l.dn s q d p);show SI (((({ H with net:=takeS H.net k } : Hs).an s j (((H.sh s).nd j).step m).1).send (((H.sh s).nd j).step m).2).take s) G _;rw[e];exact l
theorem SI.step (h:SI H G (fun _ _=>False)) (a:Ag H B) (r:H.m<=40) (s:BZ H H'):SI H' G (fun _ _=>False):=by
 cases s with
 | abort f d hs=>exact h.abort a.wf a.bI a.c f d hs
 | @tell i k kind f d g hs=>
  have D:=h.a7 a.wf a.bI a.c f d g hs;exact D.ds (fun k' E y z=>((D.cv k' E y z).1).mono (fun x t=>t.1) (fun _ _ _ _ h=>h))
 | prep b f d g q l hs I p J=>exact h.prep a b f d g q l hs p
 | @place i k at_ f d g L hs=>
  refine h.same ⟨rfl,fun _ _ _ h=>h,fun _ _ _ h=>h,fun _ _ _ _=>VS _,fun _ j _ h=>⟨j,h,VS _⟩,fun _ _ _ _=>rfl,fun _ _=>⟨rfl,rfl,rfl,rfl⟩,fun b=>?_⟩;show(Ae H.tx i _ b).state=_/\(Ae H.tx i _ b).aa=_/\(Ae H.tx i _ b).ad=_/\(Ae H.tx i _ b).ae=_/\(Ae H.tx i _ b).af=_;by_cases e:b=i
  ·subst e;rw[Ay];exact⟨rfl,rfl,rfl,rfl,rfl⟩
  ·rw[AF e];exact⟨rfl,rfl,rfl,rfl,rfl⟩
 | timed f d hs l=>exact h.timed a f d hs l
 | decide b f d q l hs I=>exact h.decide a b f d q l
 | commit f d hs l=>exact h.commit a f d hs l
 | came f d g hs q p=>exact h.came a f d g hs p
 | got f d hs t v q p u A=>exact h.locked a r f d hs v p u T2 A rfl
 | wait f d hs t v q p F u A=>exact h.locked a r f d hs v p u Jx A rfl
 | @tick s j hs C=>
  exact h.same (SiS.nd (H:=H) hs (E7 _).1 (E7 _).2.2.2.2 (by rw[(E7 _).2.1];exact VS _) (fun C=>⟨j,C,by rw[(E7 _).2.1];exact VS _⟩) (fun _=>(E7 _).2.1) _ H.net)
 | arrive g=>exact h.arrive a g
theorem SI.star (s:Af H H'):SI H G (fun _ _=>False)->Ag H B->H.m<=40->SI H' G (fun _ _=>False)/\Ag H' B:=by
 induction s with
 | refl=>exact fun h a _=>⟨h,a⟩
 | step s _ e=>exact fun h a d=>e (h.step a d s) (a.step s).1 (by rw[s.sm.m];exact d)
end
section
variable {H H':Hs} {G:Gh} {i s:Nat} {B:Int}
theorem no_gr {T:Tb} (g:GT T) (h:∀ x,(Ac T x).ws=[]) {tx o:Int} {x:Sx} : ¬Ez T tx o x:=fun e=>by
 obtain⟨_,m,d⟩:=Hh g e;unfold Wt at d;rw[h] at d;cases d
theorem qat {l:List Cm} (f:SP l) (p:∀ c∈l,(c.ag=2\/c.ag=3\/c.ag=4)/\D2 c):∀ (k:Nat) (H:Hs),(H.sh s).done+k=l.length->TI (H.sh s).tab (l.take (H.sh s).done)->
  (∀ a w,w∈((Hs.aI s l k H).tx a).af↔w∈(H.tx a).af)/\((∀ c∈l,c.ag=3)->(H.sh s).tab=(fun _=>B0)->((Hs.aI s l k H).sh s).tab=(fun _=>B0))
 | 0,H,_,_=>⟨fun _ _=>Yr,fun _ h=>h⟩
 | k+1,H,y,e=>by
  obtain⟨c,d⟩:∃ c,l[(H.sh s).done]? = Bs c:=⟨_,K0 (by omega)⟩
  rw[q46 rfl d];obtain⟨e1,z,t⟩:=q8x (H:=H) (s:=s) l (H.sh s).done c;have r:l.take ((H.sh s).done+1)=l.take (H.sh s).done++[c]:=by rw[VV,d];rfl
  obtain⟨u,x⟩:=p c (O0 d);have g:=qat f p k (H.taken s l (H.sh s).done c) (by rw[t];omega) (by
   rw[e1,t,r];exact e.step (f.pre (by rw[<- r];exact List.take_prefix _ _)) u)
  refine⟨fun a w=>(g.1 a w).trans ?_,fun q v=>g.2 q ?_⟩
  ·rw[q8w];exact⟨fun h=>h.1,fun h=>⟨h,fun _=>no_gr e.gt e.ws⟩⟩
  ·rw[e1,Up (.inl (q c (O0 d))),v];rfl
structure FixT (H H':Hs) (s:Nat):Prop where
 gt:GT (H'.sh s).tab
 ws:∀ x,(Ac (H'.sh s).tab x).ws=[]
 two:s=2->∀ x,(H'.sh s).tab x=B0
 dn:∀ j,H'.head s=Bs j->(H'.sh s).done=(lg H s j).length
 cv:∀ j,H'.head s=Bs j->EO (H'.sh s).tab (lg H s j) (fun _=>False)/\EP (H'.sh s).sto (lg H s j)
 af:∀ a w,w∈(H'.tx a).af↔w∈(H.tx a).af
 src:∀ x o m,(Ac (H'.sh s).tab x).h o=Bs m->∃ j,H'.head s=Bs j/\S0 (lg H s j) o/\∃ w∈lg H s j,w.ag=2/\w.tx=o
theorem SI.fixT (h:SI H G (fun _ _=>False)) (a:Ag H B) (S:B<=1000000) (hs:s<3) (R:(H.sh s).aj H.n≠[]):FixT H (H.fix s) s:=by
 have A:=(a.fix S hs).2.2.2;have U:wrap64 ((H.sh s).ab+1)=(H.sh s).ab+1:=IntWalk.wrap64_in _ ⟨by have:=a.ep s hs;omega,by have:=a.ep s hs;omega⟩;have r:=A.lg;have p:=A.lv;have I:H.fix s=H.aW s:=qcj R;rw[I] at r p ⊢;clear I A;unfold Hs.aW at r p ⊢;simp only at r p ⊢;generalize O:H.al s { H.sh s with ab:=wrap64 ((H.sh s).ab+1),size:=((H.sh s).aj H.n).length } = H1 at *;have y:=q69 s ((H.sh s).ids H.n) ((H.sh s).aj H.n) H1;have D:H1.tx=H.tx:=by rw[<- O];rfl
 generalize List.foldl (Hs.ay s ((H.sh s).ids H.n)) H1 ((H.sh s).aj H.n)=H2 at *;generalize hM:H2.al s { H2.sh s with tab:=fun _=>B0,sto:=fun _=>[],done:=0 } = M at *;have d:(M.sh s).tab=(fun _=>B0)/\(M.sh s).sto=(fun _=>[])/\(M.sh s).done=0:=by rw[<- hM,Cj];exact⟨rfl,rfl,rfl⟩
 have u:M.tx=H.tx:=by rw[<- hM];show H2.tx=_;rw[y.2.2.2.2,D]
 have k:=Bf.take M s;have N:(M.take s).head s=M.head s:=q6b k.n (k.ak s) (fun j=>by rw[k.nd];exact⟨rfl,rfl⟩);cases t:M.head s with
 | none=>
  have e:M.take s=M:=by unfold Hs.take;rw[t]
  rw[e];refine⟨by rw[d.1];exact GT.none_,fun x=>by rw[d.1];rfl,fun _ x=>by rw[d.1],fun j z=>absurd (t.symm.trans z) (by simp),fun j z=>absurd (t.symm.trans z) (by simp),fun b w=>by rw[u],fun x o m E=>by rw[d.1] at E;cases E⟩
 | some j=>
  have e:M.take s=Hs.aI s (lg M s j) ((lg M s j).length-(M.sh s).done) M:=by unfold Hs.take;rw[t];rfl
  have L:lg M s j=lg H s j:=by rw[<- k.lg];exact r s j
  have f:Lv H s j:=(p s j (by rw[a.c];exact hs)).1 (k.lv.2 (EY t).1);have C:=(h.wl s j hs f).1;have F:∀ c∈lg H s j,(c.ag=2\/c.ag=3\/c.ag=4)/\D2 c:=fun c J=>⟨(a.ag hs f J).1,(a.wf.nd s j (by rw[a.c];exact hs) f.1).log c J⟩
  rw[L,d.2.2] at e;have v:=Fj (s:=s) C F ((lg H s j).length-0) M (by rw[d.2.2];omega) (by rw[d.1,d.2.2];exact TI.nil) (by rw[d.2.1,d.2.2];exact EP.nil);have P:=qat (s:=s) C F ((lg H s j).length-0) M (by rw[d.2.2];omega) (by rw[d.1,d.2.2];exact TI.nil);have g:=N;rw[e] at g ⊢;refine⟨v.2.1.gt,v.2.1.ws,fun T x=>?_,fun q l=>?_,fun q l=>?_,fun b w=>by rw[<- u];exact P.1 b w,fun x o m E=>⟨j,g.trans t,(v.2.1.src x o m E).1,(v.2.1.src x o m E).2.imp fun w h=>⟨h.1,h.2.1,h.2.2.1⟩⟩⟩
  ·subst T;have:=P.2 (fun c J=>(a.bI.p2 j f c J).2.1) d.1;rw[this]
  ·rw[g,t] at l;injection l with l;subst l;exact v.1
  ·rw[g,t] at l;injection l with l;subst l;exact⟨v.2.1.cov,v.2.2⟩
theorem SI.fix (h:SI H G (fun _ _=>False)) (a:Ag H B) (hB:B<=1000000) (hs:s<3):SI (H.fix s) G (fun _ _=>False):=by
 by_cases Z:(H.sh s).aj H.n=[]
 ·rw[J5 Z];exact h
 ·have t:=h.fixT a hB hs Z;have f:=(a.fix hB hs).2.2.2;have T:((H.fix s).sh s).ab=(H.sh s).ab+1:=by
   rcases f.ab with ⟨_,e⟩|e
   ·exact absurd e Z
   ·exact e
  generalize H.fix s=H' at *;have d:∀ b,Ir H' b↔Ir H b:=fun b=>by unfold Ir;rw[f.m]
  have l:=f.tx;have z:∀ b,(H'.tx b).ai=(H.tx b).ai:=fun b=>Il (l b).2.2.1
  have F:∀ b x,Wr H' b x↔Wr H b x:=fun b x=>Wr.congr (l b).2.1
  have M:∀ b x,Cp H' G b x↔Cp H G b x:=fun b x=>Cp.congr (l b).2.1
  have U:∀ A x,AZ H' A x=AZ H A x:=fun A x=>Rp (fun b _=>Us (l b).1 (l b).2.1)
  have I:∀ k j,k<3->(Lv H' k j↔Lv H k j):=fun k j q=>f.lv k j (by rw[a.c];exact q)
  have S:∀ k,k≠s->H'.head k=H.head k:=fun k q=>q3h f.n (f.sh k q)
  have D:∀ b,Ir H b->(H.tx b).ad s≠Bs (H'.sh s).ab:=fun b p e=>by
   rw[T] at e;by_cases h2:s<2
   ·have:=h.se b p s (EZ.2 ⟨by omega,by rw[e];simp⟩) _ e;omega
   ·have:=(a.wf.tx b p.1 p.2).sh _ _ e;omega
  have a1:∀ w,Ir H w->BJ H w->BJ H' w:=fun w V hd=>by
   obtain⟨d1,k,d2,d3,d4⟩:=hd;have q:=DI d2;refine⟨(l w).2.2.2.2.trans d1,k,by rw[z];exact d2,?_,fun j y e=>?_⟩
   ·rw[(l w).2.2.1];by_cases e:k=s
    ·subst e;exact D w V
    ·rw[f.sh k e];exact d3
   ·rw[f.lg] at e;exact d4 j ((I k j (by omega)).1 y) e
  refine⟨fun k q=>?_,fun x=>?_,fun k j q y=>?_,fun k j q y c W a0=>?_,fun k j q y=>by rw[f.lg];exact h.wl k j q ((I k j q).1 y),fun k j q y=>?_,fun b p=>?_,fun b p k q e g=>?_,fun b k p q u g x r=>?_,fun b p L=>?_,fun b c p W N g=>by rw[(l b).2.2.2.2] at N;rw[(l b).2.2.2.2,(l c).2.2.2.2] at g;exact h.tu b c ((d b).1 p) ((d c).1 W) N g,fun b p=>by rw[(l b).1];exact h.st b ((d b).1 p),⟨h.en.1,fun b p=>by rw[(l b).1,d];exact h.en.2.1 b p,fun b p u=>by rw[(l b).1] at u;exact h.en.2.2 b ((d b).1 p) u⟩,fun t' w x L V R O p r X=>?_,fun v w x p q1 E tv tw=>?_,fun t' L x v hv=>?_,fun k q x o m P=>?_,fun b k p q u g x m r=>?_,fun b p x m r=>?_⟩
  ·by_cases e:k=s
   ·subst e;exact t.gt
   ·rw[f.sh k e];exact h.gt k q
  ·by_cases e:2=s
   ·subst e;exact t.two rfl x
   ·rw[f.sh 2 e];exact h.t2 x
  ·rw[f.lg];by_cases e:k=s
   ·subst e;exact t.dn j y
   ·rw[S k e] at y;rw[f.sh k e];exact h.dn k j q y
  ·rw[f.lg] at W;obtain⟨q1,E,q3⟩:=h.pw k j q ((I k j (by omega)).1 y) c W a0;rw[(l _).1,z];exact⟨q1,E,by unfold Bi.of;rw[(l _).2.1];exact q3⟩
  ·rw[f.lg];by_cases e:k=s
   ·subst e;exact t.cv j y
   ·rw[S k e] at y;rw[f.sh k e];exact h.cv k j q y
  ·rw[z,(l b).2.1];obtain⟨q1,E⟩:=h.wc b ((d b).1 p);exact⟨fun x r=>q1 x ((M b x).1 r),E⟩
  ·rw[z] at q;rw[(l b).2.2.1] at g;have:=h.se b ((d b).1 p) k q e g;by_cases J:k=s
   ·subst J;rw[T];omega
   ·rw[f.sh k J];exact this
  ·rw[(l b).1] at u;rw[(l b).2.2.1] at g;by_cases J:k=s
   ·subst J;exact absurd g (D b ((d b).1 p))
   ·rw[f.sh k J] at g ⊢;rw[F];exact h.ho b k ((d b).1 p) q u g x r
  ·rw[(l b).2.2.2.2] at L;rw[(l b).1,z];obtain⟨q1,E⟩:=h.tp b ((d b).1 p) L;exact⟨q1,fun k q j y=>by rw[f.lg];exact E k q j ((I k j (by have:=DI q;omega)).1 y)⟩
  ·rw[(l w).1] at O;rw[(l t').1] at p;exact a1 w ((d w).1 V) (h.dm t' w x ((d t').1 L) ((d w).1 V) R O p ((M t' x).1 r) ((F w x).1 X))
  ·rw[(l v).2.2.2.2] at tv ⊢;rw[(l w).2.2.2.2] at tw ⊢;exact h.tm v w x p ((F v x).1 q1) ((F w x).1 E) tv tw
  ·rw[(l t').1,U];obtain⟨q1,E⟩:=h.ri t' ((d t').1 L) x v hv;exact⟨q1,fun Y A C hE=>by rw[U];exact E Y A C hE⟩
  ·by_cases e:k=s
   ·subst e;unfold Wt at P;rw[t.ws] at P;cases P
   ·rw[f.sh k e] at P ⊢;rw[f.m,(l _).1,(l _).2.2.1];exact h.wt k q x o m P
  ·rw[(l b).1] at u;rw[(l b).2.2.1] at g;by_cases J:k=s
   ·subst J;exact absurd g (D b ((d b).1 p))
   ·rw[f.sh k J] at g ⊢;rw[t.af];exact h.ww b k ((d b).1 p) q u g x m r
  ·rw[z];exact h.wn b ((d b).1 p) x m ((t.af b _).1 r)
theorem SI.aE (h:SI H G (fun _ _=>False)) (a:Ag H B) (d:B<=1000000) (hs:s<3):SI (H.aE s) G (fun _ _=>False):=by
 unfold Hs.aE;split
 ·exact h
 ·exact h.fix a d hs
theorem SI.bY (h:SI H G (fun _ _=>False)) (a:Ag H B) (d:B<=999000):SI ([0,1,2].foldl Hs.aE H) G (fun _ _=>False):=by
 obtain⟨a1,_⟩:=a.aE (by omega) (s:=0) (by omega);obtain⟨a2,_⟩:=a1.aE (by omega) (s:=1) (by omega);exact((h.aE a (by omega) (by omega)).aE a1 (by omega) (by omega)).aE a2 (by omega) (by omega)
def PU (H:Hs) (i:Nat):Prop:=(H.tx i).state=1->∀ k∈(H.tx i).ai,(H.tx i).ad k=Bs (H.sh k).ab
def OP (H:Hs):Prop:=∀ i,Ir H i->PU H i
theorem PU.abort (h:PU H i) (b:Nat):PU (H.abort b) i:=fun hs k e=>by
 obtain⟨_,_,d⟩:=Nc H b;rw[(d i).1] at hs;split at hs
 ·omega
 ·rw[Il (d i).2.2.1] at e;rw[(d i).2.2.1,(qcp H b).ep];exact h hs k e
theorem PU.stale (h:PU H i) (b:Nat):PU (H.a5 b) i:=by
 unfold Hs.a5;split
 ·exact h.abort b
 ·exact h
theorem QX (H:Hs) (i:Nat):PU (H.a5 i) i:=by
 unfold Hs.a5;split
 ·intro hs;rw[((Nc H i).2.2 i).1,if_pos rfl] at hs;omega
 ·rename_i d;exact fun hs k f=>Wl (fun e=>d ⟨hs,k,f,e⟩)
theorem Fm:∀ (l:List Nat) (H:Hs),(∀ i,PU H i->PU (l.foldl Hs.a5 H) i)/\∀ i∈l,PU (l.foldl Hs.a5 H) i
 | [],H=>⟨fun _ h=>h,fun _ h=>(nomatch h)⟩
 | b::l,H=>by
  have d:=Fm l (H.a5 b);refine⟨fun i h=>d.1 i (h.stale b),fun i e=>?_⟩;rcases List.mem_cons.1 e with rfl|e
  ·exact d.1 i (QX H i)
  ·exact d.2 i e
theorem IW:∀ (l:List Nat) (H:Hs),(l.foldl Hs.a5 H).m=H.m
 | [],H=>rfl
 | b::l,H=>by
  have d:=IW l (H.a5 b);refine d.trans ?_;unfold Hs.a5;split
  ·exact(Nc H b).1.m
  ·rfl
theorem OP.ba (H:Hs):OP H.ba:=fun i d=>by
 refine(Fm (WG 1 H.m) H).2 i (List.mem_range'_1.2 ?_);have:=d.1;have e:i<=((WG 1 H.m).foldl Hs.a5 H).m:=d.2;rw[IW] at e;omega
theorem OP.step (h:OP H) (s:BZ H H'):OP H':=fun i E=>by
 have I:=s.sm.m;have D:Ir H i:=⟨E.1,by rw[<- I];exact E.2⟩
 have p:=h i D;have v:=s.up.ep;have d:(H'.tx i).state=(H.tx i).state->(H'.tx i).ad=(H.tx i).ad->PU H' i:=fun e1 A hs k g=>by
  rw[Il A] at g;rw[A,v];exact p (e1▸hs) k g
 have l:∀ q j c b,H'=(H.add q j c b).2->PU H' i:=fun q j c b e=>by
  subst e;exact d ((EW H q j c b).2.2.2.2 i).1 ((EW H q j c b).2.2.2.2 i).2.2.1
 cases s with
 | abort y u hs=>exact p.abort _
 | @tell f k kind y u g hs=>exact d ((KL H f kind k).2.2.2.2 i).1 ((KL H f kind k).2.2.2.2 i).2.2.1
 | prep=>exact l _ _ _ _ rfl
 | @place f k at_=>
  refine d (q1v H f k at_ i) ?_;show(Ae H.tx f _ i).ad=_;by_cases e:i=f
  ·subst e;rw[Ay]
  ·rw[AF e]
 | @timed f=>
  refine d (q4f H f i) ?_;unfold Hs.timed;split
  ·show(Ae H.tx f _ i).ad=_;by_cases e:i=f
   ·subst e;rw[Ay]
   ·rw[AF e]
  ·rfl
 | decide=>exact l _ _ _ _ rfl
 | @commit f=>
  intro hs k g;have hs:(Ae H.tx f _ i).state=1:=hs;by_cases e:i=f
  ·subst e;rw[Ay] at hs;have hs:(3:Int)=1:=hs;omega
  ·have g:k∈(Ae H.tx f _ i).ai:=g;rw[AF e] at hs g;show(Ae H.tx f _ i).ad k=_;rw[AF e];exact p hs k g
 | @came f q y u J C L M=>
  intro hs k g;have hs:(Ae H.tx f _ i).state=1:=hs;have g:k∈(Ae H.tx f _ i).ai:=g;show(Ae H.tx f _ i).ad k=Bs (H.sh k).ab;by_cases e:i=f
  ·subst e;rw[Ay] at hs g ⊢;show AG (H.tx i).ad q (H.sh q).ab k=_;unfold AG;by_cases A:k=q
   ·subst A;rw[if_pos rfl]
   ·rw[if_neg (by omega)];refine p C k (EZ.2 ⟨(EZ.1 g).1,?_⟩);have:=(EZ.1 g).2;have this:AG (H.tx i).ad q (H.sh q).ab k≠B0:=this;unfold AG at this;rw[if_neg (by omega)] at this;exact this
  ·rw[AF e] at hs g ⊢;exact p hs k g
 | @got f x mode=>exact d rfl rfl
 | @wait f x mode=>
  refine d ?_ ?_
  ·show(Ae H.tx f _ i).state=_;by_cases e:i=f
   ·subst e;rw[Ay];rfl
   ·rw[AF e]
  ·show(Ae H.tx f _ i).ad=_;by_cases e:i=f
   ·subst e;rw[Ay];rfl
   ·rw[AF e]
 | tick=>exact d rfl rfl
 | @arrive k m g=>
  cases z:Hs.node { H with net:=takeS H.net k } m.a4 with
  | none=>exact d (by rw[OG z]) (by rw[OG z])
  | some r=>
   obtain⟨s,j⟩:=r;rw[OH z];have e:=BF.take ((({ H with net:=takeS H.net k } : Hs).an s j (((H.sh s).nd j).step m).1).send (((H.sh s).nd j).step m).2) s;intro hs k' t;have ex:=e.tx i;rw[ex.1] at hs;rw[Il ex.2.2.1] at t;rw[ex.2.2.1];have:=p hs k' t;have F:=v k';rw[OH z] at F;show _=Bs _;rw[show((((({ H with net:=takeS H.net k } : Hs).an s j (((H.sh s).nd j).step m).1).send (((H.sh s).nd j).step m).2).take s).sh k').ab=(H.sh k').ab from F];exact this
theorem OP.star (s:Af H H'):OP H->OP H':=by
 induction s with
 | refl=>exact id
 | step s _ d=>exact fun h=>d (h.step s)
theorem Ag.cW (a:Ag H B) {k j:Nat} (l:k<2) (q:Lv H k j) {e:Int} (h:e=3\/e=4) (f:AP (lg H k j) e i):(H.tx i).state=e:=by
 obtain⟨c,f,e1,r⟩:=f;obtain⟨p,g⟩:=List.mem_iff_getElem?.1 f;obtain⟨_,d⟩:=a.bI.pl k l j q p c g;have t:stt H c.tx=(H.tx i).state:=by rw[r];rfl
 rcases d with d|d|d
 ·omega
 ·have:=d.2.1;omega
 ·have:=d.2;omega
theorem Mo (a:Ag H B) {k j q:Nat} (l:k<3) (r:H.head k=Bs j) (e:Lv H k q):lg H k q <+: lg H k j:=by
 obtain⟨f,g⟩:=EY r;have d:k<H.c:=by rw[a.c];exact l
 obtain⟨L,p,at_⟩:=a.ch.at_ d f;rw[at_.head] at g;have h:p=0:=by simpa using g
 subst h;exact a.ch.pre k d j q (at_.first e) f e
theorem SI.c9 (h:SI H G (fun _ _=>False)) {k j w:Nat} (l:k<2) (p:Lv H k j) (g:AP (lg H k j) 2 w):∃ c∈lg H k j,c.ag=2/\c.tx=(w:Int)/\c.aa=(H.tx w).of k:=by
 obtain⟨c,e,e1,f⟩:=g;obtain⟨_,_,d⟩:=h.pw k j l p c e e1;rw[f,show((w:Int).toNat)=w by omega] at d;exact⟨c,e,e1,f,d⟩
theorem G7 {t:Bi} {k:Nat} {p:Pr} : p∈t.of k↔p∈t.aa/\Ad (sx p.key)=k:=by
 unfold Bi.of;rw[YA];simp
theorem SI.touch (h:SI H G (fun _ _=>False)) (a:Ag H B) {x:Sx} {j:Nat} (C:H.head (Ad x)=Bs j) (I:Hd (H.sh (Ad x)).tab x i 1) {w:Nat} (v:Ir H w) (F:i≠w) (hs:(H.tx w).state=2) (u:Wr H w x):BJ H w:=by
 have g:=KM x;obtain⟨t,_⟩:=EY C;have k:∀ (q:Nat),Hd (H.sh (Ad x)).tab x q 2->q≠w:=fun q z e=>by
  subst e;have:=Hd.dr (h.gt _ (by omega)) z I;omega
 obtain⟨p,A,d⟩:=u;by_cases f:AP (lg H (Ad x) j) 2 w
 ·exfalso;obtain⟨c,r,e1,D,J⟩:=h.c9 g t f;have E:S0 (lg H (Ad x) j) c.tx:=by
   rw[D];exact⟨f,fun e=>by have:=a.cW g t (.inl rfl) e;omega,fun e=>by have:=a.cW g t (.inr rfl) e;omega⟩
  have:=(h.cv _ j g C).1 c r e1 E (fun e=>e) p (by rw[J];exact G7.2 ⟨A,by rw[d]⟩);rw[d,D] at this;exact k w this rfl
 ·have y:(H.tx w).ad (Ad x)≠Bs (H.sh (Ad x)).ab:=fun e=>k w ((h.ho w _ v g (.inr hs) e x rfl).1 ⟨p,A,d⟩) rfl
  have l:=(h.wc w v).1 x (.inl ⟨p,A,d⟩);refine⟨Wl (fun e=>f ((h.tp w v e).2 _ l j t)),Ad x,l,y,fun q z r=>f (r.mono (fun c r=>(Mo a (by omega) C z).subset r))⟩
def fnd (v:Option Sx):Sx×Bool:=match v with
 | none=>([],Jx)
 | some v=>(v,T2)
def Cw (H:Hs) (x:Sx) (W:Nat):Prop:=(H.tx W).state=3/\Wr H W x
theorem Sy {x:Sx} {W:Nat} (h:¬Cw H x W):Hp H x W=B0:=by
 unfold Hp;split
 ·rename_i e;exact q5d.2 (fun p d f=>h ⟨e,p,d,f⟩)
 ·rfl
theorem Nt (H:Hs) (x:Sx):∀ (n:Nat) (E:List Nat),E.length=n->((∀ W∈E,¬Cw H x W)/\AZ H E x=B0)\/∃ A W C,E=A++W::C/\Cw H x W/\(∀ V∈C,¬Cw H x V)/\AZ H E x=(Is (H.tx W).aa x).getD B0
 | 0,E,f=>by
  have:E=[]:=List.eq_nil_of_length_eq_zero f;subst this;exact .inl ⟨fun _ h=>(nomatch h),rfl⟩
 | n+1,E,f=>by
  rcases YG E with rfl|⟨l,W,rfl⟩
  ·simp at f
  ·rw[YH] at f ⊢;have q:l.length=n:=by simpa using f
   by_cases d:Cw H x W
   ·refine .inr ⟨l,W,[],rfl,d,fun _ h=>(nomatch h),?_⟩;rw[q45];unfold Hp;rw[if_pos d.1];cases e:Is (H.tx W).aa x with
    | none=>
     obtain⟨p,y,D⟩:=d.2;exact absurd D (q5d.1 e p y)
    | some v=>rfl
   ·have u:AZ H (l++[W]) x=AZ H l x:=by rw[q45,Sy d];rfl
    rcases Nt H x n l q with ⟨t,r⟩|⟨A,V,C,rfl,t,r,z⟩
    ·refine .inl ⟨fun V g=>?_,by rw[u];exact r⟩;rcases List.mem_append.1 g with g|g
     ·exact t V g
     ·rw[List.mem_singleton.1 g];exact d
    ·refine .inr ⟨A,V,C++[W],by simp,t,fun U k=>?_,by rw[u];exact z⟩;rcases List.mem_append.1 k with k|k
     ·exact r U k
     ·rw[List.mem_singleton.1 k];exact d
theorem Ep {d:List Pr} (h:(d.map (·.key)).Nodup) {p:Pr} (f:p∈d):Is d (sx p.key)=Bs (if p.gone then B0 else Bs (sx p.val)):=by
 unfold Is;have:d.find? (fun q=>sx q.key == sx p.key)=Bs p:=by
  induction d with
  | nil=>cases f
  | cons q d k=>
   rw[List.map_cons,YZ] at h;rcases List.mem_cons.1 f with rfl|f
   ·simp
   ·have g:(sx q.key == sx p.key)=Jx:=by
     rw[beq_eq_false_iff_ne];intro e;exact h.1 (List.mem_map.2 ⟨p,f,(q8z e).symm⟩)
    rw[List.find?_cons,g];exact k h.2 f
 rw[this];rfl
theorem SI.sv (h:SI H G (fun _ _=>False)) (a:Ag H B) (hi:Ir H i) (aa:(H.tx i).state=1) {x:Sx} {j:Nat} (hh:H.head (Ad x)=Bs j) (hd:Hd (H.sh (Ad x)).tab x i 1) :
  BL (Cf ((H.sh (Ad x)).sto x) 1099511627776)=fnd (AZ H G.E x):=by
 have z:=KM x;obtain⟨u,_⟩:=EY hh;obtain⟨ct,cs⟩:=h.cv _ j z hh;have hA:∀ W∈G.E,Cw H x W->∃ v∈(H.sh (Ad x)).sto x,v.t=(H.tx W).ae:=fun W hW E=>by
  obtain⟨p,hp,d⟩:=E.2;have g:=(h.en.2.1 W hW).1;have ht:(H.tx W).ae≠0:=by have:=a.bI.ct W g.1 g.2 E.1;omega
  have a5:=(h.wc W g).1 x (.inl E.2);have P:=(h.tp W g ht).2 _ a5 j u;have a6:AP (lg H (Ad x) j) 3 W:=Wl (fun a4=>by
   obtain⟨c,a7,e1,e2,e3⟩:=h.c9 z u P;have ho:S0 (lg H (Ad x) j) c.tx:=by
    rw[e2];exact⟨P,a4,fun e=>by have:=a.cW z u (.inr rfl) e;have:=E.1;omega⟩
   have:=ct c a7 e1 ho (fun e=>e) p (by rw[e3];exact G7.2 ⟨hp,by rw[d]⟩);rw[d,e2] at this;have e4:=Hd.dr (h.gt _ (by omega)) this hd;have e5:W=i:=by omega
   have:=E.1;rw[e5] at this;omega)
  obtain⟨cc,R,f1,f2⟩:=a6;obtain⟨q,N⟩:=List.mem_iff_getElem?.1 R;obtain⟨_,l⟩:=a.bI.pl _ z j u q cc N;rcases l with l|⟨_,_,g3,_,g5⟩|l
  ·omega
  ·obtain⟨w,I,Z,Y⟩:=g5;have a2:=WB I;obtain⟨_,_,F⟩:=h.pw _ j z u w a2 Z;rw[Y,f2,show((W:Int).toNat)=W by omega] at F;obtain⟨v,hv,e⟩:=cs.all q cc N f1 w I Z Y p (by rw[F];exact G7.2 ⟨hp,by rw[d]⟩);rw[d] at hv;refine⟨v,hv,e.trans (g3.trans ?_)⟩;rw[f2];rfl
  ·omega
 have hB:∀ v∈(H.sh (Ad x)).sto x,∃ W∈G.E,Cw H x W/\∃ p∈(H.tx W).aa,sx p.key=x/\v=vxP (H.tx W).ae p:=fun v hv=>by
  obtain⟨c,w,p,c1,c2,Z,Y,w3,p1,p2,p3⟩:=cs.src x v hv;obtain⟨q,N⟩:=List.mem_iff_getElem?.1 c1;obtain⟨hr,l⟩:=a.bI.pl _ z j u q c N;rcases l with l|⟨_,g2,g3,_,_⟩|l
  ·omega
  ·obtain⟨_,_,F⟩:=h.pw _ j z u w Z Y;rw[w3] at F;rw[F] at p1;have O:=(G7.1 p1).1;have g:Ir H c.tx.toNat:=⟨by omega,by omega⟩
   refine⟨c.tx.toNat,h.en.2.2 _ g (.inr g2),⟨g2,p,O,p2⟩,p,O,p2,?_⟩;rw[p3,g3];rfl
  ·omega
 have r:=cs.sorted x;rcases Nt H x _ G.E rfl with ⟨X,h2⟩|⟨A,W,C,hE,X,h2,l⟩
 ·have hg:Cf ((H.sh (Ad x)).sto x) 1099511627776=B0:=(Pw r).2 (fun y hy=>by
   obtain⟨W,hW,E,_⟩:=hB y hy;exact absurd E (X W hW))
  rw[hg,h2];rfl
 ·have T:W∈G.E:=by rw[hE];simp
  have f:=(h.en.2.1 W T).1;have M:(H.tx W).ae≠0:=by have:=a.bI.ct W f.1 f.2 X.1;omega
  obtain⟨v0,L,t⟩:=hA W T X;obtain⟨W',a8,ad,p,hp,d,J⟩:=hB v0 L;have S:=(h.en.2.1 W' a8).1;have e:W=W':=h.tu W W' f S M (by rw[<- t,J];rfl);subst e;have ac:=a.wf.cL W f.1 f.2;have ae:=a.wf.aY;have hg:Cf ((H.sh (Ad x)).sto x) 1099511627776=Bs v0:=(F9 r).2 ⟨L,by rw[t];omega,fun y hy _=>by
   obtain⟨V,k,D,q,N,ab,a0⟩:=hB y hy;have a1:y.t=(H.tx V).ae:=by rw[a0];rfl
   rw[a1,t];by_cases e:V=W
   ·rw[e];exact Xk _
   ·have U:=(h.en.2.1 V k).1;have a3:(H.tx V).ae≠0:=by have:=a.bI.ct V U.1 U.2 D.1;omega
    have a9:V∈A:=by
     rw[hE] at k;rcases List.mem_append.1 k with k|k
     ·exact k
     ·rcases List.mem_cons.1 k with k|k
      ·exact absurd k e
      ·exact absurd D (h2 V k)
    have:=h.tm V W x ⟨A,C,hE,a9⟩ D.2 X.2 a3 M;omega⟩
  rw[hg,l];have I:=Ep (h.wc W f).2 hp;rw[d] at I;rw[I,J];unfold vxP BL fnd;cases p.gone <;> simp
theorem MS (H:Hs) (b k:Nat):(H.abort b).head k=H.head k:=by
 rw[Tu];have f:∀ (ks:List Nat) (H:Hs),(telld H b 4 ks).head k=H.head k:=fun ks=>by
  induction ks with
  | nil=>exact fun _=>rfl
  | cons q ks e=>
   intro H;refine(e (H.a7 b 4 q)).trans ?_;cases d:H.head q with
   | none=>rw[TC d]
   | some j=>
    rw[TD d];split
    ·exact q8m H q j _ Jx k
    ·rfl
 refine(f _ _).trans ?_;rw[Fz b _ _ (q3q _)];exact q3h rfl rfl
inductive DQ (b:Int):Tb->Tb->Prop where
 | refl (T:Tb):DQ b T T
 | step {T T':Tb} (h:DQ b (Bh T b) T'):DQ b T T'
theorem DQ.trans {b:Int} {T T' d:Tb} (h:DQ b T T') (k:DQ b T' d):DQ b T d:=by
 induction h with
 | refl=>exact k
 | step _ e=>exact .step (e k)
theorem qco (H:Hs) {q j:Nat} (c:Cm) (b:Bool) {k:Nat} (d:k≠q):((H.add q j c b).2.sh k).tab=(H.sh k).tab:=by rw[Hz H q j c b d]
theorem DQ.wd {b:Int} {T T':Tb} (h:DQ b T T'):GT T->∀ {x:Sx} {o m:Int},o≠b->(Wt T x o m\/Hd T x o m)->(Wt T' x o m\/Hd T' x o m):=by
 induction h with
 | refl=>exact fun _ _ _ _ _ h=>h
 | @step T T' h f=>
  intro g x o m d e;refine f (g.rel b) d ?_;rcases e with e|e
  ·rcases q6o g e d with q|q
   ·exact .inl q.1
   ·exact .inr q.2.1
  ·exact .inr (e.rel g d)
theorem Of {ex:Nat->Int->Prop} (h:SI H G ex) (l:Wf H) (g:Dt H) (k:Nat) {q:Nat} (p:q<2):DQ (i:Int) (H.sh k).tab ((H.a7 i 4 q).sh k).tab:=by
 cases d:H.head q with
 | none=>rw[TC d];exact .refl _
 | some j=>
  rw[TD d];split
  ·by_cases e:k=q
   ·subst e;have f:=q8n (b:=Jx) (c:=tellC H i 4) d (h.room g l.bC (by omega) d _ _) (h.dn k j (by omega) d);rw[f.tab,Up (.inr rfl)];exact .step (.refl _)
   ·rw[qco H _ _ e];exact .refl _
  ·exact .refl _
theorem Fi (d:1<=i) (k:Nat):∀ (ks:List Nat) {H:Hs} {ex:Nat->Int->Prop},SI H G ex->Wf H->Dt H->H.c=3->i<=H.m->(∀ q∈ks,q<2)->(H.tx i).state=4->DQ (i:Int) (H.sh k).tab ((telld H i 4 ks).sh k).tab
 | [],_,_,_,_,_,_,_,_,_=>.refl _
 | q::ks,H,ex,h,wf,lgi,hc,hi,hk,hs=>by
  have e:=KL H i 4 q;have f:=hk q VL;exact(Of h wf lgi k f).trans (Fi d k ks (h.a7 wf lgi hc d hi f (.inr ⟨rfl,hs⟩)) (wf.a7 d hi (by omega) _) (lgi.a7 d hi f (.inr ⟨rfl,hs⟩)) (e.2.1.trans hc) (by rw[e.2.2.1];exact hi) (fun x g=>hk x (VM _ g)) (by rw[(e.2.2.2.2 i).1];exact hs))
theorem SI.cK (h:SI H G (fun _ _=>False)) (z:Wf H) (l:Dt H) (F:H.c=3) (v:1<=i) (t:i<=H.m) (hs:(H.tx i).state=1\/((H.tx i).state=2/\(H.tx i).ae=0)) (k:Nat):DQ (i:Int) (H.sh k).tab ((H.abort i).sh k).tab:=by
 rw[Tu];have I:=h.cB v t hs;have d:=Rm i (H.tx i).ai (H.aq i);have g:Wf (reld (H.aq i) i (H.tx i).ai):=(z.aq v t).cF i _ (fun k E=>by show k<H.c;have:=DI E;omega);have p:((reld (H.aq i) i (H.tx i).ai).tx i).state=4:=by
  rw[(d.2.2.2.2 i).1];show(Ae H.tx i _ i).state=4;rw[Ay]
 have u:((reld (H.aq i) i (H.tx i).ai).tx i).ai=(H.tx i).ai:=Il (by rw[(d.2.2.2.2 i).2.2.1];show(Ae H.tx i _ i).ad=_;rw[Ay]);have f:Dt (reld (H.aq i) i (H.tx i).ai):=by
  have t1:Bu H (H.aq i):=by
   refine⟨L1 _,fun a _ _ e=>?_,fun a _ _ e=>?_,fun a _ _ e=>?_⟩
   ·show(Ae H.tx i _ a).state=_;by_cases d:a=i
    ·subst d;rw[e] at hs;rcases hs with h|⟨h,_⟩ <;> cases h
    ·rw[AF d];exact e
   ·show(Ae H.tx i _ a).state=_;by_cases d:a=i
    ·subst d;rw[Ay]
    ·rw[AF d];exact e
   ·show(Ae H.tx i _ a).ae=_;by_cases d:a=i
    ·subst d;rw[Ay]
    ·rw[AF d]
  have A:Bu (H.aq i) (reld (H.aq i) i (H.tx i).ai):=Bu.of d.2.2.1 (fun a=>⟨(d.2.2.2.2 a).1,(d.2.2.2.2 a).2.2.2.2⟩);have r:AS H (reld (H.aq i) i (H.tx i).ai):=fun a J x e=>by
   rw[(d.2.2.2.2 a).1] at e;have e:(Ae H.tx i _ a).state=3:=e;refine⟨by rw[d.2.2.1] at x;exact x,?_⟩;by_cases y:a=i
   ·subst y;rw[Ay] at e;cases e
   ·rw[AF y] at e;exact e
  exact l.sub (t1.trans A) r (BO.same ((Bf.aw H i _).trans (q4k i _ _)))
 have C:DQ (i:Int) (H.sh k).tab ((reld (H.aq i) i (H.tx i).ai).sh k).tab:=by
  rw[q98 i _ _ (q3q _)];split
  ·exact .step (.refl _)
  ·exact .refl _
 refine C.trans ?_;show DQ _ _ ((Go.Proofs.YtccahlhdifadfaaGreatDoor.telld _ i 4 _).sh k).tab;rw[u];exact Fi v k _ I g f (d.1.trans F) (by rw[d.2.2.1];exact t) (fun q D=>DI D) p
theorem q8r {x:Sx} {m:Int} (k:Nat) (t:k<3):∀ (l:List Int) {H:Hs},SI H G (fun _ _=>False)->Ag H B->H.m<=40->(∀ o∈l,o≠(i:Int))->(Wt (H.sh k).tab x i m\/Hd (H.sh k).tab x i m)->
  (Wt ((woundd H l).sh k).tab x i m\/Hd ((woundd H l).sh k).tab x i m)/\((woundd H l).tx i).state=(H.tx i).state/\((woundd H l).tx i).ad=(H.tx i).ad/\((woundd H l).tx i).aa=(H.tx i).aa/\((woundd H l).sh k).ab=(H.sh k).ab/\(woundd H l).head k=H.head k
 | [],_,_,_,_,_,p=>⟨p,rfl,rfl,rfl,rfl,rfl⟩
 | o::l,H,h,a,h40,hl,p=>by
  have d:∀ H2:Hs,H2=H.aL o->(SI H2 G (fun _ _=>False)/\Ag H2 B/\H2.m=H.m)/\((Wt (H2.sh k).tab x i m\/Hd (H2.sh k).tab x i m)/\(H2.tx i).state=(H.tx i).state/\(H2.tx i).ad=(H.tx i).ad/\(H2.tx i).aa=(H.tx i).aa/\(H2.sh k).ab=(H.sh k).ab/\H2.head k=H.head k):=fun H2 e=>by
   subst e;have st:=qaj a.wf (H:=H) o;have g:=SI.star st h a h40;refine⟨⟨g.1,g.2,st.sm.m⟩,?_⟩;unfold Hs.aL;split
   ·rename_i v;have f:=(Nc H o.toNat).2.2 i;have r:i≠o.toNat:=fun e=>hl o VL (by omega)
    refine⟨(h.cK a.wf a.bI a.c (by omega) (by omega) (.inl v.2.2) k).wd (h.gt k t) (by have:=hl o VL;omega) p,by rw[f.1,if_neg r],f.2.2.1,f.2.1,(qcp H _).ep k,MS H _ k⟩
   ·exact⟨p,rfl,rfl,rfl,rfl,rfl⟩
  obtain⟨⟨A,z,y⟩,J,I,F,E,D,C⟩:=d _ rfl;obtain⟨e1,P,O,N,M,L⟩:=q8r k t l A z (by rw[y];exact h40) (fun q u=>hl q (VM _ u)) J;exact⟨e1,P.trans I,O.trans F,N.trans E,M.trans D,L.trans C⟩
theorem JC (H:Hs) (i s:Nat) (x:Sx) (mode:Int) (k:Nat):(H.aX i s x mode).head k=H.head k:=by
 have hs:∀ q,((H.aX i s x mode).sh q).ak=(H.sh q).ak/\((H.aX i s x mode).sh q).nd=(H.sh q).nd:=fun q=>by
  show(Ae H.sh s { H.sh s with tab:=An (H.sh s).tab i x mode } q).ak=_/\(Ae H.sh s { H.sh s with tab:=An (H.sh s).tab i x mode } q).nd=_;by_cases e:q=s
  ·subst e;rw[Ay];exact⟨rfl,rfl⟩
  ·rw[AF e];exact⟨rfl,rfl⟩
 exact q6b rfl (hs k).1 (fun j=>by rw[(hs k).2];exact⟨rfl,rfl⟩)
structure LkOk (H H':Hs) (id:Int) (x:Sx) (mode:Int):Prop where
 ix:∃ i:Nat,id=i/\Ir H i/\(H'.tx i).state=1/\(H'.tx i).ad (Ad x)=Bs (H'.sh (Ad x)).ab/\H'.head (Ad x)≠B0/\Hd (H'.sh (Ad x)).tab x i mode/\(H'.tx i).aa=(H.tx i).aa
theorem KR {h:Int->Option Int} {tx mode o:Int} (d:o∈EV h tx mode):tx<o:=by
 unfold EV at d;have:=(List.mem_filter.1 d).2;simp only[decide_eq_true_eq] at this;exact this.1
theorem SI.cg (h:SI H G (fun _ _=>False)) (a:Ag H B) (z:H.m<=40) {id:Int} {x:Sx} {mode:Int} (A:x∈names) (hm:BW mode) (d:(H.lock id x mode).1=0):LkOk H (H.lock id x mode).2 id x mode:=by
 have E:=KM x;by_cases hr:id<1\/H.m<id
 ·rw[q1l hr] at d;cases d
 ·obtain⟨i,rfl⟩:∃ i:Nat,id=i:=⟨id.toNat,by omega⟩
  have k:1<=i:=by omega
  have g:i<=H.m:=by omega
  by_cases hs:(H.tx i).state=1
  ·by_cases t:H.head (Ad x)=B0
   ·rw[q6v k g hs (KJ A) t] at d;cases d
   ·by_cases l:Um H i (Ad x)
    ·rw[q5m k g hs (KJ A) t l] at d;cases d
    ·have T:(H.tx i).ad (Ad x)=B0\/(H.tx i).ad (Ad x)=Bs (H.sh (Ad x)).ab:=by
      cases e:(H.tx i).ad (Ad x) with
      | none=>exact .inl rfl
      | some v=>exact .inr (by rw[Wl (fun h=>l ⟨v,e,h⟩)])
     by_cases y:CM (H.tx i).af x=T2
     ·rw[q5k k g hs (KJ A) t l y] at d;cases d
     ·have y:CM (H.tx i).af x=Jx:=by simpa using y
      have F:=BZ.came k g E hs t T;have X:=h.step a z F;have J:=(a.step F).1;have c1:((H.came i (Ad x)).tx i).state=1:=by show(Ae H.tx i _ i).state=1;rw[Ay];exact hs
      have c2:((H.came i (Ad x)).tx i).ad (Ad x)=Bs (H.sh (Ad x)).ab:=by
       show(Ae H.tx i _ i).ad _=_;rw[Ay];show AG _ _ _ _=_;unfold AG;rw[if_pos rfl]
      have c3:((H.came i (Ad x)).tx i).aa=(H.tx i).aa:=by show(Ae H.tx i _ i).aa=_;rw[Ay]
      have c4:CM ((H.came i (Ad x)).tx i).af x=Jx:=by show CM (Ae H.tx i _ i).af x=Jx;rw[Ay];exact y
      have c5:(H.came i (Ad x)).head (Ad x)=H.head (Ad x):=rfl;have p:(H.came i (Ad x)).m=H.m:=rfl;rw[qc9 k g hs (KJ A) t l y] at d ⊢;generalize hK:H.came i (Ad x)=K at *;have Z:(K.sh (Ad x)).ab=(H.sh (Ad x)).ab:=by rw[<- hK];rfl
      by_cases q:CC (Ac (K.sh (Ad x)).tab x).ws i=T2
      ·rw[q3y q] at d;cases d
      ·have q:CC (Ac (K.sh (Ad x)).tab x).ws i=Jx:=by simpa using q
       by_cases u:As (Ac (K.sh (Ad x)).tab x).h i mode (Ac (K.sh (Ad x)).tab x).ws=T2
       ·rw[q5o q u];refine⟨i,rfl,⟨k,g⟩,c1,?_,?_,?_,c3⟩
        ·show(K.tx i).ad _=Bs ((K.al _ _).sh _).ab;rw[Cj,c2,Z]
        ·show(K.aX i (Ad x) x mode).head _≠B0;rw[JC,c5];exact t
        ·show Hd ((K.al _ _).sh _).tab _ _ _;rw[Cj];exact Ns q u
       ·have u:As (Ac (K.sh (Ad x)).tab x).h i mode (Ac (K.sh (Ad x)).tab x).ws=Jx:=by simpa using u
        by_cases Y:(Ac (K.sh (Ad x)).tab x).ws.length=50
        ·rw[q4p q u Y] at d;cases d
        ·rw[q3x q u Y] at d ⊢;have D:=BZ.wait (H:=K) k (by rw[p];exact g) c1 A hm (by rw[c5];exact t) (by rw[c2,Z]) c4 q u;have I:=X.step J (by rw[p];exact z) D;have f:=(J.step D).1;generalize O:(K.aX i (Ad x) x mode).aN i x mode=L at *;have N:(L.tx i).state=1/\(L.tx i).ad=(K.tx i).ad/\(L.tx i).aa=(K.tx i).aa:=by
          rw[<- O];show(Ae K.tx i _ i).state=1/\(Ae K.tx i _ i).ad=_/\(Ae K.tx i _ i).aa=_;rw[Ay];exact⟨c1,rfl,rfl⟩
         have l2:(L.sh (Ad x)).tab=An (K.sh (Ad x)).tab i x mode/\(L.sh (Ad x)).ab=(K.sh (Ad x)).ab:=by
          rw[<- O];show((K.al _ _).sh _).tab=_/\((K.al _ _).sh _).ab=_;rw[Cj];exact⟨rfl,rfl⟩
         have l3:L.head (Ad x)=K.head (Ad x):=by
          rw[<- O];exact JC K i _ x mode _
         have l4:L.m=K.m:=by rw[<- O];rfl
         have P:Wt (L.sh (Ad x)).tab x i mode:=by rw[l2.1];exact FV q u Y
         have r:L.m<=40:=by rw[l4,p];exact z
         have R:∀ o∈EV (Ac (K.sh (Ad x)).tab x).h i mode,o≠(i:Int):=fun o ho=>by have:=KR ho;omega
         obtain⟨e1,e2,e3,e4,e5,e6⟩:=q8r (i:=i) (Ad x) (by omega) _ I f r R (.inl P);have W:=(SI.star (q4e (EV (Ac (K.sh (Ad x)).tab x).h i mode) f.wf f.c) I f r).1;have V:=(q4e (EV (Ac (K.sh (Ad x)).tab x).h i mode) f.wf f.c).sm.m;have d:(if CM ((woundd L (EV (Ac (K.sh (Ad x)).tab x).h i mode)).tx i).af x=T2 then(11:Int) else 0)=0:=d;show LkOk H (woundd L (EV (Ac (K.sh (Ad x)).tab x).h i mode)) i x mode;generalize woundd L (EV (Ac (K.sh (Ad x)).tab x).h i mode)=M at *;have S:CM (M.tx i).af x=Jx:=by
          cases e:CM (M.tx i).af x with
          | false=>rfl
          | true=>rw[e] at d;simp at d
         have C:(M.tx i).ad (Ad x)=Bs (M.sh (Ad x)).ab:=by rw[e3,N.2.1,c2,e5,l2.2,Z]
         have U:¬Wt (M.sh (Ad x)).tab x i mode:=fun y=>by
          have:=(W.ww i (Ad x) ⟨k,by rw[V,l4,p];exact g⟩ E (e2.trans N.1) C x mode rfl).2 y;have:CM (M.tx i).af x=T2:=qal.2 (List.mem_map.2 ⟨_,this,rfl⟩);rw[S] at this;cases this
         exact⟨i,rfl,⟨k,g⟩,e2.trans N.1,C,by rw[e6,l3,c5];exact t,e1.resolve_left U,e4.trans (N.2.2.trans c3)⟩
  ·rw[q5l k g hs] at d;cases d
end
section
variable {H H':Hs} {G:Gh} {B:Int} {i:Nat}
theorem SI.net (h:SI H G (fun _ _=>False)) (n:Bk):SI { H with net:=n } G (fun _ _=>False):=
 h.same ⟨rfl,fun _ _ _ e=>e,fun _ _ _ e=>e,fun _ _ _ _=>VS _,fun _ j _ e=>⟨j,e,VS _⟩,fun _ _ _ _=>rfl,fun _ _=>⟨rfl,rfl,rfl,rfl⟩,fun _=>⟨rfl,rfl,rfl,rfl,rfl⟩⟩
theorem OP.net (h:OP H) (n:Bk):OP { H with net:=n }:=fun i d=>h i d
theorem Ag.txLog (a:Ag H B) {k j:Nat} (e:k<2) (f:Lv H k j) {c:Cm} (g:c∈lg H k j):1<=c.tx/\c.tx<=H.m:=by
 obtain⟨p,d,rfl⟩:=List.getElem_of_mem g;exact(a.bI.pl k e j f p _ (K0 d)).1
theorem q7b (H:Hs) {i:Nat} (h:i≠H.m+1):H.begin.tx i=H.tx i:=AF h _
theorem qab (H:Hs):H.begin.tx (H.m+1)=Bm:=Ay _ _ _
theorem SI.begin (h:SI H G (fun _ _=>False)) (a:Ag H B) (hr:G.rd (H.m+1)=[]):SI H.begin G (fun _ _=>False):=by
 have E:=qab H;have r:=fun i=>q7b H (i:=i)
 have S:∀ x,¬Wr H.begin (H.m+1) x:=fun x ⟨p,hp,_⟩=>by rw[E] at hp;cases hp
 have ht:∀ x,¬Cp H.begin G (H.m+1) x:=fun x e=>by
  rcases e with e|⟨v,e⟩
  ·exact S x e
  ·rw[hr] at e;cases e
 have F:∀ i x,i≠H.m+1->(Wr H.begin i x↔Wr H i x):=fun i x e=>Wr.congr (by rw[r i e])
 have O:∀ i x,i≠H.m+1->(Cp H.begin G i x↔Cp H G i x):=fun i x e=>Cp.congr (by rw[r i e])
 have q:∀ i,Ir H.begin i->i≠H.m+1->Ir H i:=fun i f e=>⟨f.1,by have:i<=H.m+1:=f.2;omega⟩
 have N:∀ i,Ir H i->Ir H.begin i/\i≠H.m+1:=fun i f=>⟨⟨f.1,by have:=f.2;show i<=H.m+1;omega⟩,by have:=f.2;omega⟩
 have Z:∀ i∈G.E,i≠H.m+1:=fun i f=>(N i (h.en.2.1 i f).1).2
 have P:∀ A x,(∀ i∈A,i∈G.E)->AZ H.begin A x=AZ H A x:=fun A x hA=>Rp (fun i f=>Us (by rw[r i (Z i (hA i f))]) (by rw[r i (Z i (hA i f))]))
 have Y:∀ i,i≠H.m+1->BJ H i->BJ H.begin i:=fun i e hd=>hd.mono (by rw[r i e]) (by rw[r i e]) (fun _ _=>rfl) (fun k j _ L e=>⟨j,L,e⟩)
 refine⟨h.gt,h.t2,h.dn,fun k j D L c hc T=>?_,h.wl,h.cv,fun i f=>?_,fun i f k D e y=>?_,fun i k f D hs y x u=>?_,fun i f l=>?_,fun i j f L l=>?_,fun i f=>?_,⟨h.en.1,fun i f=>?_,fun i f hs=>?_⟩,
  fun t w x l U X hs I u M=>?_,fun v w x I h1 T=>?_,fun t l x v W=>?_,fun k D x o m V=>?_,fun i k f D hs y x m u=>?_,fun i f x m u=>?_⟩
 ·have a0:=a.txLog D L hc;have:c.tx.toNat≠H.m+1:=by omega
  rw[r _ this];exact h.pw k j D L c hc T
 ·by_cases e:i=H.m+1
  ·subst e;exact⟨fun x u=>absurd u (ht x),by rw[E];exact Ys⟩
  ·rw[r i e];obtain⟨q1,J⟩:=h.wc i (q i f e);exact⟨fun x u=>q1 x ((O i x e).1 u),J⟩
 ·by_cases d:i=H.m+1
  ·subst d;rw[E] at y;cases y
  ·rw[r i d] at D y;exact h.se i (q i f d) k D e y
 ·by_cases d:i=H.m+1
  ·subst d;rw[E] at y;cases y
  ·rw[r i d] at hs y;rw[F i x d];exact h.ho i k (q i f d) D hs y x u
 ·by_cases d:i=H.m+1
  ·subst d;rw[E] at l;exact absurd rfl l
  ·rw[r i d] at l ⊢;exact h.tp i (q i f d) l
 ·by_cases d:i=H.m+1
  ·subst d;rw[E] at l;exact absurd rfl l
  ·rw[r i d] at l ⊢;by_cases z:j=H.m+1
   ·subst z;rw[E];intro e;exact absurd e l
   ·rw[r j z];exact h.tu i j (q i f d) (q j L z) l
 ·by_cases d:i=H.m+1
  ·subst d;rw[E];exact⟨by decide,by decide⟩
  ·rw[r i d];exact h.st i (q i f d)
 ·obtain⟨q1,J⟩:=h.en.2.1 i f;rw[r i (Z i f)];exact⟨(N i q1).1,J⟩
 ·by_cases d:i=H.m+1
  ·subst d;rw[E] at hs;rcases hs with hs|hs <;> cases hs
  ·rw[r i d] at hs;exact h.en.2.2 i (q i f d) hs
 ·by_cases d:t=H.m+1
  ·subst d;exact absurd u (ht x)
  ·by_cases z:w=H.m+1
   ·subst z;exact absurd M (S x)
   ·rw[r w z] at hs;rw[r t d] at I;exact Y w z (h.dm t w x (q t l d) (q w U z) X hs I ((O t x d).1 u) ((F w x z).1 M))
 ·have d:v≠H.m+1:=fun e=>by subst e;exact S x h1
  have z:w≠H.m+1:=fun e=>by subst e;exact S x T
  rw[r v d,r w z];exact h.tm v w x I ((F v x d).1 h1) ((F w x z).1 T)
 ·have d:t≠H.m+1:=fun e=>by subst e;rw[hr] at W;cases W
  rw[r t d,P G.E x (fun _ g=>g)];obtain⟨q1,J⟩:=h.ri t (q t l d) x v W;exact⟨q1,fun hs A C R=>by rw[P A x (fun i f=>by rw[R];exact Wa _ f)];exact J hs A C R⟩
 ·obtain⟨q1,J,q3,q4⟩:=h.wt k D x o m V;have:o.toNat≠H.m+1:=by omega
  rw[r _ this];exact⟨⟨q1.1,by show o<=((H.m+1:Nat):Int);omega⟩,J,q3,q4⟩
 ·by_cases d:i=H.m+1
  ·subst d;rw[E] at y;cases y
  ·rw[r i d] at hs y ⊢;exact h.ww i k (q i f d) D hs y x m u
 ·by_cases d:i=H.m+1
  ·subst d;rw[E] at u;cases u
  ·rw[r i d] at u ⊢;exact h.wn i (q i f d) x m u
theorem OP.begin (h:OP H):OP H.begin:=fun i e hs k d=>by
 by_cases f:i=H.m+1
 ·subst f;rw[qab] at d;exact absurd rfl (EZ.1 d).2
 ·rw[q7b H f] at hs d ⊢;exact h i ⟨e.1,by have:i<=H.m+1:=e.2;omega⟩ hs k d
theorem q5f {E A C:List Nat} {i t:Nat} (h:E++[i]=A++t::C):(t=i/\A=E/\C=[])\/∃ D,E=A++t::D:=by
 rcases YG C with e|⟨D,b,e⟩
 ·subst e;have:=YQ h rfl;exact .inl ⟨by have:=this.2;injection this with this;exact this.symm,this.1.symm,rfl⟩
 ·subst e;refine .inr ⟨D,?_⟩;have d:E++[i]=(A++t::D)++[b]:=by rw[h];simp
  exact(YQ d rfl).1
theorem q5q (H:Hs) {i j:Nat} (h:j≠i):(H.ending i).tx j=H.tx j:=AF h _
theorem q7u (H:Hs) (i:Nat):((H.ending i).tx i).state=2/\((H.ending i).tx i).aa=(H.tx i).aa/\((H.ending i).tx i).ad=(H.tx i).ad/\((H.ending i).tx i).ae=(H.tx i).ae/\((H.ending i).tx i).af=(H.tx i).af:=by
 have e:(H.ending i).tx i = { H.tx i with state:=2,places:=fun k=>if ((H.tx i).ad k).isSome then Bs (-1) else(H.tx i).places k }:=Ay _ _ _;rw[e];exact⟨rfl,rfl,rfl,rfl,rfl⟩
theorem Gd (H:Hs) (i j:Nat):((H.ending i).tx j).aa=(H.tx j).aa/\((H.ending i).tx j).ad=(H.tx j).ad/\((H.ending i).tx j).ae=(H.tx j).ae/\((H.ending i).tx j).af=(H.tx j).af:=by
 by_cases e:j=i
 ·subst e;exact(q7u H j).2
 ·rw[q5q H e];exact⟨rfl,rfl,rfl,rfl⟩
theorem SI.ending (h:SI H G (fun _ _=>False)) (op:OP H) (hi:Ir H i) (hs:(H.tx i).state=1) (hw:(H.tx i).af=[]):SI (H.ending i) ⟨G.E++[i],G.rd⟩ (fun _ _=>False):=by
 have p:=Gd H i;have h2:=(q7u H i).1;have y:=fun j=>q5q H (i:=i) (j:=j)
 have U:∀ j,((H.ending i).tx j).ai=(H.tx j).ai:=fun j=>Il (p j).2.1
 have z:∀ j x,Wr (H.ending i) j x↔Wr H j x:=fun j x=>Wr.congr (p j).1
 have X:∀ j x,Cp (H.ending i) ⟨G.E++[i],G.rd⟩ j x↔Cp H G j x:=fun j x=>by unfold Cp;rw[z];exact Yr
 have a5:∀ j,BJ H j->BJ (H.ending i) j:=fun j hd=>hd.mono (p j).2.2.1 (p j).2.1 (fun _ _=>rfl) (fun k j _ d e=>⟨j,d,e⟩)
 have l:i ∉ G.E:=fun e=>(h.en.2.1 i e).2 hs
 have W:(H.tx i).ae=0:=Wl fun e=>by rcases(h.tp i hi e).1 with e|e <;> omega
 have T:∀ A x,i ∉ A->AZ (H.ending i) A x=AZ H A x:=fun A x hA=>Rp (fun j d=>Us (by rw[y j (fun e=>hA (e▸d))]) (p j).1)
 have S:∀ j,((H.ending i).tx j).state=1->j≠i/\(H.tx j).state=1:=fun j e=>by
  have:j≠i:=fun e2=>by subst e2;omega
  rw[y j this] at e;exact⟨this,e⟩
 refine⟨h.gt,h.t2,h.dn,fun k j E d c hc a6=>?_,h.wl,h.cv,fun j d=>?_,fun j d k E e L=>?_,fun j k d E f L x M=>?_,fun j d R=>?_,fun a b ha hb=>?_,fun j d=>?_,⟨?_,fun j d=>?_,fun j d f=>?_⟩,
  fun t w x u J a0 Y F a2 a1=>?_,fun v w x F h1 h3=>?_,fun t u x v hv=>?_,fun k E x o m P=>?_,fun j k d E f L x m M=>?_,fun j d x m hm=>?_⟩
 ·obtain⟨q1,I,V⟩:=h.pw k j E d c hc a6;have e:c.tx.toNat≠i:=fun e=>q1 (by rw[e];exact hs)
  rw[y _ e];exact⟨q1,I,V⟩
 ·rw[U,(p j).1];obtain⟨q1,I⟩:=h.wc j d;exact⟨fun x g=>q1 x ((X j x).1 g),I⟩
 ·rw[U] at E;rw[(p j).2.1] at L;exact h.se j d k E e L
 ·rw[(p j).2.1] at L;have Z:(H.tx j).state=1\/(H.tx j).state=2:=by
   by_cases e:j=i
   ·subst e;exact .inl hs
   ·rw[y j e] at f;exact f
  rw[z];exact h.ho j k d E Z L x M
 ·rw[(p j).2.2.1] at R;have e:j≠i:=fun e=>by subst e;exact R W
  rw[y j e];exact h.tp j d R
 ·rw[(p a).2.2.1,(p b).2.2.1];exact h.tu a b ha hb
 ·by_cases e:j=i
  ·subst e;rw[h2];exact⟨by decide,by decide⟩
  ·rw[y j e];exact h.st j d
 ·show(G.E++[i]).Nodup;rw[Xo];exact⟨h.en.1,by simp,fun a ha b hb e=>by rw[List.mem_singleton.1 hb] at e;exact l (e▸ha)⟩
 ·rcases List.mem_append.1 d with g|g
  ·have e:j≠i:=fun e=>l (e▸g)
   rw[y j e];exact h.en.2.1 j g
  ·rw[List.mem_singleton.1 g,h2];exact⟨hi,by decide⟩
 ·by_cases e:j=i
  ·exact List.mem_append_right _ (List.mem_singleton.2 e)
  ·rw[y j e] at f;exact Wa _ (h.en.2.2 j d f)
 ·have O:=(X t x).1 a2;have N:=(z w x).1 a1;by_cases e:w=i
  ·subst e;exfalso;rcases F with g|⟨_,A,C,g1,g2⟩
   ·obtain⟨_,g⟩:=S t g;have a3:=(h.wc w J).1 x (.inl N);have a4:=(h.wc t u).1 x O;have k2:=KM x;have d1:=(h.ho w (Ad x) J k2 (.inl hs) (op w J hs _ a3) x rfl).1 N;have d2:=h.ho t (Ad x) u k2 (.inl g) (op t u g _ a4) x rfl;have d3:Hd (H.sh (Ad x)).tab x t 1:=by
     rcases O with q|q
     ·exact(d2.1 q).mono (by decide)
     ·exact d2.2 q
    have:=Hd.dr (h.gt _ (by omega)) d1 d3;omega
   ·rcases q5f g1 with ⟨q,_⟩|⟨D,q⟩
    ·exact a0 q
    ·exact l (by rw[q];exact Wa _ g2)
  ·rw[y w e] at Y;refine a5 w (h.dm t w x u J a0 Y ?_ O N);by_cases e2:t=i
   ·subst e2;exact .inl hs
   ·rw[y t e2] at F;rcases F with g|⟨g,A,C,g1,g2⟩
    ·exact .inl g
    ·rcases q5f g1 with ⟨q,_⟩|⟨D,q⟩
     ·exact absurd q e2
     ·exact .inr ⟨g,A,D,q,g2⟩
 ·obtain⟨A,C,g1,g2⟩:=F;rw[(p v).2.2.1,(p w).2.2.1];intro t1 t2;rcases q5f g1 with ⟨q,_⟩|⟨D,q⟩
  ·subst q;exact absurd W t2
  ·exact h.tm v w x ⟨A,D,q,g2⟩ ((z v x).1 h1) ((z w x).1 h3) t1 t2
 ·obtain⟨q1,I⟩:=h.ri t u x v hv;constructor
  ·intro g;obtain⟨_,g⟩:=S t g;show AZ (H.ending i) (G.E++[i]) x=v;have e:Hp (H.ending i) x i=B0:=by unfold Hp;rw[if_neg (by rw[h2];decide)]
   rw[q45,e,Option.getD_none,T G.E x l];exact q1 g
  ·intro g A C hE;have hE:G.E++[i]=A++t::C:=hE;rcases q5f hE with ⟨q,r,_⟩|⟨D,q⟩
   ·subst q;rw[r,T G.E x l];exact q1 hs
   ·have e:t≠i:=fun e=>l (by rw[q,e];simp)
    rw[y t e] at g;rw[T A x (fun m=>l (by rw[q];exact Wa _ m))];exact I g A D q
 ·obtain⟨q1,I,V,q4⟩:=h.wt k E x o m P;have e:o.toNat≠i:=fun e=>by
   rw[e] at V I;have e3:o=(i:Int):=by omega
   rw[e3] at P;have:=(h.ww i k hi E I V x m q4).2 P;rw[hw] at this;cases this
  rw[y _ e];exact⟨q1,I,V,q4⟩
 ·obtain⟨e,g⟩:=S j f;rw[y j e] at L ⊢;exact h.ww j k d E g L x m M
 ·rw[U];rw[(p j).2.2.2] at hm;exact h.wn j d x m hm
theorem OP.ending (h:OP H) (i:Nat):OP (H.ending i):=fun j f hs k d=>by
 have e:j≠i:=fun e=>by subst e;rw[(q7u H j).1] at hs;cases hs
 rw[q5q H e] at hs d ⊢;exact h j f hs k d
def Gh.more (G:Gh) (i:Nat) (x:Sx) (v:Option Sx):Gh:=⟨G.E,fun t=>if t=i then G.rd t++[(x,v)] else G.rd t⟩
theorem G6 {x y:Sx} {v u:Option Sx} {t:Nat} : (y,u)∈(G.more i x v).rd t↔(y,u)∈G.rd t\/(t=i/\y=x/\u=v):=by
 show(y,u)∈(if t=i then G.rd t++[(x,v)] else G.rd t)↔_;by_cases e:t=i
 ·rw[if_pos e,List.mem_append,VW,Prod.mk.injEq];simp[e]
 ·rw[if_neg e];simp[e]
theorem Jt {x y:Sx} {v:Option Sx} {t:Nat} : Cp H (G.more i x v) t y↔Cp H G t y\/(t=i/\y=x):=by
 unfold Cp Rdx;simp only[G6];constructor
 ·rintro (h|⟨u,h|⟨e,d,_⟩⟩)
  ·exact .inl (.inl h)
  ·exact .inl (.inr ⟨u,h⟩)
  ·exact .inr ⟨e,d⟩
 ·rintro ((h|⟨u,h⟩)|⟨e,d⟩)
  ·exact .inl h
  ·exact .inr ⟨u,.inl h⟩
  ·exact .inr ⟨v,.inr ⟨e,d,rfl⟩⟩
theorem SI.read (h:SI H G (fun _ _=>False)) (a:Ag H B) (N:Ir H i) (hs:(H.tx i).state=1) {x:Sx} {j:Nat} (I:(H.tx i).ad (Ad x)=Bs (H.sh (Ad x)).ab) (F:H.head (Ad x)=Bs j)
  (D:Hd (H.sh (Ad x)).tab x i 1):SI H (G.more i x (AZ H G.E x)) (fun _ _=>False):=by
 have M:=KM x;refine⟨h.gt,h.t2,h.dn,h.pw,h.wl,h.cv,fun t f=>⟨fun y l=>?_,(h.wc t f).2⟩,h.se,fun t k f u d C y l=>⟨(h.ho t k f u d C y l).1,fun E=>?_⟩,h.tp,h.tu,h.st,h.en,fun t w y f A r d J l q=>?_,h.tm,fun t f y v z=>?_,h.wt,h.ww,h.wn⟩
 ·rcases Jt.1 l with g|⟨e,p⟩
  ·exact(h.wc t f).1 y g
  ·subst e p;exact EZ.2 ⟨by omega,by rw[I];simp⟩
 ·obtain⟨v,z⟩:=E;rcases G6.1 z with g|⟨e,p,_⟩
  ·exact(h.ho t k f u d C y l).2 ⟨v,g⟩
  ·subst e p l;exact D
 ·rcases Jt.1 l with g|⟨e,p⟩
  ·exact h.dm t w y f A r d J g q
  ·subst e p;exact h.touch a F D A r d q
 ·rcases G6.1 z with g|⟨e,p,L⟩
  ·exact h.ri t f y v g
  ·subst e p L;exact⟨fun _=>rfl,fun g=>by omega⟩
theorem qb4 {l l':List Pr} {p:Pr} (h:BS l p=Bs l'):(l'.map (·.key)=l.map (·.key)/\p.key∈l.map (·.key))\/(l'.map (·.key)=l.map (·.key)++[p.key]/\p.key ∉ l.map (·.key)):=by
 unfold BS at h;split at h
 ·rename_i k d;injection h with h;subst h;rw[VR] at d;obtain⟨g,f,_⟩:=d;have f:l[k].key=p.key:=(Hu _ _).1 f;refine .inl ⟨?_,by rw[<- f];exact YU (WE g)⟩;rw[List.map_set,<- f];apply List.ext_getElem?;intro q;rw[Yi];split
  ·rename_i e;subst e;rw[VT,K0 g];simp[g]
  ·rfl
 ·rename_i d;split at h
  ·cases h
  ·injection h with h;subst h;refine .inr ⟨by simp,fun e=>?_⟩;rw[List.findIdx?_eq_none_iff] at d;obtain⟨q,r,e⟩:=List.mem_map.1 e;have:=d q r;rw[Bool.eq_false_iff] at this;exact this ((Hu _ _).2 e)
theorem Ja {l l':List Pr} {p:Pr} (h:BS l p=Bs l') {y:Sx} : (∃ q∈l',sx q.key=y)↔(∃ q∈l,sx q.key=y)\/y=sx p.key:=by
 have e:∀ (m:List Pr),(∃ q∈m,sx q.key=y)↔∃ k∈m.map (·.key),sx k=y:=fun m=>by
  constructor
  ·rintro ⟨q,f,e⟩;exact⟨q.key,YU f,e⟩
  ·rintro ⟨k,d,e⟩;obtain⟨q,f,rfl⟩:=List.mem_map.1 d;exact⟨q,f,e⟩
 rw[e,e];rcases qb4 h with ⟨r,t⟩|⟨r,t⟩
 ·rw[r];exact⟨.inl,fun g=>g.elim id (fun g=>⟨p.key,t,g.symm⟩)⟩
 ·rw[r];constructor
  ·rintro ⟨k,d,e⟩;rcases List.mem_append.1 d with g|g
   ·exact .inl ⟨k,g,e⟩
   ·rw[List.mem_singleton.1 g] at e;exact .inr e.symm
  ·rintro (⟨k,d,e⟩|e)
   ·exact⟨k,Wa _ d,e⟩
   ·exact⟨p.key,by simp,e.symm⟩
theorem q9c {l l':List Pr} {p:Pr} (h:BS l p=Bs l') (f:(l.map (·.key)).Nodup):(l'.map (·.key)).Nodup:=by
 rcases qb4 h with ⟨d,g⟩|⟨d,g⟩
 ·rw[d];exact f
 ·rw[d,Xo];exact⟨f,by simp,fun a q b k e=>by rw[List.mem_singleton.1 k] at e;exact g (e▸q)⟩
def Hs.cp (H:Hs) (i:Nat) (l:List Pr):Hs:=H.aw i { H.tx i with aa:=l }
theorem Gv (H:Hs) {i j:Nat} (l:List Pr) (h:j≠i):(H.cp i l).tx j=H.tx j:=AF h _
theorem qbn (H:Hs) (i:Nat) (l:List Pr):(H.cp i l).tx i = { H.tx i with aa:=l }:=Ay _ _ _
theorem Gu (H:Hs) (i:Nat) (l:List Pr) (j:Nat):((H.cp i l).tx j).state=(H.tx j).state/\((H.cp i l).tx j).ad=(H.tx j).ad/\((H.cp i l).tx j).ae=(H.tx j).ae/\((H.cp i l).tx j).af=(H.tx j).af:=by
 by_cases e:j=i
 ·subst e;rw[qbn];exact⟨rfl,rfl,rfl,rfl⟩
 ·rw[Gv H l e];exact⟨rfl,rfl,rfl,rfl⟩
theorem SI.write (h:SI H G (fun _ _=>False)) (a:Ag H B) (hi:Ir H i) (hs:(H.tx i).state=1) {p:Pr} {l:List Pr} {j:Nat} (hl:BS (H.tx i).aa p=Bs l) (hc:(H.tx i).ad (Ad (sx p.key))=Bs (H.sh (Ad (sx p.key))).ab)
  (hh:H.head (Ad (sx p.key))=Bs j) (T:Hd (H.sh (Ad (sx p.key))).tab (sx p.key) i 2):SI (H.cp i l) G (fun _ _=>False):=by
 have hk:=KM (sx p.key);have f:=Gu H i l;have S:=fun j=>Gv H (i:=i) (j:=j) l
 have F:∀ j,((H.cp i l).tx j).ai=(H.tx j).ai:=fun j=>Il (f j).2.1
 have z:∀ j y,Wr (H.cp i l) j y->Wr H j y\/(j=i/\y=sx p.key):=fun j y g=>by
  by_cases e:j=i
  ·subst e;unfold Wr at g;rw[qbn] at g;rcases(Ja hl).1 g with g|g
   ·exact .inl g
   ·exact .inr ⟨rfl,g⟩
  ·exact .inl ((Wr.congr (by rw[S j e])).1 g)
 have M:∀ j y,Cp (H.cp i l) G j y->Cp H G j y\/(j=i/\y=sx p.key):=fun j y g=>by
  rcases g with g|g
  ·rcases z j y g with g|g
   ·exact .inl (.inl g)
   ·exact .inr g
  ·exact .inl (.inr g)
 have O:∀ j,BJ H j->BJ (H.cp i l) j:=fun j T=>T.mono (f j).2.2.1 (f j).2.1 (fun _ _=>rfl) (fun k j _ hj e=>⟨j,hj,e⟩)
 have L:(H.tx i).ae=0:=Wl fun e=>by rcases(h.tp i hi e).1 with e|e <;> omega
 have P:∀ A y,AZ (H.cp i l) A y=AZ H A y:=fun A y=>Rp (fun j _=>by
  by_cases e:j=i
  ·subst e;unfold Hp;rw[(f j).1,if_neg (by omega),if_neg (by omega)]
  ·exact Us (f j).1 (by rw[S j e]))
 refine⟨h.gt,h.t2,h.dn,fun k q hk hq c Z h2=>?_,h.wl,h.cv,fun t r=>⟨fun y E=>?_,?_⟩,fun t r k x e D=>?_,fun t k r x d D y E=>⟨fun Y=>?_,fun Y=>?_⟩,fun t r J=>?_,fun t u r hu=>?_,fun t r=>?_,⟨h.en.1,fun t r=>?_,fun t r d=>?_⟩,
  fun t w y r hw N d U E W=>?_,fun v w y U h1 h2=>?_,fun t r y v hv=>?_,fun k x y o m X=>?_,fun t k r x d D y m E=>?_,fun t r y m hm=>?_⟩
 ·obtain⟨q1,V,q3⟩:=h.pw k q hk hq c Z h2;have e:c.tx.toNat≠i:=fun e=>q1 (by rw[e];exact hs)
  rw[S _ e];exact⟨q1,V,q3⟩
 ·rw[F];rcases M t y E with g|⟨e,R⟩
  ·exact(h.wc t r).1 y g
  ·subst e R;exact EZ.2 ⟨by omega,by rw[hc];simp⟩
 ·by_cases e:t=i
  ·subst e;rw[qbn];exact q9c hl (h.wc t r).2
  ·rw[S t e];exact(h.wc t r).2
 ·rw[F] at x;rw[(f t).2.1] at D;exact h.se t r k x e D
 ·rw[(f t).1] at d;rw[(f t).2.1] at D;rcases z t y Y with g|⟨e,R⟩
  ·exact(h.ho t k r x d D y E).1 g
  ·subst e R E;exact T
 ·rw[(f t).1] at d;rw[(f t).2.1] at D;exact(h.ho t k r x d D y E).2 Y
 ·rw[(f t).2.2.1] at J;rw[(f t).1,F];exact h.tp t r J
 ·rw[(f t).2.2.1,(f u).2.2.1];exact h.tu t u r hu
 ·rw[(f t).1];exact h.st t r
 ·rw[(f t).1];exact h.en.2.1 t r
 ·rw[(f t).1] at d;exact h.en.2.2 t r d
 ·rw[(f w).1] at d;rw[(f t).1] at U;have I:Wr H w y:=by
   rcases z w y W with g|⟨e,_⟩
   ·exact g
   ·subst e;omega
  rcases M t y E with g|⟨e,R⟩
  ·exact O w (h.dm t w y r hw N d U g I)
  ·subst e R;exact O w (h.touch a hh (T.mono (by decide)) hw N d I)
 ·rw[(f v).2.2.1,(f w).2.2.1];intro t1 t2;have g1:Wr H v y:=by
   rcases z v y h1 with g|⟨e,_⟩
   ·exact g
   ·subst e;exact absurd L t1
  have g2:Wr H w y:=by
   rcases z w y h2 with g|⟨e,_⟩
   ·exact g
   ·subst e;exact absurd L t2
  exact h.tm v w y U g1 g2 t1 t2
 ·rw[(f t).1,P];obtain⟨q1,V⟩:=h.ri t r y v hv;exact⟨q1,fun g A C hE=>by rw[P];exact V g A C hE⟩
 ·rw[(f _).1,(f _).2.1];exact h.wt k x y o m X
 ·rw[(f t).1] at d;rw[(f t).2.1] at D;rw[(f t).2.2.2];exact h.ww t k r x d D y m E
 ·rw[F];rw[(f t).2.2.2] at hm;exact h.wn t r y m hm
theorem OP.write (h:OP H) (i:Nat) (l:List Pr):OP (H.cp i l):=fun j f hs k e=>by
 have d:=Gu H i l j;rw[d.1] at hs;rw[Il d.2.1] at e;rw[d.2.1];exact h j f hs k e
theorem NA (a:Ag H B) {k j q:Nat} (l:k<3) (h:Lv H k j) (e:((H.sh k).nd j).head=T2) (f:Lv H k q):j<=q:=by
 have d:k<H.c:=by rw[a.c];exact l
 obtain⟨L,p,at_⟩:=a.ch.at_ d h;rw[at_.head] at e;have g:p=0:=by simpa using e
 subst g;exact at_.first f
theorem UW (a:Ag H B) {k j:Nat} (g:k<3) (d:Lv H k j) (h:((H.sh k).nd j).head=T2):H.head k=Bs j:=by
 cases e:H.head k with
 | none=>
  exfalso;unfold Hs.head Bg.bu at e;rw[Y2] at e;exact e j (q2l.2 d) h
 | some l=>
  obtain⟨f,p⟩:=EY e;have r:=NA a g d h f;have q:=NA a g f p d;rw[show l=j by omega]
structure FailF (H H':Hs):Prop where
 m:H'.m=H.m
 n:H'.n=H.n
 tx:H'.tx=H.tx
 sh:∀ k,(H'.sh k).nd=(H.sh k).nd/\(H'.sh k).tab=(H.sh k).tab/\(H'.sh k).sto=(H.sh k).sto/\(H'.sh k).done=(H.sh k).done/\(H'.sh k).ab=(H.sh k).ab
 ak:∀ k d,(H'.sh k).ak d=Jx->(H.sh k).ak d=Jx
theorem Mz (H:Hs) (id:Int):FailF H (H.fail id):=by
 cases g:H.node id with
 | none=>rw[q73 g];exact⟨rfl,rfl,rfl,fun _=>⟨rfl,rfl,rfl,rfl,rfl⟩,fun _ _ h=>h⟩
 | some q=>
  obtain⟨s,j⟩:=q;rw[q72 g];have e:∀ k,((H.aH s id).sh k=H.sh k)\/(H.aH s id).sh k = { H.sh k with ak:=fun i=>decide (i=id) || (H.sh k).ak i }:=fun k=>by
   by_cases l:k=s
   ·subst l;exact .inr (Ay _ _ _)
   ·exact .inl (AF l _)
  refine⟨rfl,rfl,rfl,fun k=>?_,fun k d f=>?_⟩
  ·show((H.aH s id).sh k).nd=_/\((H.aH s id).sh k).tab=_/\((H.aH s id).sh k).sto=_/\((H.aH s id).sh k).done=_/\((H.aH s id).sh k).ab=_;rcases e k with e|e <;> rw[e] <;> exact⟨rfl,rfl,rfl,rfl,rfl⟩
  ·have f:((H.aH s id).sh k).ak d=Jx:=f;rcases e k with e|e
   ·rw[e] at f;exact f
   ·rw[e] at f;exact(Bool.or_eq_false_iff.1 f).2
theorem SI.fail (h:SI H G (fun _ _=>False)) (a:Ag H B) (id:Int):SI (H.fail id) G (fun _ _=>False):=by
 have f:=Mz H id;have e:∀ k j,lg (H.fail id) k j=lg H k j:=fun k j=>by unfold lg;rw[(f.sh k).1]
 have d:∀ k j,Lv (H.fail id) k j->Lv H k j:=fun k j ⟨l,g⟩=>by
  rw[(f.sh k).1] at g;exact⟨by rw[f.n] at l;exact l,f.ak k _ g⟩
 refine h.same ⟨f.m,fun k j _ p=>d k j p,fun k j q r=>?_,fun k j _ _=>by rw[e];exact VS _,fun k j _ p=>⟨j,d k j p,by rw[e];exact VS _⟩,fun k j _ _=>e k j,fun k _=>(f.sh k).2,fun i=>by rw[f.tx];exact⟨rfl,rfl,rfl,rfl,rfl⟩⟩;obtain⟨l,g⟩:=EY r;rw[(f.sh k).1] at g;exact UW a q (d k j l) g
theorem OP.fail (h:OP H) (id:Int):OP (H.fail id):=fun j e hs k d=>by
 have f:=Mz H id;rw[f.tx] at hs d ⊢;rw[(f.sh k).2.2.2.2];exact h j ⟨e.1,by have:=e.2;rw[f.m] at this;exact this⟩ hs k d
theorem SI.dq (h:SI H G (fun _ _=>False)) (a:Ag H B) (g:B<=999000) (e:H.m<=40) (r:Kz H H'):SI H' G (fun _ _=>False)/\OP H':=by
 obtain⟨a1,u1⟩:=a.bY g;have s1:=h.bY a g;have f:([0,1,2].foldl Hs.aE H).m<=40:=by rw[u1.m];exact e
 have st:Af ([0,1,2].foldl Hs.aE H) ([0,1,2].foldl Hs.aE H).ba:=q60 _ (fun i l=>by
  rw[List.mem_range'_1] at l;omega)
 obtain⟨s2,a2⟩:=SI.star st s1 a1 f;have k:([0,1,2].foldl Hs.aE H).ba.m<=40:=by rw[st.sm.m];exact f
 have d:=q22 r a2.wf a2.c;exact⟨(SI.star d s2 a2 k).1,OP.star d (OP.ba _)⟩
structure AO (H:Hs) (G:Gh) (B:Int):Prop where
 a:Ag H B
 s:SI H G (fun _ _=>False)
 o:OP H
theorem AO.mono {B':Int} (h:AO H G B) (d:B<=B'):AO H G B':=⟨h.a.mono d,h.s,h.o⟩
theorem AO.star (h:AO H G B) (s:Af H H') (d:H.m<=40):AO H' G B:=⟨(Ag.star s h.a).1,(SI.star s h.s h.a d).1,OP.star s h.o⟩
theorem AO.act (h:AO H G B) (d:B<=999000) (r:DG H H'):Ag H' (B+3):=(h.a.act d r (D:=fun _=>True) (fun _ _ _ _=>trivial)).1
theorem AO.net (h:AO H G B) (e:B<=999000) {l:List Ms} (d:∀ m∈l,m∈H.net.l):AO { H with net:=⟨l,H.net.ak⟩ } G (B+3):=⟨h.act e (.net d),h.s.net _,h.o.net _⟩
theorem AO.begin (h:AO H G B) (e:B<=999000) (f:H.m<60) (d:G.rd (H.m+1)=[]):AO H.begin G (B+3):=⟨h.act e (.begin f),h.s.begin h.a d,h.o.begin⟩
theorem AO.fail (h:AO H G B) (d:B<=999000) (id:Int):AO (H.fail id) G (B+3):=⟨h.act d (.fail id),h.s.fail h.a id,h.o.fail id⟩
theorem AO.dq (h:AO H G B) (e:B<=999000) (d:H.m<=40) (r:Kz H H'):AO H' G (B+3):=⟨h.act e (.fix r),(h.s.dq h.a e d r).1,(h.s.dq h.a e d r).2⟩
theorem AO.ends (h:AO H G B) (k:B<=999000) (g:H.m<=40) (d:Ir H i) (hs:(H.tx i).state=1) (f:(H.tx i).af=[]) (r:EU (H.ending i) H'):AO H' ⟨G.E++[i],G.rd⟩ (B+3):=by
 have e:Wf (H.ending i):=h.a.wf.ending d.1 d.2;have st:=q22 r e h.a.c;have a1:=h.act k (.ends d.1 d.2 hs f (.refl _));have s1:=h.s.ending h.o d hs f;exact⟨h.act k (.ends d.1 d.2 hs f st),(SI.star st s1 a1 g).1,OP.star st (h.o.ending i)⟩
def DY (d:List Pr) (x:Sx):Option Pr:=d.reverse.find? (fun p=>sx p.key == x)
inductive VD (H:Hs) (G:Gh) (B:Int) (id:Int) (x:Sx):(Int×Sx×Bool)×Hs->Prop where
 | bad {c:Int} {H':Hs} (hc:c≠0) (h:AO H' G B) (s:Af H H'):VD H G B id x ((c,[],Jx),H')
 | own {i:Nat} {p:Pr} {H':Hs} (hid:id=i) (hi:Ir H i) (hs:(H'.tx i).state=1) (hw:(H'.tx i).aa=(H.tx i).aa) (ho:DY (H.tx i).aa x=Bs p) (h:AO H' G B) (s:Af H H'):VD H G B id x ((0,sx p.val,!p.gone),H')
 | read {i:Nat} {v:Option Sx} {H':Hs} (hid:id=i) (hi:Ir H i) (hs:(H'.tx i).state=1) (hw:(H'.tx i).aa=(H.tx i).aa) (ho:DY (H.tx i).aa x=B0) (h:AO H' (G.more i x v) B) (s:Af H H'):VD H G B id x ((0,fnd v),H')
theorem AO.get (h:AO H G B) (g:H.m<=40) (id:Int) {x:Sx} (u:x∈names):VD H G B id x (H.get id x):=by
 have st:=q3p (id:=id) (mode:=1) h.a.wf h.a.c u (by unfold BW;omega);have d:=h.star st g;have y:=st.sm.m;unfold Hs.get;simp only;by_cases l:(H.lock id x 1).1=0
 ·rw[if_neg (by simpa using l)];obtain⟨i,rfl,k,hs,A,z,v,q⟩:=(h.s.cg h.a g u (by unfold BW;omega) l).ix;rw[show((i:Int)).toNat=i by omega];have f:Ir (H.lock i x 1).2 i:=⟨k.1,by rw[y];exact k.2⟩
  have r:DY ((H.lock i x 1).2.tx i).aa x=DY (H.tx i).aa x:=by rw[q]
  unfold DY at r;cases e:((H.lock i x 1).2.tx i).aa.reverse.find? (fun p=>sx p.key == x) with
  | some p=>exact .own rfl k hs q (by unfold DY;rw[<- r];exact e) d st
  | none=>
   cases t:(H.lock i x 1).2.head (Ad x) with
   | none=>exact absurd t z
   | some j=>
    simp only;rw[d.s.sv d.a f hs t v];exact .read rfl k hs q (by unfold DY;rw[<- r];exact e) ⟨d.a,d.s.read d.a f hs A t v,d.o⟩ st
 ·rw[if_pos (by simpa using l)];exact .bad l d st
inductive PutO (H:Hs) (G:Gh) (B:Int) (id:Int) (p:Pr):Int×Hs->Prop where
 | bad {c:Int} {H':Hs} (hc:c≠0) (h:AO H' G B) (s:Af H H'):PutO H G B id p (c,H')
 | ok {i:Nat} {l:List Pr} {H':Hs} (hid:id=i) (hi:Ir H i) (hs:(H'.tx i).state=1) (hw:(H'.tx i).aa=(H.tx i).aa) (hl:BS (H.tx i).aa ⟨p.key,if p.gone then⟨#[]⟩ else p.val,p.gone⟩=Bs l) (h:AO (H'.cp i l) G (B+3)) (s:Af H H'):PutO H G B id p (0,H'.cp i l)
theorem AO.put (h:AO H G B) (D:B<=999000) (g:H.m<=40) (id:Int) {p:Pr} (r:sx p.key∈names):PutO H G B id p (H.put id p):=by
 have st:=q3p (id:=id) (mode:=2) h.a.wf h.a.c r (by unfold BW;omega);have k:=h.star st g;have y:=st.sm.m;have d:=h.act D (Nh h.a.wf h.a.c id r);unfold Hs.put at d ⊢;by_cases f:40<p.val.size
 ·rw[if_pos f];exact .bad (by decide) h (.refl _)
 ·rw[if_neg f] at d ⊢;simp only at d ⊢;by_cases q:(H.lock id (sx p.key) 2).1=0
  ·rw[if_neg (by simpa using q)] at d ⊢;obtain⟨i,rfl,u,hs,C,z,A,v⟩:=(h.s.cg h.a g r (by unfold BW;omega) q).ix;rw[show((i:Int)).toNat=i by omega] at d ⊢;have t:Ir (H.lock i (sx p.key) 2).2 i:=⟨u.1,by rw[y];exact u.2⟩
   cases e:BS ((H.lock i (sx p.key) 2).2.tx i).aa ⟨p.key,if p.gone then⟨#[]⟩ else p.val,p.gone⟩ with
   | none=>exact .bad (by decide) k st
   | some l=>
    rw[e] at d;cases x:(H.lock i (sx p.key) 2).2.head (Ad (sx p.key)) with
    | none=>exact absurd x z
    | some j=>
     exact .ok rfl u hs v (by rw[<- v];exact e) ⟨d,k.s.write k.a t hs e C x A,k.o.write i l⟩ st
  ·rw[if_pos (by simpa using q)];exact .bad q k st
end
def bs (x:Sx):ByteArray:=⟨x.toArray⟩
theorem IU (x:Sx):sx (bs x)=x:=Du x
theorem bs_sx (k:ByteArray):bs (sx k)=k:=q8z (IU _)
def Dq (m:Mp) (d:List Pr):Mp:=fun k=>match Is d (sx k) with
 | some v=>v.map bs
 | none=>m k
def DE (ops:List C4) (e:List (Sx×Option Sx)) (d:List Pr):Prop:=∀ m:Mp,(∀ x v,(x,v)∈e->m (bs x)=v.map bs)->DH m ops=Bs (Dq m d)
theorem Nj (m:Mp) (d:List Pr) (x:Sx):Dq m d (bs x)=match Is d x with
 | some v=>v.map bs
 | none=>m (bs x):=by unfold Dq;rw[IU]
theorem DE.nil:DE [] [] []:=fun m _=>rfl
theorem q65 {m d:Mp} {ops:List C4} (h:DH m ops=Bs d) (o:C4):DH m (ops++[o])=Fa d o:=by
 rw[q1m,h,Option.bind_some];unfold DH;cases e:Fa d o with
 | none=>rfl
 | some r=>rfl
theorem Nl {m:Mp} {o:C4} (h:o.ag=1) (g:Co m o):Fa m o=Bs m:=by unfold Fa;rw[if_pos h,if_pos g]
theorem OW {d:List Pr} {x:Sx} {p:Pr} (h:DY d x=Bs p):p∈d/\sx p.key=x:=by
 unfold DY at h;have f:=WT h;have e:=List.find?_some h;exact⟨List.mem_reverse.1 f,by simpa using e⟩
theorem OX {d:List Pr} {x:Sx} (h:DY d x=B0):Is d x=B0:=by
 unfold DY at h;rw[Y2] at h;rw[q5d];intro p f e;exact h p (List.mem_reverse.2 f) (by simpa using e)
theorem DE.own {ops:List C4} {f:List (Sx×Option Sx)} {d:List Pr} (h:DE ops f d) (k:(d.map (·.key)).Nodup) {x:Sx} {p:Pr} (g:DY d x=Bs p):DE (ops++[⟨1,bs x,bs (sx p.val),!p.gone⟩]) f d:=fun m l=>by
 obtain⟨q,rfl⟩:=OW g;rw[q65 (h m l)];refine Nl rfl ?_;have e:=Nj m d (sx p.key);rw[Ep k q] at e;unfold Co;show(Dq m d (bs (sx p.key))).isSome=_/\∀ v,Dq m d (bs (sx p.key))=Bs v->v=bs (sx p.val);rw[e];cases p.gone with
 | true=>exact⟨rfl,fun v e=>by cases e⟩
 | false=>exact⟨rfl,fun v e=>by injection e with e;exact e.symm⟩
theorem DE.read {ops:List C4} {f:List (Sx×Option Sx)} {d:List Pr} (h:DE ops f d) {x:Sx} (l:DY d x=B0) (v:Option Sx):DE (ops++[⟨1,bs x,bs (fnd v).1,(fnd v).2⟩]) (f++[(x,v)]) d:=fun m g=>by
 rw[q65 (h m (fun y u k=>g y u (Wa _ k)))];refine Nl rfl ?_;have e:=Nj m d x;rw[OX l] at e;have p:=g x v (by simp);unfold Co;show(Dq m d (bs x)).isSome=_/\∀ u,Dq m d (bs x)=Bs u->u=bs (fnd v).1;rw[e];show(m (bs x)).isSome=_/\∀ u,m (bs x)=Bs u->u=bs (fnd v).1;rw[p];cases v with
 | none=>exact⟨rfl,fun v e=>by cases e⟩
 | some v=>exact⟨rfl,fun u e=>by injection e with e;exact e.symm⟩
theorem OL {l l':List Pr} {p:Pr} (h:BS l p=Bs l'):p∈l'/\∀ q∈l,q.key≠p.key->q∈l':=by
 unfold BS at h;split at h
 ·rename_i k r;injection h with h;subst h;rw[VR] at r;obtain⟨t,g,_⟩:=r;have g:l[k].key=p.key:=(Hu _ _).1 g;refine⟨List.mem_iff_getElem?.2 ⟨k,by rw[List.getElem?_set_self t]⟩,fun q f e=>?_⟩;obtain⟨n,d⟩:=List.mem_iff_getElem?.1 f;refine List.mem_iff_getElem?.2 ⟨n,?_⟩;rw[List.getElem?_set_ne]
  ·exact d
  ·rintro rfl;rw[K0 t] at d;injection d with d;exact e (by rw[<- d];exact g)
 ·split at h
  ·cases h
  ·injection h with h;subst h;exact⟨by simp,fun q f _=>Wa _ f⟩
theorem TM {l l':List Pr} {p:Pr} (h:BS l p=Bs l') (r:(l.map (·.key)).Nodup) (y:Sx):Is l' y=if y=sx p.key then Bs (if p.gone then B0 else Bs (sx p.val)) else Is l y:=by
 have f:=q9c h r;obtain⟨u,t⟩:=OL h;by_cases e:y=sx p.key
 ·rw[if_pos e,e];exact Ep f u
 ·rw[if_neg e];by_cases g:∃ q∈l,sx q.key=y
  ·obtain⟨q,d,rfl⟩:=g;rw[Ep r d];exact Ep f (t q d (fun k=>e (by rw[k])))
  ·have v:Is l y=B0:=q5d.2 (fun q d k=>g ⟨q,d,k⟩);rw[v];refine q5d.2 (fun q d k=>?_);rcases(Ja h).1 ⟨q,d,k⟩ with g2|g2
   ·exact g g2
   ·exact e g2
theorem DE.put {ops:List C4} {q:List (Sx×Option Sx)} {p l:List Pr} (h:DE ops q p) (t:(p.map (·.key)).Nodup) {k v:ByteArray} {d:Int} (r:d=2\/d=3) (x:BS p ⟨k,if (d == 3)=T2 then⟨#[]⟩ else v,d == 3⟩=Bs l) :
  DE (ops++[⟨d,k,v,Jx⟩]) q l:=fun m u=>by
 rw[q65 (h m u)];have e:=TM x t;have f:∀ y:ByteArray,(y=k)↔(sx y=sx k):=fun y=>⟨fun e=>by rw[e],q8z⟩
 rcases r with rfl|rfl
 ·have e1:Fa (Dq m p) ⟨2,k,v,Jx⟩=Bs ((Dq m p).set k (Bs v)):=rfl;rw[e1];congr 1;funext y;unfold Mp.set Dq;rw[e];by_cases g:y=k
  ·rw[if_pos g,if_pos ((f y).1 g)];show Bs v=Bs (bs (sx v));rw[bs_sx]
  ·rw[if_neg g,if_neg (fun e=>g ((f y).2 e))]
 ·have e1:Fa (Dq m p) ⟨3,k,v,Jx⟩=Bs ((Dq m p).set k B0):=rfl;rw[e1];congr 1;funext y;unfold Mp.set Dq;rw[e];by_cases g:y=k
  ·rw[if_pos g,if_pos ((f y).1 g)];rfl
  ·rw[if_neg g,if_neg (fun e=>g ((f y).2 e))]
section
variable {H H':Hs} {G:Gh} {B:Int} {i:Nat}
theorem q6m (H:Hs) (i a:Nat) (t:Bi) (h:t.aa=(H.tx i).aa):((H.aw i t).tx a).aa=(H.tx a).aa:=by
 show(Ae H.tx i t a).aa=_;by_cases e:a=i
 ·subst e;rw[Ay,h]
 ·rw[AF e]
theorem T9 (H:Hs) (s a:Nat):((H.take s).tx a).aa=(H.tx a).aa:=((BF.take H s).tx a).2.1
theorem BZ.wr (s:BZ H H') (a:Nat):(H'.tx a).aa=(H.tx a).aa:=by
 cases s with
 | @abort i=>exact((Nc H i).2.2 a).2.1
 | @tell i k kind=>exact((KL H i kind k).2.2.2.2 a).2.1
 | prep=>exact((EW _ _ _ _ _).2.2.2.2 a).2.1
 | @place i k at_=>exact q6m H i a _ rfl
 | @timed i=>
  unfold Hs.timed;split
  ·exact q6m _ i a _ rfl
  ·rfl
 | decide=>exact((EW _ _ _ _ _).2.2.2.2 a).2.1
 | @commit i=>exact q6m H i a _ rfl
 | @came i k=>exact q6m H i a _ rfl
 | got=>rfl
 | @wait i x mode=>exact q6m _ i a _ rfl
 | tick=>rfl
 | @arrive k m e=>
  cases d:Hs.node { H with net:=takeS H.net k } m.a4 with
  | none=>rw[OG d]
  | some q=>
   obtain⟨s,j⟩:=q;rw[OH d,T9];rfl
theorem Af.wr (s:Af H H') (a:Nat):(H'.tx a).aa=(H.tx a).aa:=by
 induction s with
 | refl=>rfl
 | step h _ d=>exact d.trans (h.wr a)
structure Bw (H:Hs) (G:Gh) (T:List AI) (now:Int):Prop where
 len:H.m=T.length
 ops:∀ (i:Nat) (t:AI),T[i]? = Bs t->DE t.ops (G.rd (i+1)) (H.tx (i+1)).aa
 rd:∀ i,H.m<i->G.rd i=[]
 lt:∀ (i:Nat) (t:AI),T[i]? = Bs t->0<=t.a4->(H.tx (i+1)).state=3
 rt:∀ (i u:Nat) (t v:AI),T[i]? = Bs t->T[u]? = Bs v->0<=t.a4->t.a4<v.from_->(u+1)∈G.E->VF G.E (i+1) (u+1)
 fr:∀ (i:Nat) (t:AI),T[i]? = Bs t->t.from_<=now
theorem Bw.mono {d:Int} {T:List AI} {now:Int} (h:Bw H G T now) (f:now<=d):Bw H G T d:=⟨h.len,h.ops,h.rd,h.lt,h.rt,fun i t e=>by have:=h.fr i t e;omega⟩
theorem Bw.same {T:List AI} {now:Int} (h:Bw H G T now) (d:H'.m=H.m) (f:∀ a,(H'.tx a).aa=(H.tx a).aa) (g:Bu H H'):Bw H' G T now:=
 ⟨d.trans h.len,fun i t e=>by rw[f];exact h.ops i t e,fun i k=>h.rd i (by rw[<- d];exact k),fun i t e l=>g.s3 (i+1) (by omega) (by have:=(List.getElem?_eq_some_iff.1 e).1;have:=h.len;omega) (h.lt i t e l),h.rt,h.fr⟩
theorem Bw.star {T:List AI} {now:Int} (h:Bw H G T now) (a:Ag H B) (s:Af H H'):Bw H' G T now:=h.same s.sm.m (s.wr) (Ag.star s a).2.1
theorem VF.snoc {E:List Nat} {a b c:Nat} (h:VF E a b):VF (E++[c]) a b:=by
 obtain⟨A,C,e,d⟩:=h;exact⟨A,C++[c],by rw[e];simp,d⟩
theorem Bw.ends {T:List AI} {now:Int} (h:Bw H G T now) (s:SI H G (fun _ _=>False)) (x:Ir H i) (hs:(H.tx i).state=1):Bw (H.ending i) ⟨G.E++[i],G.rd⟩ T now:=by
 have k:=Gd H i;refine⟨h.len,fun j t e=>by rw[(k _).1];exact h.ops j t e,h.rd,fun j t e f=>?_,fun j u t v e1 r f q l=>?_,h.fr⟩
 ·have d:=h.lt j t e f;have:j+1≠i:=fun e=>by rw[e] at d;omega
  rw[q5q H this];exact d
 ·have d:=h.lt j t e1 f;have p:Ir H (j+1):=⟨by omega,by have:=(List.getElem?_eq_some_iff.1 e1).1;have:=h.len;omega⟩
  rcases List.mem_append.1 l with g|g
  ·exact(h.rt j u t v e1 r f q g).snoc
  ·rw[List.mem_singleton.1 g];exact⟨G.E,[],rfl,s.en.2.2 _ p (.inr d)⟩
theorem Bw.begin {T:List AI} {now f:Int} (h:Bw H G T f) (s:SI H G (fun _ _=>False)) (z:f<=now):Bw H.begin G (T++[⟨[],now,-1⟩]) now:=by
 have k:=h.len;have d:∀ {i:Nat} {t:AI},(T++[(⟨[],now,-1⟩:AI)])[i]? = Bs t->(i<H.m/\T[i]? = Bs t)\/(i=H.m/\t=⟨[],now,-1⟩):=fun {i t} e=>by
  by_cases g:i<T.length
  ·rw[Wc g] at e;exact .inl ⟨by omega,e⟩
  ·have q:=(List.getElem?_eq_some_iff.1 e).1;simp only[VP,WH,Xu] at q;obtain rfl:i=T.length:=by omega
   simp only[X9,VN] at e;exact .inr ⟨k.symm,e.symm⟩
 refine⟨by show H.m+1=_;rw[k];simp,fun i t e=>?_,fun i x=>h.rd i (by have:H.m+1<i:=x;omega),fun i t e l=>?_,fun i u t v e1 p l y r=>?_,fun i t e=>?_⟩
 ·rcases d e with ⟨g,e⟩|⟨g,e⟩
  ·rw[q7b H (by omega)];exact h.ops i t e
  ·rw[g,qab,e,h.rd _ (by omega)];exact DE.nil
 ·rcases d e with ⟨g,e⟩|⟨g,e⟩
  ·rw[q7b H (by omega)];exact h.lt i t e l
  ·rw[e] at l;exact absurd (show(0:Int)<=-1 from l) (by decide)
 ·rcases d e1 with ⟨g,e1⟩|⟨g,e1⟩
  ·rcases d p with ⟨q,p⟩|⟨q,p⟩
   ·exact h.rt i u t v e1 p l y r
   ·have:=(s.en.2.1 _ r).1.2;omega
  ·rw[e1] at l;exact absurd (show(0:Int)<=-1 from l) (by decide)
 ·rcases d e with ⟨g,e⟩|⟨g,e⟩
  ·have:=h.fr i t e;omega
  ·rw[e];exact Xk _
theorem Bw.late {T:List AI} {now:Int} (h:Bw H G T now):Bw H G (BT H now T) now:=by
 have f:∀ {i:Nat} {t:AI},(BT H now T)[i]? = Bs t->∃ d,T[i]? = Bs d/\t=Dw H now i d:=fun {i t} e=>by
  unfold BT at e;rw[V5] at e;cases k:T[i]? with
  | none=>rw[k] at e;cases e
  | some d=>rw[k] at e;injection e with e;exact⟨d,rfl,e.symm⟩
 have x:∀ i t,(Dw H now i t).ops=t.ops/\(Dw H now i t).from_=t.from_:=fun i t=>by unfold Dw;split <;> exact⟨rfl,rfl⟩
 refine⟨by rw[h.len];unfold BT;simp,fun i t e=>?_,h.rd,fun i t e l=>?_,fun i u t v e1 C l p A=>?_,fun i t e=>?_⟩
 ·obtain⟨d,k,rfl⟩:=f e;rw[(x i d).1];exact h.ops i d k
 ·obtain⟨d,k,rfl⟩:=f e;have D:=(List.getElem?_eq_some_iff.1 k).1;have y:=h.len;unfold Dw at l;split at l
  ·rename_i g;have q:=g.2;unfold Hs.state at q;split at q
   ·cases q
   ·rw[show((i:Int)+1).toNat=i+1 by omega] at q;exact q
  ·exact h.lt i d k l
 ·obtain⟨d,k,rfl⟩:=f e1;obtain⟨r,z,rfl⟩:=f C;rw[(x u r).2] at p;have E:=h.fr u r z;unfold Dw at l p;split at p
  ·have p:now<r.from_:=p;omega
  ·rename_i g;rw[if_neg g] at l;exact h.rt i u d r k z l p A
 ·obtain⟨d,k,rfl⟩:=f e;rw[(x i d).2];exact h.fr i d k
theorem Bw.op {T:List AI} {now:Int} (h:Bw H G T now) (E:Ir H i) {r:Gh} {o:C4} (y:H'.m=H.m) (J:Bu H H') (N:r.E=G.E) (D:∀ t,t≠i->r.rd t=G.rd t) (I:∀ t,t≠i->(H'.tx t).aa=(H.tx t).aa)
  (L:∀ ops,DE ops (G.rd i) (H.tx i).aa->DE (ops++[o]) (r.rd i) (H'.tx i).aa):Bw H' r (CY T i o) now:=by
 have p:=h.len;have R:=E.1;have P:=E.2;have z:i-1<T.length:=by omega
 have e:CY T i o=T.set (i-1) { T[i-1] with ops:=T[i-1].ops++[o] }:=by
  unfold CY;rw[show((i:Int)).toNat-1=i-1 by omega,K0 z];simp only;rw[if_pos (by omega)]
 rw[e];have l:∀ {a:Nat} {t:AI},(T.set (i-1) { T[i-1] with ops:=T[i-1].ops++[o] })[a]? = Bs t->(a≠i-1/\T[a]? = Bs t)\/(a=i-1/\t = { T[i-1] with ops:=T[i-1].ops++[o] }):=fun {a t} e=>by
  rw[Yi] at e;split at e
  ·rename_i g;injection e with e;exact .inr ⟨g.symm,e.symm⟩
  ·rename_i g;exact .inl ⟨fun A=>g A.symm,e⟩
 have ex:∀ {a:Nat} {t:AI},(T.set (i-1) { T[i-1] with ops:=T[i-1].ops++[o] })[a]? = Bs t->∃ d,T[a]? = Bs d/\t.a4=d.a4/\t.from_=d.from_:=fun {a t} e=>by
  rcases l e with ⟨_,f⟩|⟨g,f⟩
  ·exact⟨t,f,rfl,rfl⟩
  ·subst g f;exact⟨T[i-1],K0 z,rfl,rfl⟩
 refine⟨by rw[y,List.length_set];exact p,fun a t e=>?_,fun t g=>by rw[D t (by rw[y] at g;omega)];exact h.rd t (by rw[y] at g;exact g),fun a t e q=>?_,fun a u t v e1 A q M C=>?_,fun a t e=>?_⟩
 ·rcases l e with ⟨g,f⟩|⟨g,f⟩
  ·have:a+1≠i:=by omega
   rw[D _ this,I _ this];exact h.ops a t f
  ·subst g f;have:=h.ops (i-1) T[i-1] (K0 z);rw[show i-1+1=i by omega] at this ⊢;exact L _ this
 ·obtain⟨d,k,q1,_⟩:=ex e;rw[q1] at q;exact J.s3 (a+1) (by omega) (by have:=(List.getElem?_eq_some_iff.1 k).1;omega) (h.lt a d k q)
 ·obtain⟨d,k,q1,_⟩:=ex e1;obtain⟨F,O,_,x⟩:=ex A;rw[N] at C ⊢;exact h.rt a u d F k O (by rw[<- q1];exact q) (by rw[<- q1,<- x];exact M) C
 ·obtain⟨d,k,_,x⟩:=ex e;rw[x];exact h.fr a d k
theorem TJ (H:Hs) (i:Nat) (l:List Pr):Bu H (H.cp i l):=Bu.of rfl (fun a=>⟨(Gu H i l a).1,(Gu H i l a).2.2.1⟩)
theorem UG (H:Hs) (n:Bk):Bu H { H with net:=n }:=Bu.of rfl (fun _=>⟨rfl,rfl⟩)
theorem AO.mid {safe:Bool} {nodes:Nat} {now E:Int} {x:ActX} {T T':List AI} (h:AO H G B) (J:Bw H G T E) (S:E<=now) (A:B<=999000) (Y:T.length<=7) (r:Br safe nodes now x H T H' T') :
  ∃ F,AO H' F (B+3)/\Bw H' F T' now:=by
 have st:=J.mono S;have U:=st.len;have g:H.m<=40:=by omega
 have L:=h.a.wf;have D:=h.a.c;have star:∀ {H2:Hs},Af H H2->∃ F,AO H2 F (B+3)/\Bw H2 F T now:=fun s=>⟨G,(h.star s g).mono (by omega),st.star h.a s⟩
 have net:∀ l:List Ms,(∀ m∈l,m∈H.net.l)->∃ F,AO { H with net:=⟨l,H.net.ak⟩ } F (B+3)/\Bw { H with net:=⟨l,H.net.ak⟩ } F T now:=fun l O=>⟨G,h.net A O,st.same rfl (fun _=>rfl) (UG H _)⟩
 cases r with
 | begin _ Z=>exact⟨G,h.begin A (by omega) (st.rd _ (by omega)),J.begin h.s S⟩
 | full|none|dropE|other=>exact star (.refl _)
 | get _ u=>
  have z:=h.get g (AY T x.tx) (OF x.a);unfold opG;generalize H.get (AY T x.tx) (AR x.a)=R at z u ⊢;cases z with
  | bad D=>exact absurd u D
  | @own i p H2 k q hs I M C s=>
   refine⟨G,C.mono (by omega),?_⟩;rw[k];refine st.op q s.sm.m (Ag.star s h.a).2.1 rfl (fun _ _=>rfl) (fun t _=>s.wr t) (fun ops d=>?_);rw[I];exact d.own (h.s.wc i q).2 M
  | @read i v H2 k q hs I M C s=>
   refine⟨_,C.mono (by omega),?_⟩;rw[k];refine st.op q s.sm.m (Ag.star s h.a).2.1 rfl (fun t e=>if_neg e) (fun t _=>s.wr t) (fun ops d=>?_);rw[I,show(G.more i (AR x.a) v).rd i=G.rd i++[(AR x.a,v)] from if_pos rfl];exact d.read M v
 | getE _ u=>
  have z:=h.get g (AY T x.tx) (OF x.a);generalize H.get (AY T x.tx) (AR x.a)=R at z u ⊢;cases z with
  | bad D C s=>exact star s
  | own=>exact absurd rfl u
  | read=>exact absurd rfl u
 | put I u=>
  have z:=h.put A g (AY T x.tx) (p:=OO x) (by show sx (bs (AR x.a))∈names;rw[IU];exact OF x.a);generalize H.put (AY T x.tx) (OO x)=R at z u ⊢;cases z with
  | bad D=>exact absurd u D
  | @ok i l H2 k q hs W O C s=>
   refine⟨G,C,?_⟩;rw[k];refine st.op q (s.sm.m) ((Ag.star s h.a).2.1.trans (TJ _ _ _)) rfl (fun _ _=>rfl) (fun t e=>by rw[Gv H2 l e];exact s.wr t) (fun ops d=>?_);rw[qbn];exact d.put (h.s.wc i q).2 I O
 | putE I u=>
  have z:=h.put A g (AY T x.tx) (p:=OO x) (by show sx (bs (AR x.a))∈names;rw[IU];exact OF x.a);generalize H.put (AY T x.tx) (OO x)=R at z u ⊢;cases z with
  | bad D C s=>exact star s
  | ok=>exact absurd rfl u
 | ends _ r=>
  cases r with
  | missing|state|waits=>exact star (.refl _)
  | ends k P C r=>
   have q:Ir H (AY T x.tx).toNat:=⟨by omega,by omega⟩
   have X:=h.ends A g q P C r;have a2:=h.act A (.ends q.1 q.2 P C (.refl _));exact⟨_,X,(st.ends h.s q P).star a2 (q22 r a2.wf a2.c)⟩
 | drop=>exact star (Ge _)
 | deliver _ _ r=>exact star (q5b r L D)
 | lose=>exact net (H.net.l.eraseIdx _) (fun m N=>List.mem_of_mem_eraseIdx N)
 | twice=>
  unfold Hs.twice;split
  ·exact star (.refl _)
  ·rename_i m N;have:=net (BA H.net m).l (fun y V=>by
    rcases Fw V with h|⟨h,_⟩
    ·exact h
    ·rw[h];exact O0 N)
   rw[<- q7j H.net m] at this;exact this
 | tick _ r=>exact star (q8v r L D)
 | fail=>
  unfold Hs.bG;split
  ·have f:=Mz H (10*((AX x.a 3:Nat):Int)+((AX x.tx nodes:Nat):Int));exact⟨G,h.fail A _,st.same f.m (fun a=>by rw[f.tx]) (Bu.of f.m (fun a=>by rw[f.tx];exact⟨rfl,rfl⟩))⟩
  ·exact star (.refl _)
 | fix _ r=>
  obtain⟨a1,u1⟩:=h.a.bY A;exact⟨G,h.dq A g r,(st.same u1.m (fun a=>(u1.tx a).2.1) u1.tm).star a1 (q9z r h.a A)⟩
 | calm _ r=>exact star (qa8 r L D)
end
def FZ (H:Hs) (n:Nat):List Nat:=(Wu n).filter fun i=>(H.tx (i+1)).state == 3 || (H.tx (i+1)).state == 2
def tx0:AI:=⟨[],0,0⟩
def BK (H:Hs) (T:List AI):List AI:=(FZ H T.length).map fun i=>T[i]?.getD tx0
theorem qc8 {H:Hs} {n i:Nat} : i∈FZ H n↔i<n/\((H.tx (i+1)).state=3\/(H.tx (i+1)).state=2):=by
 unfold FZ;rw[YA,List.mem_range];simp
theorem Ph (H:Hs) (n:Nat):(FZ H n).Nodup:=List.Nodup.sublist XQ List.nodup_range
section
variable {H H':Hs} {G:Gh} {B:Int} {i:Nat}
def GV (H:Hs) (n e:Nat):Nat:=(FZ H n).idxOf (e-1)
def B6 (H:Hs) (n:Nat) (L:List Nat):List Nat:=(L.filter fun e=>(H.tx e).state == 3).map (GV H n)
theorem q8g {n k:Nat} {L:List Nat} : k∈B6 H n L↔∃ e∈L,(H.tx e).state=3/\GV H n e=k:=by
 unfold B6;rw[List.mem_map];constructor
 ·rintro ⟨e,h,f⟩;obtain⟨d,g⟩:=List.mem_filter.1 h;exact⟨e,d,by simpa using g,f⟩
 ·rintro ⟨e,h,f,d⟩;exact⟨e,List.mem_filter.2 ⟨h,by simpa using f⟩,d⟩
theorem IJ {T:List AI} {k:Nat} {t:AI} (h:(BK H T)[k]? = Bs t):∃ i,(FZ H T.length)[k]? = Bs i/\T[i]? = Bs t:=by
 unfold BK at h;rw[VT] at h;cases e:(FZ H T.length)[k]? with
 | none=>rw[e] at h;cases h
 | some i=>
  rw[e] at h;injection h with h;have h:T[i]?.getD tx0=t:=h;have d:=(qc8.1 (O0 e)).1;refine⟨i,rfl,?_⟩;rw[K0 d] at h ⊢;rw[<- h];rfl
theorem q9f {n e:Nat} (g:1<=e) (f:e<=n) (hs:(H.tx e).state=3):(FZ H n)[GV H n e]? = Bs (e-1):=by
 have d:e-1∈FZ H n:=qc8.2 ⟨by omega,.inl (by rw[show e-1+1=e by omega];exact hs)⟩;unfold GV;rw[K0 (List.idxOf_lt_length_iff.2 d),List.getElem_idxOf]
theorem Ry {n k i:Nat} (h:(FZ H n)[k]? = Bs i):GV H n (i+1)=k:=by
 unfold GV;obtain⟨e,d⟩:=List.getElem?_eq_some_iff.1 h;subst d;rw[Nat.add_sub_cancel];exact(Ph H n).idxOf_getElem k e
theorem T6 {T:List AI} {k i:Nat} {t:AI} (h:(FZ H T.length)[k]? = Bs i) (d:T[i]? = Bs t):(BK H T)[k]? = Bs t:=by
 unfold BK;rw[VT,h];show Bs (T[i]?.getD tx0)=_;rw[d];rfl
theorem II (H:Hs) (T:List AI):(BK H T).length=(FZ H T.length).length:=by unfold BK;simp
theorem KT {T:List AI} {now:Int} (h:SI H G (fun _ _=>False)) (st:Bw H G T now):∀ (C A:List Nat) (m:Mp),G.E=A++C->(∀ k,m k=(AZ H A (sx k)).map bs)->WayP (BK H T) (B6 H T.length A) m (B6 H T.length C)
 | [],A,m,d,_=>by
  show Dl (BK H T) (B6 H T.length A);intro k E V;unfold De at V;rw[K0 E] at V;obtain⟨i,r,l⟩:=IJ (K0 E);have M:=st.lt i _ l V;have hi:=(List.getElem?_eq_some_iff.1 l).1;have D:=st.len;rw[WM] at d;exact q8g.2 ⟨i+1,by rw[<- d];exact h.en.2.2 _ ⟨by omega,by omega⟩ (.inr M),M,Ry r⟩
 | e::C,A,m,d,hm=>by
  have D:=st.len;have I:G.E=(A++[e])++C:=by rw[d];simp
  have F:e∈G.E:=by rw[d];simp
  obtain⟨⟨e1,e2⟩,_⟩:=h.en.2.1 e F;have f:∀ L,B6 H T.length (L++[e])=B6 H T.length L++B6 H T.length [e]:=fun L=>by unfold B6;simp
  by_cases hs:(H.tx e).state=3
  ·have O:B6 H T.length [e]=[GV H T.length e]:=by unfold B6;rw[YP,if_pos (by simpa using hs)];rfl
   have N:B6 H T.length (e::C)=GV H T.length e::B6 H T.length C:=by unfold B6;rw[YP,if_pos (by simpa using hs)];rfl
   rw[N];have X:=q9f e1 (by omega:e<=T.length) hs;have p:e-1<T.length:=by omega
   have P:=T6 X (K0 p);have u:Bv (BK H T) (GV H T.length e)=T[e-1].ops:=by unfold Bv;rw[P];rfl
   have y:e ∉ A:=fun g=>by
    have z:=h.en.1;rw[d,Xo] at z;exact z.2.2 e g e (by simp) rfl
   have Y:=st.ops (e-1) _ (K0 p);rw[show e-1+1=e by omega] at Y;have R:=Y m (fun x v hx=>by
    rw[hm,IU,(h.ri e ⟨e1,e2⟩ x v hx).2 (.inr hs) A C d])
   refine⟨(List.getElem?_eq_some_iff.1 P).1,fun g=>?_,fun k E a0 S J=>?_,Dq m (H.tx e).aa,by rw[u];exact R,?_⟩
   ·obtain⟨a,r,l,g3⟩:=q8g.1 g;have U:=(h.en.2.1 a (by rw[d];exact Wa _ r)).1;have q:=q9f U.1 (by have:=U.2;omega:a<=T.length) l;rw[g3,X] at q;injection q with q;have:a=e:=by have:=U.1;omega
    exact y (this▸r)
   ·obtain⟨b0,b1⟩:=J;obtain⟨j,r,l⟩:=IJ (K0 E);unfold De at b0 b1;unfold BM at b1;rw[K0 E] at b0 b1;rw[P] at b1;have hj:=(List.getElem?_eq_some_iff.1 l).1;have M:=st.lt j _ l b0;have J:=st.rt j (e-1) _ _ l (K0 p) b0 b1 (by rw[show e-1+1=e by omega];exact F);rw[show e-1+1=e by omega] at J;obtain⟨t,Z,q1,q2⟩:=J;have hA:t=A:=by
     have z:=h.en.1;have W:A++e::C=t++e::Z:=by rw[<- d,q1]
     have n2:e ∉ t:=fun g=>by
      rw[q1,Xo] at z;exact z.2.2 e g e (by simp) rfl
     have i1:(A++e::C).idxOf e=A.length:=by rw[Y8,if_neg y];simp
     have i2:(t++e::Z).idxOf e=t.length:=by rw[Y8,if_neg n2];simp
     have hl:t.length=A.length:=by rw[<- i1,<- i2,W]
     exact((List.append_inj W hl.symm).1).symm
    subst hA;exact S (q8g.2 ⟨j+1,q2,M,Ry r⟩)
   ·have:=KT h st C (A++[e]) (Dq m (H.tx e).aa) I (fun k=>by
     rw[q45];unfold Dq Hp;rw[if_pos hs];cases q:Is (H.tx e).aa (sx k) with
     | none=>exact hm k
     | some v=>rfl)
    rw[f,O] at this;exact this
  ·have O:B6 H T.length [e]=[]:=by unfold B6;rw[YP,if_neg (by simpa using hs)];rfl
   have N:B6 H T.length (e::C)=B6 H T.length C:=by unfold B6;rw[YP,if_neg (by simpa using hs)]
   rw[N];have:=KT h st C (A++[e]) m I (fun k=>by
    rw[q45];unfold Hp;rw[if_neg hs];exact hm k)
   rw[f,O,WM] at this;exact this
theorem IG {T:List AI} {now:Int} (h:SI H G (fun _ _=>False)) (st:Bw H G T now):(DJ (BK H T) (BK H T).length [] Mp.empty).isSome=T2:=by
 have v:=KT h st G.E [] Mp.empty rfl (fun k=>rfl);refine qap _ _ _ _ ?_ v;rw[II];have r:=st.len;have d:∀ k∈B6 H T.length G.E,k<(FZ H T.length).length:=fun k q=>by
  obtain⟨e,A,z,rfl⟩:=q8g.1 q;have t:=(h.en.2.1 e A).1;exact(List.getElem?_eq_some_iff.1 (q9f t.1 (by have:=t.2;omega) z)).1
 have p:(B6 H T.length G.E).Nodup:=by
  unfold B6;unfold List.Nodup;rw[XA];refine List.Pairwise.imp_of_mem ?_ (List.Nodup.sublist XQ h.en.1);intro a b y x l e;obtain⟨a1,a2⟩:=List.mem_filter.1 y;obtain⟨b1,b2⟩:=List.mem_filter.1 x;have g:=(h.en.2.1 a a1).1;have f:=(h.en.2.1 b b1).1;have q1:=q9f g.1 (by have:=g.2;omega:a<=T.length) (by simpa using a2);have u:=q9f f.1 (by have:=f.2;omega:b<=T.length) (by simpa using b2);rw[e,u] at q1;injection q1 with q1;have:=g.1;have:=f.1;exact l (by omega)
 have:=p.length_le_of_subset (l₂:=Wu (FZ H T.length).length) (fun k q=>List.mem_range.2 (d k q));rw[List.length_range] at this;exact this
end
def Emp (x:Bg):Prop:=x.tab=(fun _=>B0)/\x.sto=(fun _=>[])/\x.done=0
theorem U6 {H:Hs} {s:Nat} (d:∀ j,lg (H.fix s) s j=[]) (h:Emp (H.sh s)):Emp ((H.fix s).sh s):=by
 by_cases g:(H.sh s).aj H.n=[]
 ·unfold Hs.fix;rw[if_pos g];exact h
 ·rw[qcj g] at d ⊢;unfold Hs.aW at d ⊢;simp only at d ⊢;generalize List.foldl (Hs.ay s ((H.sh s).ids H.n)) (H.al s { H.sh s with ab:=wrap64 ((H.sh s).ab+1),size:=((H.sh s).aj H.n).length }) ((H.sh s).aj H.n)=H2 at *;generalize hM:H2.al s { H2.sh s with tab:=fun _=>B0,sto:=fun _=>[],done:=0 } = M at *;have f:Emp (M.sh s):=by rw[<- hM,Cj];exact⟨rfl,rfl,rfl⟩
  have e:M.take s=M:=M6 (fun j _=>by
   have k:lg M s j=[]:=by
    have:=d j;unfold lg at this ⊢;rw[(BF.take M s).nd] at this;exact this
   rw[k,f.2.2];rfl)
  rw[e];exact f
theorem FQ {n:Nat} (h:n<=4):∀ q,q<=3->∀ s,Emp ((BH n q).sh s)
 | 0,_=>fun _=>⟨rfl,rfl,rfl⟩
 | q+1,t=>fun s=>by
  have r:=FQ h q (by omega);obtain⟨l,v⟩:=q49 h q (by omega);obtain⟨u,_⟩:=q49 h (q+1) t;have k:=l.c;have d:=l.new q (L1 _);have f:=u.lg;have e:BH n (q+1)=(BH n q).cc.fix q:=by
   show(BH n q).cc.fix (BH n q).c=_;rw[k]
  rw[e] at f ⊢;have p:=(l.ch.cc (by rw[k];exact d) (fun s j _ _=>v _)).fix;rw[k] at p;by_cases g:s=q
  ·subst g;exact U6 (f s) (r s)
  ·rw[p.sh s g];exact r s
theorem AO.new {n:Nat} (g:n<=4):AO (BD n) ⟨[],fun _=>[]⟩ 1:=by
 obtain⟨r,u,_⟩:=Hw g;have f:=FQ g 3 (L1 _);have e:=(q49 g 3 (L1 _)).1.lg;rw[<- R8] at f e;have d:∀ i,¬Ir (BD n) i:=fun i h=>by have:=h.1;have:=h.2;omega
 refine⟨r,⟨fun k _=>by rw[(f k).1];exact GT.none_,fun x=>by rw[(f 2).1],fun k j _ _=>by rw[(f k).2.2,e];rfl,fun k j _ _ c l=>(by rw[e] at l;cases l),fun k j _ _=>by rw[e];exact⟨fun q c h=>by simp at h,fun q c h=>by simp at h⟩,
  fun k j _ _=>by rw[e,(f k).1,(f k).2.1];exact⟨fun w p=>(nomatch p),EP.nil⟩,fun i h=>absurd h (d i),fun i h=>absurd h (d i),fun i k h=>absurd h (d i),fun i h=>absurd h (d i),fun i j h=>absurd h (d i),fun i h=>absurd h (d i),
  ⟨Ys,fun i h=>(nomatch h),fun i h=>absurd h (d i)⟩,fun t w x h=>absurd h (d t),fun v w x h=>?_,fun t h=>absurd h (d t),fun k _ x o m h=>?_,fun i k h=>absurd h (d i),fun i h=>absurd h (d i)⟩,fun i h=>absurd h (d i)⟩
 ·obtain⟨A,C,h,_⟩:=h;simp at h
 ·rw[(f k).1] at h;cases h
theorem Bw.new {n:Nat} (d:n<=4):Bw (BD n) ⟨[],fun _=>[]⟩ [] 0:=by
 obtain⟨_,f,_⟩:=Hw d;exact⟨f,fun i t e=>by simp at e,fun _ _=>rfl,fun i t e=>by simp at e,fun i u t v e=>by simp at e,fun i t e=>by simp at e⟩
section
variable {H H':Hs} {G:Gh} {B:Int} {i:Nat}
theorem TK {d:List Pr} {x v:Sx} (h:Is d x=Bs (Bs v)):∃ p∈d,v=sx p.val:=by
 unfold Is at h;cases e:d.find? (fun p=>sx p.key == x) with
 | none=>rw[e] at h;cases h
 | some p=>
  rw[e] at h;have h:(if p.gone then B0 else Bs (sx p.val))=Bs v:=by injection h
  refine⟨p,WT e,?_⟩;split at h
  ·cases h
  ·injection h with h;exact h.symm
theorem IE {x v:Sx} : ∀ (n:Nat) (E:List Nat),E.length=n->AZ H E x=Bs v->∃ i∈E,∃ p∈(H.tx i).aa,v=sx p.val
 | 0,E,d,h=>by
  rw[List.length_eq_zero_iff.1 d] at h;cases h
 | n+1,E,d,h=>by
  rcases YG E with e|⟨A,a,e⟩
  ·subst e;cases h
  ·subst e;rw[YH,q45] at h;rw[YH];cases q:Hp H x a with
   | none=>
    rw[q] at h;obtain⟨j,g,f⟩:=IE n A (by simpa using d) h;exact⟨j,Wa _ g,f⟩
   | some u=>
    rw[q] at h;have h:u=Bs v:=h;subst h;unfold Hp at q;split at q
    ·exact⟨a,by simp,TK q⟩
    ·cases q
theorem AO.cD (h:AO H G B) {x v:Sx} (f:AZ H G.E x=Bs v):v.length<=40:=by
 obtain⟨j,k,p,g,rfl⟩:=IE _ _ rfl f;have d:=(h.s.en.2.1 j k).1;have:=((h.a.wf.tx j d.1 d.2).ps p g).2;have e:=I9 p.val;omega
theorem AO.cJ (h:AO H G B) (f:H.m<=40) (id:Int) {x:Sx} (l:x∈names):(H.get id x).1.2.1.length<=40:=by
 have st:=q3p (id:=id) (mode:=1) h.a.wf h.a.c l (by unfold BW;omega);have g:=h.star st f;have y:=st.sm.m;unfold Hs.get;simp only;by_cases k:(H.lock id x 1).1=0
 ·rw[if_neg (by simpa using k)];obtain⟨i,rfl,r,hs,D,z,A,C⟩:=(h.s.cg h.a f l (by unfold BW;omega) k).ix;rw[show((i:Int)).toNat=i by omega];have d:Ir (H.lock i x 1).2 i:=⟨r.1,by rw[y];exact r.2⟩
  cases e:((H.lock i x 1).2.tx i).aa.reverse.find? (fun p=>sx p.key == x) with
  | some p=>
   have u:=List.mem_reverse.1 (WT e);have:=((g.a.wf.tx i d.1 d.2).ps p u).2;have E:=I9 p.val;show(sx p.val).length<=40;omega
  | none=>
   cases t:(H.lock i x 1).2.head (Ad x) with
   | none=>exact absurd t z
   | some j=>
    simp only;rw[g.s.sv g.a d hs t A];cases q:AZ (H.lock i x 1).2 G.E x with
    | none=>exact VK _
    | some v=>exact g.cD q
 ·rw[if_pos (by simpa using k)];exact VK _
def Te (o:C4):Prop:=o.key.size<=40/\o.val.size<=40
def B2 (T:List AI):Prop:=∀ t∈T,∀ o∈t.ops,Te o
theorem B2.nil:B2 []:=fun _ h=>(nomatch h)
theorem B2.op {T:List AI} (h:B2 T) (id:Int) {o:C4} (k:Te o):B2 (CY T id o):=by
 unfold CY;split
 ·rename_i t f;split
  ·intro u e p d;rcases List.mem_or_eq_of_mem_set e with g|g
   ·exact h u g p d
   ·subst g;rcases List.mem_append.1 d with g|g
    ·exact h t (O0 f) p g
    ·rw[List.mem_singleton.1 g];exact k
  ·exact h
 ·exact h
theorem B2.late {T:List AI} (h:B2 T) (H:Hs) (now:Int):B2 (BT H now T):=by
 intro t k o l;unfold BT at k;obtain⟨i,d⟩:=List.mem_iff_getElem?.1 k;rw[V5] at d;cases e:T[i]? with
 | none=>rw[e] at d;cases d
 | some g=>
  rw[e] at d;injection d with d;subst d;have f:(Dw H now i g).ops=g.ops:=by unfold Dw;split <;> rfl
  rw[f] at l;exact h g (O0 e) o l
theorem FX (a:Int):(⟨(AR a).toArray⟩:ByteArray).size<=40:=by
 have h:∀ x∈names,x.length<=40:=by decide
 have:=h _ (OF a);show(AR a).toArray.size<=40;simpa using this
theorem B2.mid {safe:Bool} {nodes:Nat} {now:Int} {x:ActX} {T T':List AI} (f:B2 T) (h:AO H G B) (e:H.m<=40) (r:Br safe nodes now x H T H' T'):B2 T':=by
 cases r with
 | begin _ p=>
  intro t k o d;rcases List.mem_append.1 k with g|g
  ·exact f t g o d
  ·rw[List.mem_singleton.1 g] at d;cases d
 | get _ l=>
  refine f.op _ ⟨FX _,?_⟩;have:=h.cJ e (AY T x.tx) (OF x.a);show(H.get (AY T x.tx) (AR x.a)).1.2.1.toArray.size<=40;simpa using this
 | put _ l=>exact f.op _ ⟨FX _,by have:=qa3 x.val;show(CH x.val).size<=40;omega⟩
 | _=>exact f
end
section
open Go.RowKit Go.Maps Go.WideMaps
theorem Ld:Keyed Tryz.prog 9:=string_keyed Tryz.underlying9
theorem zeroS (w:B1):(zeroValue 9).run Tryz.prog w=.ok (.string ⟨#[]⟩) w:=by kernel_rfl
def Nx (s:ByteArray):Lit:=.string s.data.toList
theorem Nv (s:ByteArray):WideAt.IsKeyLit (Nx s):=trivial
theorem Nw {s t:ByteArray} (h:Nx s=Nx t):s=t:=by
 unfold Nx at h;injection h with h;have:s.data=t.data:=Array.ext' h;cases s;cases t;simp_all
def q86 (D:Yv Unit) (m:Mp):Prop:=∀ s:ByteArray,s.size<=VZ->Maps.has D (Nx s)=(m s).isSome/\∀ v,m s=Bs v->∀ z,D.atKey (Nx s) z=.lit (.string v.data.toList)
def Bz (w:B1) (b n:Nat) (m:Mp):Prop:=∃ D:Yv Unit,w.ownsMap Tryz.prog 9 (plainElem Tryz.prog 9) b n D/\q86 D m
section
variable {w w':B1} {b n:Nat} {m:Mp}
theorem Bz.lt (h:Bz w b n m):b<w.heap.size:=by obtain⟨D,h,_⟩:=h;exact h.lt
theorem Bz.mono (h:Bz w b n m) {n':Nat} (e:n<=n'):Bz w b n' m:=by obtain⟨D,h,d⟩:=h;exact⟨D,h.mono e,d⟩
theorem Bz.of_block (h:Bz w b n m) (e:w'.heap[b]? = w.heap[b]?):Bz w' b n m:=by
 obtain⟨D,⟨k,d,g,r⟩,f⟩:=h;exact⟨D,⟨k,d,e.trans g,r⟩,f⟩
theorem Bz.fr {S:Nat->Prop} (h:Bz w b n m) (e:Fr S w w') (d:¬S b):Bz w' b n m:=h.of_block (e.block b h.lt d)
theorem Bz.alloc (h:Bz w b n m) (o:Obj):Bz (w.alloc o) b n m:=h.fr (S:=fun _=>False) ((Fr.refl _ _).alloc o) (fun x=>x)
theorem GE:q86 (.map []) Mp.empty:=fun s _=>⟨rfl,fun v h=>by cases h⟩
theorem Bz.made (w:B1):Bz (w.alloc (.map #[] 0)) w.heap.size 0 Mp.empty:=⟨_,World.ownsMap_made w _ _ _,GE⟩
theorem q86.set {D:Yv Unit} (h:q86 D m) (k:IsMap D) (s v:ByteArray):q86 (D.put (Nx s) (.lit (.string v.data.toList))) (m.set s (Bs v)):=fun t g=>by
 by_cases e:t=s
 ·subst e;rw[has_put_same k (Nv t)];refine⟨by simp[Mp.set],fun u f z=>?_⟩;rw[atKey_put_same k (Nv t)];simp[Mp.set] at f;rw[f]
 ·have d:Nx t≠Nx s:=fun p=>e (Nw p)
  rw[has_put_other d];have l:m.set s (Bs v) t=m t:=by simp[Mp.set,e]
  rw[l];refine⟨(h t g).1,fun u f z=>?_⟩;rw[atKey_put_other d];exact(h t g).2 u f z
theorem q86.del {D:Yv Unit} (h:q86 D m) (s:ByteArray):q86 (D.del (Nx s)) (m.set s B0):=fun t g=>by
 by_cases e:t=s
 ·subst e;rw[has_del_same];exact⟨by simp[Mp.set],fun u f z=>by simp[Mp.set] at f⟩
 ·have d:Nx t≠Nx s:=fun l=>e (Nw l)
  rw[has_del_other d];have k:m.set s B0 t=m t:=by simp[Mp.set,e]
  rw[k];refine⟨(h t g).1,fun u f z=>?_⟩;rw[atKey_del_other d];exact(h t g).2 u f z
theorem Bz.look (h:Bz w b n m) (s:ByteArray) (hs:s.size<=VZ) :
  (Instr.lookup 113 (.map (Bs b)) (.string s) T2).run Tryz.prog w=.ok (.tuple #[.string ((m s).getD ⟨#[]⟩),.bool (m s).isSome]) w:=by
 obtain⟨D,r,q⟩:=h;obtain⟨v,ps,f,y⟩:=r.look_ok Ld Tryz.underlying113 (zeroS w) (zd:=.lit (.string [])) (zp:=[]) (plainElem_string Tryz.underlying9 (s:=⟨#[]⟩) (by unfold VZ;show 0<=_;omega)) (keyOf_string_mk Tryz.underlying9 hs);obtain⟨u,rfl,g,_⟩:=plainElem_string_inv Tryz.underlying9 y;obtain⟨l,z⟩:=q s hs;rw[f];have t:(Lit.string s.data.toList)=Nx s:=rfl;rw[t] at g ⊢;have e:u=(m s).getD ⟨#[]⟩:=by
  rcases k:m s with _|x
  ·have p:D.atKey (Nx s) (.lit (.string []))=.lit (.string []):=atKey_of_not_has (by rw[l,k];rfl) _;rw[p] at g;have d:(DataW.lit (Lit.string []):Yv Unit)=.lit (.string u.data.toList):=congrArg Prod.fst g;simp only[DataW.lit.injEq,Lit.string.injEq] at d;show u=_;have:u.data=#[]:=Array.ext' (by simpa using d.symm);cases u;simp_all
  ·rw[z x k] at g;have d:(DataW.lit (Lit.string x.data.toList):Yv Unit)=.lit (.string u.data.toList):=congrArg Prod.fst g;simp only[DataW.lit.injEq,Lit.string.injEq] at d;show u=x;have:u.data=x.data:=Array.ext' d.symm;cases u;cases x;simp_all
 rw[l,e]
end
section
variable {w:B1} {ops:Array Oper} {rest:List Oper} {o:Oper} {a:Act} {Q:Exit->Act->B1->Prop} {K:Act->B1->Prop}
theorem Qm (m x v:X6) (q:o.op=Op.mapUpdate 113 m x v) (b n:Nat) (r:Mp) (E:a.eval m=.map (Bs b)) (l:Bz w b n r) (C:n<VZ) (f d:ByteArray) (z:a.eval x=.string f) (A:a.eval v=.string d)
  (F:f.size<=VZ) (p:d.size<=VZ) (I:∀ w',Bz w' b (n+1) (r.set f (Bs d))->Fr (fun k=>k=b) w w'->K (a.put o.dst undef) w'):o.wp Tryz.prog a w K Q:=by
 obtain⟨D,t,g⟩:=l;obtain⟨w',h,y,u⟩:=t.update Ld Tryz.underlying113 C (keyOf_string_mk Tryz.underlying9 F) (plainElem_string Tryz.underlying9 p);unfold Oper.wp;simp[execOp,q,E,z,A,h,WV];exact I _ ⟨_,y,g.set t.isMap f d⟩ (Fr.aP u (fun k e=>(Wj e).symm))
theorem Gx (z:o.guard=B0) (m x v:X6) (l:o.op=Op.mapUpdate 113 m x v) (b n:Nat) (g:Mp) (u:a.eval m=.map (Bs b)) (f:Bz w b n g) (t:n<VZ) (e d:ByteArray) (q:a.eval x=.string e) (r:a.eval v=.string d)
  (y:e.size<=VZ) (h:d.size<=VZ) (A:∀ w',Bz w' b (n+1) (g.set e (Bs d))->Fr (fun k=>k=b) w w'->wpList Tryz.prog ops Q rest (a.put o.dst undef) w'):wpList Tryz.prog ops Q (o::rest) a w:=
 wpList_plain z fun _ p=>Qm m x v l b n g u f t e d q r y h fun w' D C=>p _ _ (A w' D C)
theorem Qn (m x:X6) (l:o.op=Op.call { callee:=Callee.builtin Builtin.delete,args:=#[m,x],argTypes:=#[113,9] }) (b n:Nat) (p:Mp) (v:a.eval m=.map (Bs b)) (h:Bz w b n p) (d:ByteArray) (t:a.eval x=.string d)
  (y:d.size<=VZ) (z:∀ w',Bz w' b n (p.set d B0)->Fr (fun k=>k=b) w w'->K (a.put o.dst (.tuple #[])) w'):o.wp Tryz.prog a w K Q:=by
 obtain⟨D,u,f⟩:=h;obtain⟨w',g,r,q⟩:=u.drop Ld Tryz.underlying113 (keyOf_string_mk Tryz.underlying9 y) o.type;unfold Oper.wp;simp[execOp,l,resolve,invoke,builtin,v,t,g,WV];exact z _ ⟨_,r,f.del d⟩ (Fr.aP q.grown (fun k e=>(Wj e).symm))
theorem Gy (r:o.guard=B0) (m x:X6) (g:o.op=Op.call { callee:=Callee.builtin Builtin.delete,args:=#[m,x],argTypes:=#[113,9] }) (b n:Nat) (f:Mp) (p:a.eval m=.map (Bs b)) (e:Bz w b n f) (d:ByteArray) (l:a.eval x=.string d)
  (q:d.size<=VZ) (t:∀ w',Bz w' b n (f.set d B0)->Fr (fun k=>k=b) w w'->wpList Tryz.prog ops Q rest (a.put o.dst (.tuple #[])) w'):wpList Tryz.prog ops Q (o::rest) a w:=
 wpList_plain r fun _ h=>Qn m x g b n f p e d l q fun w' v u=>h _ _ (t w' v u)
end
end
end Go.Proofs.YtccahlhdifadfaaGreatDoor
