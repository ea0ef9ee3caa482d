/- Part 4 of the texts that the claim rests on (of 9): HsX, IxW, IxC, Hf2, Hf3, Hf4, Hf5, HsK, HsV, Hf6, Hf7, Hf8, Hf9, HfA, HfB, HfC, HfD, HfE. -/
import Derived.Test.YtccahlhdifadfaaGreatDoorPk02
namespace Go.Proofs.YtccahlhdifadfaaGreatDoor
open Go.RowKit
open _root_.And renaming intro → Wm
open _root_.Bool renaming false → Jx, true → T2, not_eq_true → XX, true_and → YD
open _root_.Go renaming World → B1, Value → Hi, TypeId → VQ, Calls → VX, maxLen → VZ, Ending → WA, Addr → Xb, callFunc → XP
open _root_.Go.Addr.mk renaming injEq → W7
open _root_.Go.IntWalk renaming wrap64_in → Xq
open _root_.Go.RowKit renaming Below → VJ
open _root_.Go.RowKit.Below renaming refl → S2
open _root_.Go.Value renaming int → Wi, oneCell' → Wy, slice → WI
open _root_.Go.World renaming ownsRow_nil → VY, block_lt_of_cell? → V0
open _root_.List renaming getElem?_cons_zero → D0, getElem?_toArray → Ft, getElem?_eq_getElem → K0, getElem?_cons_succ → N2, mem_of_getElem? → O0, flatMap_cons → VI, mem_cons_self → VL, mem_cons_of_mem → VM, length_append → VP, findIdx?_eq_some_iff_getElem → VR, getElem?_map → VT, take_of_length_le → VU, take_add_one → VV, mem_singleton → VW, getElem?_append_left → Wc, getElem?_append_right → Wd, length_map → Wh, findIdx?_eq_none_iff → Wk, length_take → Wz, mem_of_mem_take → WB, length_filter_le → WD, getElem_mem → WE, length_cons → WH, take_length → WR, foldl_append → WS, mem_of_find?_eq_some → WT, drop_drop → Xi, mem_take_iff_getElem → Xy, drop_eq_getElem_cons → Xz, pairwise_map → XA, take_zero → XN, filter_sublist → XQ, not_mem_nil → XS, filter_append → XT, any_eq_true → XU, filter_congr → X3, findIdx?_cons → Y1, filter_cons_of_pos → Y3, filter_cons_of_neg → Y4
open _root_.List.Nodup renaming length_le_of_subset → WZ
open _root_.List.Pairwise renaming filter → X1
open _root_.List.Sublist renaming refl → XO
open _root_.Nat renaming le_refl → L1, lt_of_lt_of_le → VH, zero_le → VK, le_trans → VO, zero_add → Wg, add_sub_cancel → W1
open _root_.Option renaming some → Bs, none → B0, map_some → Wv
open _root_.Option.some renaming injEq → VN, inj → Wj
set_option linter.all false
set_option maxRecDepth 100000
set_option maxHeartbeats 16000000
section
variable {w w' w2:B1} {own own':Ai} {i g:Nat} {v:KN} {t:Bi}
theorem Cx.aQ (h:Cx w own i g v t):v.Vw.ownBlock≠Bs g/\v.Vx.ownBlock≠Bs g/\v.bs≠g/\v.bp≠g/\v.Vw.ownBlock≠Bs v.bs/\v.Vw.ownBlock≠Bs v.bp/\v.Vx.ownBlock≠Bs v.bs/\v.Vx.ownBlock≠Bs v.bp:=
 ⟨Be h.aa h.ah (by decide),Be h.af h.ah (by decide),h.ad.a6 h.ah,h.places.a6 h.ah,h.ad.aG h.aa,h.places.aG h.aa,h.ad.aG h.af,h.places.aG h.af⟩
theorem Cx.bU (h:Cx w own i g v t) {t':Bi} {v':KN} (a:Ab w' g 78 (OE v' i t')) (c:Fr (fun k=>k=g) w w') (e1:v'.Vw=v.Vw) (f:v'.bs=v.bs) (d:v'.bp=v.bp) (l:v'.Vx=v.Vx) (u:t'.aa=t.aa) (s:t'.ad=t.ad) (r:t'.places=t.places) (q:t'.af=t.af) :
  Cx w' own i g v' t':=by
 obtain⟨p,n2,o,m,_⟩:=h.aQ;refine⟨a,?_,?_,?_,?_,by rw[f,d];exact h.ne,h.gt,by rw[e1];exact h.wt,by rw[f];exact h.st,by rw[d];exact h.pt,by rw[l];exact h.xt⟩
 ·rw[e1,u];exact c.own h.aa (fun b a e=>p (by rw[a,e]))
 ·rw[f,s];exact h.ad.fr c o
 ·rw[d,r];exact h.places.fr c m
 ·rw[l,q];exact c.own h.af (fun b a e=>n2 (by rw[a,e]))
theorem Cx.setState (h:Cx w own i g v t) (s:Int):Cx (w.setCell ⟨g,1,B0⟩ (.int .i64 s)) own i g v { t with state:=s }:=
 h.bU (h.ah.aC 1 _) (Fr.ax g w 1 _) rfl rfl rfl rfl rfl rfl rfl rfl
theorem Cx.bZ (h:Cx w own i g v t) (s:Int):Cx (w.setCell ⟨g,5,B0⟩ (.int .i64 s)) own i g v { t with ae:=s }:=
 h.bU (h.ah.aC 5 _) (Fr.ax g w 5 _) rfl rfl rfl rfl rfl rfl rfl rfl
theorem Cx.bM (h:Cx w own i g v t) {V':Hi} {l':List (Sx×Int)} (f:Ext own own' w.heap.size) (m:Fr (fun k=>v.Vx.ownBlock=Bs k\/w.heap.size<=k) w w2) (o:w2.ownsRow 0 129 2 V' l'.length (l'.flatMap Ei)) (x:∀ b,V'.ownBlock=Bs b->own' b=Bs (.tx i)) :
  Cx (w2.setCell ⟨g,8,B0⟩ V') own' i g { v with Vx:=V' } { t with af:=l' }:=by
 obtain⟨u,n2,s,r,A,z,q,p⟩:=h.aQ;have d:∀ {b},b<w.heap.size->v.Vx.ownBlock≠Bs b->¬(v.Vx.ownBlock=Bs b\/w.heap.size<=b):=fun c y hs=>hs.elim y (by omega)
 have l:Ab w2 g 78 (OE v i t):=m.ah h.ah (d h.ah.lt n2);have a:=Fr.ax g w2 8 V';refine⟨l.aC 8 V',?_,?_,?_,a.own o (fun b c e=>Be o l (by decide) (by rw[c,e])),h.ne,(f _ h.ah.lt).trans h.gt,fun b c=>(f _ (h.aa.lt b c).2).trans (h.wt b c),h.st.imp (fun e=>(f _ h.ad.lt).trans e) (fun e=>(f _ h.ad.lt).trans e),(f _ h.places.lt).trans h.pt,x⟩
 ·exact a.own (m.own h.aa (fun b c=>d (h.aa.lt b c).2 (fun e=>E0 h.aa h.af (by decide) c e))) (fun b c e=>u (by rw[c,e]))
 ·exact(h.ad.fr m (d h.ad.lt q)).fr a s
 ·exact(h.places.fr m (d h.places.lt p)).fr a r
theorem Cx.cE (h:Cx w own i g v t) {V':Hi} {l':List Pr} (f:Ext own own' w.heap.size) (m:Fr (fun k=>v.Vw.ownBlock=Bs k\/w.heap.size<=k) w w2) (o:w2.ownsRow 0 45 3 V' l'.length (l'.flatMap C9)) (x:∀ b,V'.ownBlock=Bs b->own' b=Bs (.tx i)) :
  Cx (w2.setCell ⟨g,2,B0⟩ V') own' i g { v with Vw:=V' } { t with aa:=l' }:=by
 obtain⟨u,n2,s,r,q,p,A,z⟩:=h.aQ;have d:∀ {b},b<w.heap.size->v.Vw.ownBlock≠Bs b->¬(v.Vw.ownBlock=Bs b\/w.heap.size<=b):=fun c y hs=>hs.elim y (by omega)
 have l:Ab w2 g 78 (OE v i t):=m.ah h.ah (d h.ah.lt u);have a:=Fr.ax g w2 2 V';refine⟨l.aC 2 V',a.own o (fun b c e=>Be o l (by decide) (by rw[c,e])),?_,?_,?_,h.ne,(f _ h.ah.lt).trans h.gt,x,h.st.imp (fun e=>(f _ h.ad.lt).trans e) (fun e=>(f _ h.ad.lt).trans e),(f _ h.places.lt).trans h.pt,fun b c=>(f _ (h.af.lt b c).2).trans (h.xt b c)⟩
 ·exact(h.ad.fr m (d h.ad.lt q)).fr a s
 ·exact(h.places.fr m (d h.places.lt p)).fr a r
 ·exact a.own (m.own h.af (fun b c=>d (h.af.lt b c).2 (fun e=>E0 h.af h.aa (by decide) c e))) (fun b c e=>n2 (by rw[c,e]))
theorem Cx.bV (h:Cx w own i g v t) {d:Int->Option Int} (a:Fr (fun k=>k=v.bs) w w2) (o:Aa BC w2 v.bs 100 (Db d)):Cx w2 own i g v { t with ad:=d }:=by
 obtain⟨s,n2,m,r,l,q,f,p⟩:=h.aQ;exact⟨a.ah h.ah (fun e=>m e.symm),a.own h.aa (fun b c e=>l (by rw[c,e])),o,h.places.fr a (fun e=>h.ne e.symm),a.own h.af (fun b c e=>f (by rw[c,e])),h.ne,h.gt,h.wt,h.st,h.pt,h.xt⟩
theorem Cx.bW (h:Cx w own i g v t) {d:Int->Option Int} (a:Fr (fun k=>k=v.bp) w w2) (o:Aa BC w2 v.bp 100 (Db d)):Cx w2 own i g v { t with places:=d }:=by
 obtain⟨s,n2,r,m,q,l,p,f⟩:=h.aQ;exact⟨a.ah h.ah (fun e=>m e.symm),a.own h.aa (fun b c e=>l (by rw[c,e])),h.ad.fr a h.ne,o,a.own h.af (fun b c e=>f (by rw[c,e])),h.ne,h.gt,h.wt,h.st,h.pt,h.xt⟩
theorem qce (f:Int->Option Int) (k e:Int):AU (Db f) k (Bs (.int .i64 e))=Db (AG f k e):=by
 funext j;unfold AU Db AG;split <;> rfl
theorem B8.bO {base k g a:Nat} {m:VQ} {u c:Array Hi} {l:Option Nat} {e:Sx->Hi} {K:Kp} {d:Int} {S:Nat->Prop} (h:B8 w base k g a m u l e K d) (q:Fr S w w') (p:∀ b,Dz l e K b->¬S b) (f:Ab w' g m c) (s:c[a]? = Bs (.map l)) (r:c[a+1]? = Bs (.int .i64 d)) :
  B8 w' base k g a m c l e K d:=
 ⟨f,s,r,h.ne,h.map.fr q (fun b f=>p b (.inl f)),fun x o=>(h.rows x o).fr q (fun b f=>p b (.inr ⟨x,o,f⟩)),h.apart,h.small,h.times,h.sorted,h.len,h.cH,h.cV,h.cA,h.lo⟩
theorem AD.bO {base k g a:Nat} {l:VQ} {r d:Array Hi} {f:Option Nat} {c:Sx->Av} {T:Tb} {S:Nat->Prop} (h:AD w base k g a l r f c T) (m:Fr S w w') (p:∀ b,AE f c T b->¬S b) (e:Ab w' g l d) (q:d[a]? = Bs (.map f)) :
  AD w' base k g a l d f c T:=
 ⟨e,q,h.map.fr m (fun b e=>p b (.inl e)),fun x k o=>(h.keys x k o).fr m (fun b e=>p b (.inr ⟨x,by rw[o];simp,e⟩)),h.apart,h.small,h.ne,h.cA,h.bT,VO h.bg m.size⟩
theorem D3.bU {n s g:Nat} {gn:Nat->Nat} {v:NO} {x x':Bg} (h:D3 w own n s g gn v x) (c:Ab w' g 105 (FC v x')) (d:Fr (fun k=>k=g) w w') (e1:x'.ak=x.ak) (l:x'.tab=x.tab) (f:x'.sto=x.sto):D3 w' own n s g gn v x':=by
 have a:=h.gt;have p:∀ b,AE v.mt v.cX x.tab b->¬b=g:=fun b c e=>by have:=h.bq b c;rw[e,a] at this;cases this
 have n2:∀ b,Dz v.ms v.cY x.sto b->¬b=g:=fun b c e=>by have:=h.b6 b c;rw[e,a] at this;cases this
 have o:¬v.bd=g:=fun e=>by have:=h.c5;rw[e,a] at this;cases this
 have m:∀ b,v.Vn.ownBlock=Bs b->¬b=g:=fun b c e=>by have:=h.br b c;rw[e,a] at this;cases this
 exact⟨d.own h.row m,h.br,by rw[e1];exact h.dd.fr d o,h.c5,by rw[l];exact h.tab.bO d p c rfl,by rw[l];exact h.bq,by rw[f];exact h.sto.bO d n2 c rfl rfl,by rw[f];exact h.b6,a⟩
theorem D3.bJ {n s g:Nat} {gn:Nat->Nat} {v:NO} {x:Bg} (h:D3 w own n s g gn v x) (d:Nat):D3 (w.setCell ⟨g,7,B0⟩ (.int .i64 d)) own n s g gn v { x with done:=d }:=
 h.bU (h.tab.ah.aC 7 _) (Fr.ax g w 7 _) rfl rfl rfl
end
def wnV (x:Sx×Int):Hi:=.agg #[.string ⟨x.1.toArray⟩,.int .i64 x.2]
theorem nflat:∀ (l:List (Sx×Int)) (j:Nat) (x:Sx×Int),l[j]? = Bs x->∀ i,i<2->(l.flatMap Ei)[j*2+i]? = (Ei x)[i]?
 | [],j,p,h,i,a=>by simp at h
 | q::l,0,p,h,i,a=>by
  simp at h;subst h;rw[VI,Wc (by show _<2;omega)];simp
 | q::l,j+1,p,h,i,a=>by
  have d:l[j]? = Bs p:=by simpa using h
  have e:(j+1)*2+i=(j*2+i)+2:=by omega
  have c:(Ei q).length=2:=rfl;rw[e,VI,Wd (by rw[c];omega),c,W1];exact nflat l j p d i a
def nCells (w:B1) (g o:Nat) (x:Sx×Int):Prop:=w.cell? ⟨g,o,B0⟩=Bs (.string ⟨x.1.toArray⟩)/\w.cell? ⟨g,o+1,B0⟩=Bs (.int .i64 x.2)
theorem nat {w:B1} {B n j:Nat} {A:Option Xb} {l:List (Sx×Int)} (h:Rd w B 2 A n (l.flatMap Ei)) (o:l.length=n) (p:j<n):∃ g a x,A=Bs ⟨g,a,B0⟩/\g<B/\l[j]? = Bs x/\nCells w g (a+j*2) x:=by
 obtain⟨g,a,e,m,f⟩:=h.2 (by omega);have c:l[j]? = Bs l[j]:=K0 (by omega);have d:=nflat l j _ c;exact⟨g,a,l[j],e,m,c,f (j*2) _ (d 0 (by omega)),f (j*2+1) _ (d 1 (by omega))⟩
def Eb (F:Nat) (lb:Array Hi) (p:Sx×Int->Bool) (g:Option Nat) (w:B1):Prop:=
 ∀ (W:B1) (x:Sx×Int),Fr (fun k=>g=Bs k) w W->VX Tryz.prog F (#[wnV x]++lb) W fun e w'=>e=.returned (.bool (p x))/\VJ W.heap.size W w'
def CO (p:Sx×Int->Bool) (L:List (Sx×Int)):Int:=match L.findIdx? p with|some i=>(i:Int)|none=>-1
theorem RP (p:Sx×Int->Bool) (L:List (Sx×Int)):decide (0<=CO p L)=L.any p:=by
 unfold CO;rcases h:L.findIdx? p with _|i
 ·rw[Wk] at h;have:L.any p=Jx:=by rw[List.any_eq_false];intro x a;simp[h x a]
  rw[this];rfl
 ·rw[VR] at h;obtain⟨c,d,_⟩:=h;have:L.any p=T2:=by rw[XU];exact⟨L[i],WE c,d⟩
  rw[this];simp
theorem UK (p:Sx×Int->Bool) (L:List (Sx×Int)):-1<=CO p L/\CO p L<=L.length:=by
 unfold CO;rcases h:L.findIdx? p with _|i
 ·simp only;omega
 ·rw[VR] at h;obtain⟨a,c,_⟩:=h;simp only;omega
def nIRel (p:Sx×Int->Bool) (L:List (Sx×Int)) (n:Nat) (w:B1) (v:Hi) (wr:B1):Prop:=∃ j:Nat,v=.int .i64 j/\j<=n/\(∀ x∈L.take j,p x=Jx)/\VJ w.heap.size w wr
theorem UI {g:Option Nat} {w W:B1} (a:VJ w.heap.size w W):Fr (fun k=>g=Bs k) w W:=⟨a.os,a.tape,a.output,a.size,fun k c _=>a.block k c⟩
theorem q7p (F:Nat) (lb:Array Hi) (p:Sx×Int->Bool) (M:Option Nat) (A:Option Xb) (n k:Nat) (L:List (Sx×Int)) (w:B1) (Z:∀ args w,(XP F args).run Tryz.prog w=.ok (.enter F args) w)
  (d:Eb F lb p M w) (G:Rd w w.heap.size 2 A n (L.flatMap Ei)) (J:L.length=n) (U:n<=100000) :
  VX Tryz.prog 84 #[.slice A n k,.func (.func F) #[] lb] w fun e w'=>e=.returned (.int .i64 (CO p L))/\VJ w.heap.size w w':=by
 have O:=LH G;clear G;have Q:=LH d;clear d;go_enter Tryz.func84,Tryz.ntmps84;go_wp2_with fail;go_loopw [8] (nIRel p L n w) (fun v _=>n-(intOf v).toNat)
 case atStart=>exact⟨0,rfl,VK _,(fun x q=>by simp at q),S2 _ _⟩
 case round=>
  obtain⟨j,rfl,V,f,c⟩:=hrel;by_cases I:(j:Int)<n
  ·obtain⟨N,T,x,rfl,E,q,Y,X⟩:=nat (O.o.below c) J (j:=j) (by omega);have K:N<wr.heap.size:=VH E c.size;have a:=Q.o wr x (UI c);have B:j<L.length:=by omega
   have o:p x=T2->CO p L=j:=fun d=>by
    have:L.findIdx? p=Bs j:=by
     rw[VR];refine⟨B,?_,fun i W=>?_⟩
     ·rw[<- Wj ((K0 B).symm.trans q)] at d;exact d
     ·simp only[XX];exact f _ (by rw[Xy];exact⟨i,by omega,rfl⟩)
    unfold CO;rw[this]
   have h:p x=Jx->∀ y∈L.take (j+1),p y=Jx:=fun d y r=>by
    rw[VV,q] at r;rcases List.mem_append.1 r with r|r
    ·exact f y r
    ·simp at r;rw[r];exact d
   have C:=LH o;clear o;have s:=LH h;clear h;have R:=LH f;clear f;have HX:=LH q;clear q;unfold wnV at a;rcases d:p x with _|_
   ·rw[d] at a;have u:=LH d;clear d;have D:=LH a;clear a;go_wp2_with fail;refine D.o.mono ?_;rintro e w2 ⟨rfl,m⟩;clear D;have z:=LH (c.trans (m.mono c.size));clear m;go_wp2_with fail;go_roundw
    case rel=>exact⟨j+1,rfl,by omega,s.o u.o,z.o⟩
    case measure=>simp[intOf];omega
   ·rw[d] at a;have u:=LH d;clear d;have D:=LH a;clear a;go_wp2_with fail;refine D.o.mono ?_;rintro e w2 ⟨rfl,m⟩;clear D;have z:=LH (c.trans (m.mono c.size));clear m;go_wp2_with fail;go_ret;exact⟨by rw[C.o u.o];rfl,z.o⟩
  ·obtain rfl:j=n:=by omega
   have l:CO p L = -1:=by
    have:L.findIdx? p=B0:=by
     rw[Wk];intro x q;exact f x (by rw[VU (by omega)];exact q)
    unfold CO;rw[this]
   have S:=LH l;clear l f;go_wp2_with fail;go_ret;rw[S.o];exact⟨rfl,c⟩
theorem q6s (F:Nat) (lb:Array Hi) (p:Sx×Int->Bool) (m:Option Nat) (A:Option Xb) (n k:Nat) (L:List (Sx×Int)) (w:B1) (s:∀ args w,(XP F args).run Tryz.prog w=.ok (.enter F args) w)
  (h:Eb F lb p m w) (f:Rd w w.heap.size 2 A n (L.flatMap Ei)) (r:L.length=n) (o:n<=100000) :
  VX Tryz.prog 62 #[.slice A n k,.func (.func F) #[] lb] w fun e w'=>e=.returned (.bool (L.any p))/\VJ w.heap.size w w':=by
 have a:=q7p F lb p m A n k L w s h f r o;have l:=RP p L;have d:=LH a;clear a h f;have u:=LH l;clear l;have q:=UK p L;generalize CO p L=z at *;go_enter Tryz.func62,Tryz.ntmps62;go_wp2_with fail;refine d.o.mono ?_;rintro e w2 ⟨rfl,c⟩;go_wp2_with fail;go_ret;rw[<- u.o];exact⟨rfl,c⟩
def Nq (w:B1) (g o:Nat) (x:Sx×Int):B1:=(w.setCell ⟨g,o,B0⟩ (.string ⟨x.1.toArray⟩)).setCell ⟨g,o+1,B0⟩ (.int .i64 x.2)
theorem RI (w:B1) (g o:Nat) (x:Sx×Int):Fr (fun i=>i=g) w (Nq w g o x):=
 ((Fr.refl (fun i=>i=g) w).setCell (p:=⟨g,o,B0⟩) (.inl rfl) _).setCell (p:=⟨g,o+1,B0⟩) (.inl rfl) _
theorem nset:∀ (M:List (Sx×Int)) (i:Nat) (x:Sx×Int),i<M.length->(((M.flatMap Ei).set (i*2) (.string ⟨x.1.toArray⟩)).set (i*2+1) (.int .i64 x.2))=(M.set i x).flatMap Ei
 | [],i,x,h=>by simp at h
 | y::M,0,x,_=>by simp[Ei]
 | y::M,i+1,x,h=>by
  have a:=nset M i x (by simpa using h);have c:(i+1)*2=i*2+2:=by omega
  rw[c,List.set_cons_succ,VI,VI,<- a];simp[Ei,Nat.add_right_comm]
theorem OZ {w:B1} {base g n cap i:Nat} {M:List (Sx×Int)} (h:w.ownsRow base 129 2 (.slice (Bs ⟨g,0,B0⟩) n cap) n (M.flatMap Ei)) (x:Sx×Int) (a:i<M.length) :
  (Nq w g (i*2) x).ownsRow base 129 2 (.slice (Bs ⟨g,0,B0⟩) n cap) n ((M.set i x).flatMap Ei):=by
 rw[<- nset M i x a];exact((h.stored _ _).1.stored _ _).1
theorem ntake' (L:List (Sx×Int)) (i:Nat):(L.flatMap Ei).take (i*2)=(L.take i).flatMap Ei:=by
 induction L generalizing i with
 | nil=>simp
 | cons x L a=>
  cases i with
  | zero=>simp
  | succ i=>rw[show(i+1)*2=i*2+2 by omega,VI,List.take_succ_cons,VI,<- a];simp[Ei]
def Ck (p:Sx×Int->Bool) (L:List (Sx×Int)):List (Sx×Int):=L.filter fun x=>!p x
def Nr (base a n cap:Nat) (p:Sx×Int->Bool) (L:List (Sx×Int)) (w:B1) (u v:Hi) (wr:B1):Prop:=
 ∃ (i j:Nat) (M:List (Sx×Int)),u=.int .i64 i/\v=.int .i64 j/\i<j/\j<=n/\M.length=n/\M.take i=Ck p (L.take j)/\M.drop j=L.drop j/\wr.ownsRow base 129 2 (.slice (Bs ⟨a,0,B0⟩) n cap) n (M.flatMap Ei)/\Fr (fun k=>Bs a=Bs k) w wr
def Ew (base a cap:Nat) (n:Nat) (l:List (Sx×Int)) (w:B1) (e:WA) (w':B1):Prop:=
 e=.returned (.slice (Bs ⟨a,0,B0⟩) l.length cap)/\w'.ownsRow base 129 2 (.slice (Bs ⟨a,0,B0⟩) l.length cap) l.length (l.flatMap Ei)/\Fr (fun k=>Bs a=Bs k) w w'/\l.length<=n
theorem q9l {p:Sx×Int->Bool} {L:List (Sx×Int)} {j:Nat} {x:Sx×Int} (h:L[j]? = Bs x):Ck p (L.take (j+1))=if p x then Ck p (L.take j) else Ck p (L.take j)++[x]:=by
 unfold Ck;rw[VV,h,XT];rcases a:p x with _|_ <;> simp[a]
theorem LK {p:Sx×Int->Bool} {L:List (Sx×Int)} {i:Nat} (h:CO p L=i):i<L.length/\L.take i=Ck p (L.take (i+1)):=by
 unfold CO at h;rcases a:L.findIdx? p with _|j
 ·rw[a] at h;simp only at h;omega
 ·rw[a] at h;have e:j=i:=by have o:(j:Int)=i:=h;omega
  subst e;rw[VR] at a;obtain⟨c,l,f⟩:=a;refine⟨c,?_⟩;rw[q9l (K0 c),if_pos l];unfold Ck;rw[List.filter_eq_self.2];intro x d;obtain⟨k,m,rfl⟩:=List.mem_take_iff_getElem.1 d;have:=f k (by omega);simpa using this
theorem RH {p:Sx×Int->Bool} {L:List (Sx×Int)} (h:CO p L = -1):Ck p L=L:=by
 unfold CO at h;rcases a:L.findIdx? p with _|j
 ·unfold Ck;rw[List.filter_eq_self.2];intro x c;rw[Wk] at a;have:=a x c;simpa using this
 ·rw[a] at h;simp only at h;omega
theorem LN (p:Sx×Int->Bool) (L:List (Sx×Int)):CO p L = -1\/∃ i:Nat,CO p L=i:=by
 unfold CO;split
 ·exact .inr ⟨_,rfl⟩
 ·exact .inl rfl
theorem nzero (w:B1):(zeroValue 129).run Tryz.prog w=.ok (.agg #[.string ⟨#[]⟩,.int .i64 0]) w:=by kernel_rfl
theorem RL:Tryz.prog.elem 76=129:=by kernel_rfl
theorem nsize (w:B1):(sizeOf 129).run Tryz.prog w=.ok 2 w:=by kernel_rfl
theorem nund:Tryz.prog.underlying 76=Bs (.slice 129):=Tryz.underlying76
theorem nfrB {B:Nat} {w w':B1} (h:VJ B w w'):Fr (fun k=>B<=k) w w':=⟨h.os,h.tape,h.output,h.size,fun k _ a=>h.block k (by omega)⟩
theorem G5 (F:Nat) (lb:Array Hi) (p:Sx×Int->Bool) (base o n cap:Nat) (L:List (Sx×Int)) (w:B1) (eg:∀ args w,(XP F args).run Tryz.prog w=.ok (.enter F args) w) (J:Eb F lb p (Bs o) w)
  (d:w.ownsRow base 129 2 (.slice (Bs ⟨o,0,B0⟩) n cap) n (L.flatMap Ei)) (hl:L.length=n) (hn:n<=100000) :
  VX Tryz.prog 98 #[.slice (Bs ⟨o,0,B0⟩) n cap,.func (.func F) #[] lb] w (Ew base o cap n (Ck p L) w):=by
 have a4:=q7p F lb p (Bs o) (Bs ⟨o,0,B0⟩) n cap L w eg J (Rd.au d) hl hn;have Q:=LH a4;clear a4;have T:=LH d;clear d;have af:=LH J;clear J;have HL:=LH hl;clear hl;rcases LN p L with Y|⟨X,Y⟩
 ·rw[Y] at Q;go_enter Tryz.func98,Tryz.ntmps98;go_wp2_with fail;refine Q.o.mono ?_;rintro e w1 ⟨rfl,A⟩;have q:Ew base o cap n (Ck p L) w (.returned (.slice (Bs ⟨o,0,B0⟩) n cap)) w1:=by
   rw[RH Y];unfold Ew;rw[HL.o];exact⟨rfl,Lx T.o A,UI A,L1 _⟩
  have I:=LH q;clear q;go_wp2_with fail;go_ret;exact I.o
 ·rw[Y] at Q;obtain⟨a5,a3⟩:=LK Y;have a5:X<n:=by have:=HL.o;omega
  have a1:((X:Int) == -1)=Jx:=by rw[beq_eq_false_iff_ne];omega
  go_enter Tryz.func98,Tryz.ntmps98;go_wp2_with fail;refine Q.o.mono ?_;rintro e w1 ⟨rfl,A⟩;have u:Nr base o n cap p L w (.int .i64 X) (.int .i64 ((X:Int)+1)) w1:=⟨X,X+1,L,rfl,rfl,by omega,by omega,HL.o,a3,rfl,Lx T.o A,UI A⟩
  have ad:=LH u;clear u;clear Y a3;go_wp2_with fail;clear a1 a5 A;go_loopw [5,6] (Nr base o n cap p L w) (fun _ v _=>n-(intOf v).toNat)
  case atStart=>exact ad.o
  case round=>
   obtain⟨i,j,M,rfl,rfl,ai,hj,hM,B,N,d,E⟩:=hrel;by_cases ah:(j:Int)<n
   ·have hx:M[j]? = L[j]?:=by
     have:=congrArg (fun l=>l[0]?) N;simpa using this
    obtain⟨g',o',x,hA,ak,Z,h0,h1⟩:=nat (Rd.au d) hM (j:=j) (by omega);simp only[VN,W7,and_true] at hA;obtain⟨rfl,rfl⟩:=hA;rw[Wg] at h0 h1;have a0:L[j]? = Bs x:=hx▸Z;have K:Fr (fun _=>False) wr (wr.alloc (.cells #[.string ⟨x.1.toArray⟩,.int .i64 x.2] 129)):=(Fr.refl _ _).alloc _;have s:=af.o (wr.alloc (.cells #[.string ⟨x.1.toArray⟩,.int .i64 x.2] 129)) x (E.trans' K (fun _ _ h=>h.elim));unfold wnV at s;have a6:Ab (wr.alloc (.cells #[.string ⟨x.1.toArray⟩,.int .i64 x.2] 129)) wr.heap.size 129 #[.string ⟨x.1.toArray⟩,.int .i64 x.2]:=Ab.new wr _ _;have C:=K.own d (fun _ _ h=>h);have HC:=LH s;clear s;have ac:=LH a6;clear a6;have ae:=LH C;clear C;have aa:=LH (E.trans' K (fun _ _ h=>h.elim));clear E K;have a8:=LH B;clear B;have a9:=LH N;clear N;have a7:=LH a0;clear a0 hx Z;have HM:=LH hM;clear hM;go_wp2_with fail;refine HC.o.mono ?_;rintro e w2 ⟨rfl,V⟩;have G:Fr (fun k=>Bs o=Bs k) w w2:=aa.o.trans' (nfrB V) (fun i hi (h:_<=i)=>by have:=aa.o.size;simp at h this;omega);have a:=Lx ae.o V;have O:Ab w2 wr.heap.size 129 #[.string ⟨x.1.toArray⟩,.int .i64 x.2]:=ac.o.below V ac.o.lt;have ab:=LH G;clear G;rcases J:p x with _|_
    ·have r:=q9l (p:=p) a7.o;rw[J,if_neg (by simp)] at r;have U:i<M.length:=by rw[HM.o];omega
     have q0:=O.cell 0;have q1:=O.cell 1;simp only[Ft,N2,D0] at q0 q1;obtain⟨g',o',y,hA,_,_,p0,p1⟩:=nat (Rd.au a) HM.o (j:=i) (by omega);simp only[VN,W7,and_true] at hA;obtain⟨rfl,rfl⟩:=hA;rw[Wg] at p0 p1;have f0:=a.frozenAt (i*2);have f1:=a.frozenAt (i*2+1);have aj:o<w2.heap.size:=(a.lt o rfl).2;have R:=OZ a x U;have f:Nr base o n cap p L w (.int .i64 ((i:Int)+1)) (.int .i64 ((j:Int)+1)) (Nq w2 o (i*2) x):=by
      refine⟨i+1,j+1,M.set i x,rfl,rfl,by omega,by omega,by rw[List.length_set];exact HM.o,?_,?_,R,ab.o.trans ((RI w2 o (i*2) x).mono (fun i _ (e:i=o)=>by rw[e]))⟩
      ·rw[r,<- a8.o,VV,List.take_set,List.getElem?_set_self U,List.set_eq_of_length_le (by rw[Wz];omega)];simp
      ·rw[List.drop_set_of_lt (by omega),<- Xi,a9.o,Xi]
     have z:=LH f;clear f R r U;have HP:=LH J;clear J;have am:=LH a;clear a;clear O h0 h1;unfold Nq at z;go_wp2_with fail;go_roundw
     ·exact z.o
     ·simp[intOf];omega
    ·have r:=q9l (p:=p) a7.o;rw[J,if_pos rfl] at r;have f:Nr base o n cap p L w (.int .i64 i) (.int .i64 ((j:Int)+1)) w2:=
      ⟨i,j+1,M,rfl,rfl,by omega,by omega,HM.o,by rw[a8.o,r],by rw[<- Xi,a9.o,Xi],a,ab.o⟩
     have z:=LH f;clear f r a;have HP:=LH J;clear J O h0 h1;go_wp2_with fail;go_roundw
     ·exact z.o
     ·simp[intOf];omega
   ·obtain rfl:j=n:=by omega
    have ag:=(Ur d).1;have S:L.take j=L:=VU (by have:=HL.o;omega);rw[S] at B;have a2:(Ck p L).length=i:=by rw[<- B,Wz];omega
    have D:=q4o d (i:=i) (by omega);rw[ntake',B] at D;obtain⟨w2,al,a,G⟩:=q53 76 (.agg #[.string ⟨#[]⟩,.int .i64 0]) nund nzero (by rfl) (by decide) D (m:=j-i) (c:=cap-i) (by omega);have s1:=q51 (size:=2) 76 (by rw[RL];exact nund) (fun W=>by rw[RL];exact nsize W) wr o j cap i (i:Int) rfl (by omega);have s2:=q3k 76 nund RL nsize w2 o j cap i (i:Int) rfl (by omega);have q:Ew base o cap j (Ck p L) w (.returned (.slice (Bs ⟨o,0,B0⟩) i cap)) w2:=by
     unfold Ew;rw[a2];exact⟨rfl,a,E.trans (G.mono (fun i _ (e:i=o)=>by rw[e])),by omega⟩
    have I:=LH q;clear q a G D d B N hM E a2 S;go_wp2_with fail;go_ret;exact I.o
theorem Jp (F:Nat) (lb:Array Hi) (p:Sx×Int->Bool) (w:B1) (h:∀ args w,(XP F args).run Tryz.prog w=.ok (.enter F args) w) (f:Eb F lb p B0 w) :
  VX Tryz.prog 98 #[.slice B0 0 0,.func (.func F) #[] lb] w fun e w'=>e=.returned (.slice B0 0 0)/\VJ w.heap.size w w':=by
 have a:=q7p F lb p B0 B0 0 0 [] w h f (Rd.none_ _ _ _ _) rfl (by omega);rw[show CO p [] = -1 from rfl] at a;have d:=LH a;clear a;go_enter Tryz.func98,Tryz.ntmps98;go_wp2_with fail;refine d.o.mono ?_;rintro e m ⟨rfl,c⟩;have l:=LH c;clear c;go_wp2_with fail;go_ret;exact⟨rfl,l.o⟩
theorem Jq (F:Nat) (lb:Array Hi) (p:Sx×Int->Bool) (base n:Nat) (V:Hi) (L:List (Sx×Int)) (w:B1) (l:∀ args w,(XP F args).run Tryz.prog w=.ok (.enter F args) w) (f:Eb F lb p V.ownBlock w)
  (a:w.ownsRow base 129 2 V n (L.flatMap Ei)) (q:L.length=n) (o:n<=100000) :
  VX Tryz.prog 98 #[V,.func (.func F) #[] lb] w fun e w'=>
   ∃ A c,e=.returned (.slice A (Ck p L).length c)/\w'.ownsRow base 129 2 (.slice A (Ck p L).length c) (Ck p L).length ((Ck p L).flatMap Ei)/\Fr (fun k=>V.ownBlock=Bs k) w w'/\(WI A (Ck p L).length c).ownBlock=V.ownBlock:=by
 rcases a.2 with ⟨rfl,u⟩|⟨g,cap,s,rfl,_⟩
 ·have e:L=[]:=List.eq_nil_of_length_eq_zero (by omega);subst e;refine(Jp F lb p w l f).mono ?_;rintro e w' ⟨rfl,d⟩;exact⟨B0,0,rfl,VY _ _ _ _,UI d,rfl⟩
 ·refine(G5 F lb p base g n cap L w l f a q o).mono ?_;rintro e w' ⟨rfl,m,r,_⟩;exact⟨Bs ⟨g,0,B0⟩,cap,rfl,m,r.mono (fun i _ h=>h),rfl⟩
def crV (x:Bt):Hi:=.agg #[.int .i64 x.c.ag,.int .i64 x.c.tx,.int .i64 x.c.ae,.slice x.A x.n x.k]
theorem mflat:∀ (l:List (Bt)) (j:Nat) (x:Bt),l[j]? = Bs x->∀ i,i<4->(l.flatMap DX)[j*4+i]? = (DX x)[i]?
 | [],j,p,h,i,a=>by simp at h
 | q::l,0,p,h,i,a=>by
  simp at h;subst h;rw[VI,Wc (by show _<4;omega)];simp
 | q::l,j+1,p,h,i,a=>by
  have d:l[j]? = Bs p:=by simpa using h
  have e:(j+1)*4+i=(j*4+i)+4:=by omega
  have c:(DX q).length=4:=rfl;rw[e,VI,Wd (by rw[c];omega),c,W1];exact mflat l j p d i a
def mCells (w:B1) (g o:Nat) (x:Bt):Prop:=w.cell? ⟨g,o,B0⟩=Bs (.int .i64 x.c.ag)/\w.cell? ⟨g,o+1,B0⟩=Bs (.int .i64 x.c.tx)/\w.cell? ⟨g,o+2,B0⟩=Bs (.int .i64 x.c.ae)/\w.cell? ⟨g,o+3,B0⟩=Bs (.slice x.A x.n x.k)
theorem mat {w:B1} {B n j:Nat} {A:Option Xb} {l:List (Bt)} (h:Rd w B 4 A n (l.flatMap DX)) (o:l.length=n) (p:j<n):∃ g a x,A=Bs ⟨g,a,B0⟩/\g<B/\l[j]? = Bs x/\mCells w g (a+j*4) x:=by
 obtain⟨g,a,e,m,d⟩:=h.2 (by omega);have f:l[j]? = Bs l[j]:=K0 (by omega);have c:=mflat l j _ f;exact⟨g,a,l[j],e,m,f,d (j*4) _ (c 0 (by omega)),d (j*4+1) _ (c 1 (by omega)),d (j*4+2) _ (c 2 (by omega)),d (j*4+3) _ (c 3 (by omega))⟩
def mPred (F:Nat) (lb:Array Hi) (p:Bt->Bool) (g:Option Nat) (w:B1):Prop:=
 ∀ (W:B1) (x:Bt),Fr (fun k=>g=Bs k) w W->VX Tryz.prog F (#[crV x]++lb) W fun e w'=>e=.returned (.bool (p x))/\VJ W.heap.size W w'
def LX (p:Bt->Bool) (L:List (Bt)):Int:=match L.findIdx? p with|some i=>(i:Int)|none=>-1
def mIRel (p:Bt->Bool) (L:List (Bt)) (n:Nat) (w:B1) (v:Hi) (wr:B1):Prop:=∃ j:Nat,v=.int .i64 j/\j<=n/\(∀ x∈L.take j,p x=Jx)/\VJ w.heap.size w wr
theorem mbfr {g:Option Nat} {w W:B1} (a:VJ w.heap.size w W):Fr (fun k=>g=Bs k) w W:=⟨a.os,a.tape,a.output,a.size,fun k c _=>a.block k c⟩
theorem LR (F:Nat) (lb:Array Hi) (p:Bt->Bool) (M:Option Nat) (A:Option Xb) (n k:Nat) (L:List (Bt)) (w:B1) (eg:∀ args w,(XP F args).run Tryz.prog w=.ok (.enter F args) w)
  (d:mPred F lb p M w) (G:Rd w w.heap.size 4 A n (L.flatMap DX)) (J:L.length=n) (U:n<=100000) :
  VX Tryz.prog 118 #[.slice A n k,.func (.func F) #[] lb] w fun e w'=>e=.returned (.int .i64 (LX p L))/\VJ w.heap.size w w':=by
 have O:=LH G;clear G;have Q:=LH d;clear d;go_enter Tryz.func118,Tryz.ntmps118;go_wp2_with fail;go_loopw [8] (mIRel p L n w) (fun v _=>n-(intOf v).toNat)
 case atStart=>exact⟨0,rfl,VK _,(fun x q=>by simp at q),S2 _ _⟩
 case round=>
  obtain⟨j,rfl,V,f,c⟩:=hrel;by_cases I:(j:Int)<n
  ·obtain⟨N,T,x,rfl,E,q,h0,Z,Y,X⟩:=mat (O.o.below c) J (j:=j) (by omega);have K:N<wr.heap.size:=VH E c.size;have a:=Q.o wr x (mbfr c);have B:j<L.length:=by omega
   have o:p x=T2->LX p L=j:=fun d=>by
    have:L.findIdx? p=Bs j:=by
     rw[VR];refine⟨B,?_,fun i W=>?_⟩
     ·rw[<- Wj ((K0 B).symm.trans q)] at d;exact d
     ·simp only[XX];exact f _ (by rw[Xy];exact⟨i,by omega,rfl⟩)
    unfold LX;rw[this]
   have h:p x=Jx->∀ y∈L.take (j+1),p y=Jx:=fun d y r=>by
    rw[VV,q] at r;rcases List.mem_append.1 r with r|r
    ·exact f y r
    ·simp at r;rw[r];exact d
   have C:=LH o;clear o;have s:=LH h;clear h;have R:=LH f;clear f;have HX:=LH q;clear q;unfold crV at a;rcases d:p x with _|_
   ·rw[d] at a;have u:=LH d;clear d;have D:=LH a;clear a;go_wp2_with fail;refine D.o.mono ?_;rintro e w2 ⟨rfl,m⟩;clear D;have z:=LH (c.trans (m.mono c.size));clear m;go_wp2_with fail;go_roundw
    case rel=>exact⟨j+1,rfl,by omega,s.o u.o,z.o⟩
    case measure=>simp[intOf];omega
   ·rw[d] at a;have u:=LH d;clear d;have D:=LH a;clear a;go_wp2_with fail;refine D.o.mono ?_;rintro e w2 ⟨rfl,m⟩;clear D;have z:=LH (c.trans (m.mono c.size));clear m;go_wp2_with fail;go_ret;exact⟨by rw[C.o u.o];rfl,z.o⟩
  ·obtain rfl:j=n:=by omega
   have l:LX p L = -1:=by
    have:L.findIdx? p=B0:=by
     rw[Wk];intro x q;exact f x (by rw[VU (by omega)];exact q)
    unfold LX;rw[this]
   have S:=LH l;clear l f;go_wp2_with fail;go_ret;rw[S.o];exact⟨rfl,c⟩
def q9g (l:List Cm) (kind id:Int):Int:=match place l kind id with|some i=>(i:Int)|none=>-1
theorem qa1 {α β:Type} (f:α->β) (p:β->Bool):∀ L:List α,(L.map f).findIdx? p=L.findIdx? fun x=>p (f x)
 | []=>rfl
 | x::L=>by rw[List.map_cons,Y1,Y1,qa1 f p L]
theorem LW (L:List Bt) (kind id:Int):LX (fun x=>JN kind id x.c) L=q9g (AM L) kind id:=by
 unfold LX q9g place AM;rw[qa1]
 all_goals (cases List.findIdx? (fun x:Bt=>JN kind id x.c) L <;> rfl)
theorem LF (h f:Nat) (kind id:Int) (g:Option Nat) (w:B1) (r:w.cell? ⟨h,0,B0⟩=Bs (.int .i64 kind)) (q:w.cell? ⟨f,0,B0⟩=Bs (.int .i64 id)) (m:g≠Bs h/\g≠Bs f) :
  mPred 119 #[.pointer (Bs ⟨h,0,B0⟩),.pointer (Bs ⟨f,0,B0⟩)] (fun x=>JN kind id x.c) g w:=by
 intro W x d;have c:=V0 w _ r;have a:=V0 w _ q;have z:=(d.cell (p:=⟨h,0,B0⟩) c (fun e=>m.1 e)).trans r;have y:=(d.cell (p:=⟨f,0,B0⟩) a (fun e=>m.2 e)).trans q;have u:h<W.heap.size:=VH c d.size;have s:f<W.heap.size:=VH a d.size;have l:=LH (fun o=>(S2 W.heap.size W).alloc (L1 _) o);clear r q c a d m;unfold crV JN;by_cases e1:x.c.ag=kind
 ·have d1:(x.c.ag == kind)=T2:=by simpa using e1
  show VX _ _ #[_,_,_] _ fun e w'=>e=.returned (.bool (x.c.ag == kind && x.c.tx == id))/\VJ W.heap.size W w'
  rw[d1,YD];clear e1;go_enter Tryz.func119,Tryz.ntmps119;go_wp2_with fail;go_ret;exact⟨rfl,l.o _⟩
 ·have d1:(x.c.ag == kind)=Jx:=by simpa using e1
  show VX _ _ #[_,_,_] _ fun e w'=>e=.returned (.bool (x.c.ag == kind && x.c.tx == id))/\VJ W.heap.size W w'
  rw[d1,Bool.false_and];clear e1;go_enter Tryz.func119,Tryz.ntmps119;go_wp2_with fail;go_ret;exact⟨rfl,l.o _⟩
theorem q6p (base n:Nat) (V:Hi) (L:List Bt) (kind id:Int) (w:B1) (d:w.ownsRow base 69 4 V n (L.flatMap DX)) (s:L.length=n) (r:n<=100000) :
  VX Tryz.prog 93 #[V,.int .i64 kind,.int .i64 id] w fun e w'=>e=.returned (.int .i64 (q9g (AM L) kind id))/\VJ w.heap.size w w':=by
 have h:VJ w.heap.size w ((w.alloc (.cells #[.int .i64 kind] 3)).alloc (.cells #[.int .i64 id] 3)):=((S2 _ _).alloc (L1 _) _).alloc (by simp) _;have q1:((w.alloc (.cells #[.int .i64 kind] 3)).alloc (.cells #[.int .i64 id] 3)).cell? ⟨w.heap.size,0,B0⟩=Bs (.int .i64 kind):=(((Ab.new w 3 #[.int .i64 kind]).alloc _).cell 0)
 have o:((w.alloc (.cells #[.int .i64 kind] 3)).alloc (.cells #[.int .i64 id] 3)).cell? ⟨w.heap.size+1,0,B0⟩=Bs (.int .i64 id):=by
  have:=(Ab.new (w.alloc (.cells #[.int .i64 kind] 3)) 3 #[.int .i64 id]).cell 0;simpa using this
 have a:=Lx d h;obtain⟨A,c,rfl,_,u⟩:=AK d;have f:=LR 119 #[.pointer (Bs ⟨w.heap.size,0,B0⟩),.pointer (Bs ⟨w.heap.size+1,0,B0⟩)] (fun x=>JN kind id x.c) B0 A n c L _ (P9 Tryz.func119 (by kernel_rfl) rfl) (LF w.heap.size (w.heap.size+1) kind id B0 _ q1 o ⟨by simp,by simp⟩) (Rd.au a) s r;rw[LW] at f;have l:=LH f;clear f;have q:=LH h;clear h;clear q1 o d a u;go_enter Tryz.func93,Tryz.ntmps93;go_wp2_with fail;refine l.o.mono ?_;rintro e w2 ⟨rfl,p⟩;have m:=LH (q.o.trans (p.mono q.o.size));clear p;go_wp2_with fail;go_ret;exact⟨rfl,m.o⟩
section
variable {w w':B1} {own own':Ai} {P:Aw} {H:Hs}
theorem Cx.cells {i g:Nat} {v:KN} {t:Bi} (h:Cx w own i g v t):w.cell? ⟨g,0,B0⟩=Bs (.int .i64 i)/\w.cell? ⟨g,1,B0⟩=Bs (.int .i64 t.state)/\w.cell? ⟨g,2,B0⟩=Bs v.Vw/\w.cell? ⟨g,3,B0⟩=Bs (.map (Bs v.bs))/\w.cell? ⟨g,4,B0⟩=Bs (.map (Bs v.bp))/\w.cell? ⟨g,5,B0⟩=Bs (.int .i64 t.ae)/\w.cell? ⟨g,8,B0⟩=Bs v.Vx/\g<w.heap.size:=by
 have m:=h.ah.cell 0;have l:=h.ah.cell 1;have f:=h.ah.cell 2;have e:=h.ah.cell 3;have d:=h.ah.cell 4;have c:=h.ah.cell 5;have a:=h.ah.cell 8;unfold OE at m l f e d c a;simp only[Ft,D0,N2] at m l f e d c a;exact⟨m,l,f,e,d,c,a,h.ah.lt⟩
theorem D3.cells {n s g:Nat} {gn:Nat->Nat} {v:NO} {x:Bg} (h:D3 w own n s g gn v x):w.cell? ⟨g,0,B0⟩=Bs v.Vn/\w.cell? ⟨g,1,B0⟩=Bs (.map (Bs v.bd))/\w.cell? ⟨g,2,B0⟩=Bs (.int .i64 x.ab)/\w.cell? ⟨g,3,B0⟩=Bs (.int .i64 x.size)/\w.cell? ⟨g,7,B0⟩=Bs (.int .i64 x.done)/\g<w.heap.size:=by
 have f:=h.tab.ah.cell 0;have e:=h.tab.ah.cell 1;have d:=h.tab.ah.cell 2;have c:=h.tab.ah.cell 3;have a:=h.tab.ah.cell 7;unfold FC at f e d c a;simp only[Ft,D0,N2] at f e d c a;exact⟨f,e,d,c,a,h.tab.ah.lt⟩
theorem stateH (H:Hs) (id:Int):H.state id=if id<1\/H.m<id then 0 else(H.tx id.toNat).state:=rfl
theorem q50 (h:HI w own P H) (d:H.m<=1000) (id:Int):VX Tryz.prog 11 #[pw P.g,.int .i64 id] w fun e w'=>e=.returned (.int .i64 (H.state id))/\w=w':=by
 have a:=LH (q4s h d id);unfold Ec at a;rw[stateH];by_cases b:id<1\/(H.m:Int)<id
 ·rw[if_pos b] at a ⊢;clear h b;unfold pw at *;go_enter Tryz.func11,Tryz.ntmps11;go_wp2_with fail;refine a.o.mono ?_;rintro e w2 ⟨rfl,rfl⟩;go_wp2_with fail;go_ret;exact⟨rfl,rfl⟩
 ·rw[if_neg b] at a ⊢;obtain⟨v,c⟩:=h.tx id.toNat (by omega) (by omega);obtain⟨_,l,_,_,_,_,_,f⟩:=c.cells;clear h b c;unfold pw at *;go_enter Tryz.func11,Tryz.ntmps11;go_wp2_with fail;refine a.o.mono ?_;rintro e w2 ⟨rfl,rfl⟩;go_wp2_with fail;go_ret;exact⟨rfl,rfl⟩
theorem q6z (h:HI w own P H):VX Tryz.prog 27 #[pw P.g] w fun e w'=>e=.returned (.int .i64 H.net.l.length)/\w=w':=by
 obtain⟨v,h⟩:=h.hs;have c:=LH (Jw _ _ _ _ _ _ _ _ _ _ _ _ h.nt);have a:H.net.l.length=v.L.length:=by rw[<- h.msgs];simp[AH]
 rw[a];have d:=h.nt.ah.lt;clear h a;unfold pw;go_enter Tryz.func27,Tryz.ntmps27;go_wp2_with fail;refine c.o.mono ?_;rintro e w2 ⟨rfl,rfl⟩;go_wp2_with fail;go_ret;exact⟨rfl,rfl⟩
end
theorem Jc:(Tryz.prog.info? 108).map (fun i=>(i.zero,i.size,i.bytes))=Bs (Bs (.pointer B0),1,8):=by kernel_rfl
def DS (P:Aw) (n s:Nat) (x:Bg) (w:B1) (e:WA) (w':B1):Prop:=∃ V,e=.returned V/\w'.ownsRow w.heap.size 108 1 V (x.aj n).length ((x.aj n).map fun j=>pw (P.gn s j))/\VJ w.heap.size w w'
def S6 (P:Aw) (n s:Nat) (x:Bg) (w:B1) (c a:Hi) (wr:B1):Prop:=∃ i:Nat,a=.int .i64 i/\i<=n/\wr.ownsRow w.heap.size 108 1 c (x.aj i).length ((x.aj i).map fun j=>pw (P.gn s j))/\VJ w.heap.size w wr
theorem JE (x:Bg) (i:Nat):x.aj (i+1)=if x.ak (x.nd i).id then x.aj i else x.aj i++[i]:=by
 unfold Bg.aj;rw[List.range_succ,XT];cases h:x.ak (x.nd i).id <;> simp[h]
theorem q2m (x:Bg) (i:Nat):(x.aj i).length<=i:=by unfold Bg.aj;exact VO (WD _ _) (by simp)
section
variable {w w':B1} {own own':Ai} {P:Aw} {H:Hs}
theorem JD {s:Nat} (h:HI w own P H) (hs:s<H.c) (hn:H.n<=100) (N:∀ j,j<H.n->E3 ((H.sh s).nd j).id) :
  VX Tryz.prog 43 #[pw (P.gs s)] w (DS P H.n s (H.sh s) w):=by
 obtain⟨v,J⟩:=h.sh s hs;obtain⟨c0,_,_,_,_,gl⟩:=J.cells;obtain⟨A,c,U,_,_⟩:=AK J.row;rw[U] at c0;have HR:=LH (Rd.au (U▸J.row));clear U;have HH:=LH h;have W:=LH J;have X:=LH N;clear h J N;unfold pw at *;go_enter Tryz.func43,Tryz.ntmps43;go_wp2_with fail;go_loopw [3,11] (S6 P H.n s (H.sh s) w) (fun _ u _=>H.n-(intOf u).toNat)
 case atStart=>exact⟨0,rfl,VK _,VY _ _ _ _,S2 _ _⟩
 case round=>
  obtain⟨i,rfl,hi,d,l⟩:=hrel;by_cases a2:(i:Int)<H.n
  ·have m:i<H.n:=by omega
   obtain⟨r,o,u,hA,hr,R,hc⟩:=(HR.o.below l).bQ (k:=i) m;rw[VT,List.getElem?_range m] at R;simp only[Wv,VN] at R;subst R hA;have a1:r<wr.heap.size:=VH hr l.size;have D:=HH.o.below l;obtain⟨C,V,L,hN,_⟩:=D.nd s i hs m;have HQ:=LH (fun q=>(Mj (hN.a8 (Cr (S2 wr.heap.size wr) q))).mono fun e w' (h:e=_/\wr.drewN q=w')=>(⟨h.1,h.2.symm⟩:e=.returned (.int .i64 ((H.sh s).nd i).id)/\w'=wr.drewN q));have Z:=D.sh s hs;have z:=W.o.aJ (q5t own l) (Ext.refl own w.heap.size) (fun _ _ h=>h);obtain⟨_,Z,_,_,_,a3⟩:=z.cells;have T:=fun q=>(show Bl (wr.drewN q) 100 (Bs v.bd) (H.sh s).ak from z.dd).look (X.o i m)
   have f:=JE (H.sh s) i;have S:=q2m (H.sh s) i;have Y:=LH l;clear l;have HO:=LH d;clear d;have p:=LH f;clear f;clear D z hN;go_upto_region 5 with (fail)
   go_quiet ((go_at_call 74;exact Calls.quiet_of_same (HQ.o _)));generalize I:wr.drewN _=w5;have B:VJ wr.heap.size wr w5:=I▸Cr (S2 _ _) _;have O:=Lx HO.o B;have Q:=Y.o.trans (B.mono Y.o.size);have G:=LH O;clear O;have x:=LH Q;clear Q B I T Z HQ HO Y;rcases hd:(H.sh s).ak ((H.sh s).nd i).id with _|_
   ·rw[hd] at p;have a0:=S;go_wp2_with (at_builtin;refine stop ?_)
    refine Cn ?_;refine Nf w5 _ rfl (.tmp 23) (.tmp 25) 97 rfl w.heap.size 108 (.pointer B0) 1 8 Tryz.underlying97 Jc rfl (by decide) _ _ _ #[.pointer (Bs ⟨P.gn s i,0,B0⟩)] rfl G.o 1 rfl _ rfl rfl (by simp[Wy]) (by unfold VZ;omega) (by omega) x.o.size ?_;intro v' w9 K M;have a:S6 P H.n s (H.sh s) w v' (.int .i64 ((i+1:Nat):Int)) w9:=by
     refine⟨i+1,rfl,by omega,?_,x.o.trans (M.below (fun b l=>(G.o.lt b l).1) x.o.size)⟩;rw[p.o,if_neg (by simp),VP,List.map_append];exact K
    have E:=LH a;clear a K M;go_wp2_with fail;go_roundw
    ·exact E.o
    ·simp[intOf];omega
   ·rw[hd] at p;have a:S6 P H.n s (H.sh s) w u3 (.int .i64 ((i+1:Nat):Int)) w5:=by
     refine⟨i+1,rfl,by omega,?_,x.o⟩;rw[p.o,if_pos rfl];exact G.o
    have E:=LH a;clear a;go_wp2_with fail;go_roundw
    ·exact E.o
    ·simp[intOf];omega
  ·obtain rfl:i=H.n:=by omega
   have y:DS P H.n s (H.sh s) w (.returned u3) wr:=⟨u3,rfl,d,l⟩
   have HF:=LH y;clear y d l;go_wp2_with fail;go_ret;exact HF.o
def Dk (P:Aw) (s:Nat):Option Nat->Hi|none=>.pointer B0|some j=>pw (P.gn s j)
def EH (P:Aw) (H:Hs) (s:Nat) (w:B1) (e:WA) (w':B1):Prop:=e=.returned (Dk P s (H.head s))/\VJ w.heap.size w w'
def ShRel (l:List Nat) (p:Nat->Bool) (a:B1) (v:Hi) (wr:B1):Prop:=∃ i:Nat,v=.int .i64 i/\i<=l.length/\l.find? p=(l.drop i).find? p/\wr=a
theorem PC {l:List Nat} {p:Nat->Bool} {i j:Nat} (a:l[i]? = Bs j):(l.drop i).find? p=if p j then Bs j else(l.drop (i+1)).find? p:=by
 obtain⟨c,e⟩:=List.getElem?_eq_some_iff.1 a;rw[Xz c,e,List.find?_cons];cases p j <;> rfl
theorem Fu {s:Nat} (h:HI w own P H) (hs:s<H.c) (S:H.n<=100) (y:∀ j,j<H.n->E3 ((H.sh s).nd j).id) :
  VX Tryz.prog 61 #[pw (P.gs s)] w (EH P H s w):=by
 have G:=LH (JD h hs S y);have U:=q2m (H.sh s) H.n;have p:∀ j,j∈(H.sh s).aj H.n->j<H.n:=fun j M=>by unfold Bg.aj at M;exact List.mem_range.1 (List.mem_filter.1 M).1
 have B:=LH (show H.head s=((H.sh s).aj H.n).find? fun j=>((H.sh s).nd j).head from rfl);have Y:=LH p;have O:=LH h;unfold EH;unfold DS at G;generalize H.head s=hd at *;generalize (H.sh s).aj H.n=l at *;clear h p y;unfold pw at *;go_enter Tryz.func61,Tryz.ntmps61;go_wp2_with fail;refine G.o.mono ?_;rintro e R ⟨V,rfl,f,x⟩;obtain⟨A,c,rfl,_,_⟩:=AK f;have X:=LH (Rd.au f);have Q:=LH x;have I:=LH (O.o.below x);clear f x G O;go_wp2_with fail;go_loopw [8] (ShRel l (fun j=>((H.sh s).nd j).head) R) (fun v _=>l.length-(intOf v).toNat)
 case atStart=>exact⟨0,rfl,VK _,rfl,rfl⟩
 case round=>
  obtain⟨i,rfl,hi,a,rfl⟩:=hrel;by_cases T:(i:Int)<l.length
  ·have q:i<l.length:=by omega
   obtain⟨r,o,u,W,Z,D,hc⟩:=X.o.bQ (k:=i) q;have J:l[i]? = Bs l[i]:=K0 q;rw[VT,J] at D;simp only[Wv,VN] at D;subst D W;have E:=Y.o l[i] (WE q);obtain⟨C,V,L,N,_⟩:=I.o.nd s l[i] hs E;have z:=LH (qcf N);rw[PC J] at a;have d:=LH a;clear a N;generalize l[i]=j at *;rcases K:((H.sh s).nd j).head with _|_
   ·rw[K] at z d;have m:=LH (d.o.trans (if_neg (by simp)));clear d;go_wp2_with fail;refine z.o.mono ?_;rintro e w2 ⟨rfl,rfl⟩;go_wp2_with fail;go_roundw
    case rel=>exact⟨i+1,rfl,by omega,m.o,rfl⟩
    case measure=>simp[intOf];omega
   ·rw[K] at z d;have m:=LH (B.o.trans (d.o.trans (if_pos rfl)));clear d B;go_wp2_with fail;refine z.o.mono ?_;rintro e w2 ⟨rfl,rfl⟩;go_wp2_with fail;go_ret;exact⟨by rw[m.o];rfl,Q.o⟩
  ·obtain rfl:i=l.length:=by omega
   rw[List.drop_length] at a;have m:=LH (B.o.trans a);clear B a;go_wp2_with fail;go_ret;exact⟨by rw[m.o];rfl,Q.o⟩
end
def JS (gs:List Ak) (i:Int) (x:Sx):Bool:=gs.any fun a=>decide (a.tx=i) && decide (a.key=x)
def Hs.aF (H:Hs) (gs:List Ak):Hs:={ H with tx:=fun i=>{ H.tx i with af:=(H.tx i).af.filter fun w=>!JS gs i w.1 } }
def CG (x:Sx) (a:Sx×Int):Bool:=decide (a.1=x)
theorem Hg (c:Nat) (a:Ak) (g:Option Nat) (w:B1) (m:w.cell? ⟨c,1,B0⟩=Bs (.string ⟨a.key.toArray⟩)) (q:g≠Bs c) :
  Eb 99 #[.pointer (Bs ⟨c,0,B0⟩)] (CG a.key) g w:=by
 intro W x l;have f:=V0 w _ m;have s:=(l.cell (p:=⟨c,1,B0⟩) f (fun e=>q e)).trans m;have r:c<W.heap.size:=VH f l.size;have h:=LH (fun o=>(S2 W.heap.size W).alloc (L1 _) o);clear m f l q;unfold wnV CG;show VX _ _ #[_,_] _ fun e w'=>e=.returned (.bool (decide (x.1=a.key)))/\VJ W.heap.size W w'
 by_cases e:x.1=a.key
 ·have d:(x.1 == a.key)=T2:=by simpa using e
  rw[decide_eq_true e];go_enter Tryz.func99,Tryz.ntmps99;go_wp2_with fail;go_ret;exact⟨rfl,h.o _⟩
 ·have d:(x.1 == a.key)=Jx:=by simpa using e
  rw[decide_eq_false e];go_enter Tryz.func99,Tryz.ntmps99;go_wp2_with fail;go_ret;exact⟨rfl,h.o _⟩
theorem qbf {gs:List Ak} {j:Nat} {a:Ak} (h:gs[j]? = Bs a) (i:Int) (x:Sx):JS (gs.take (j+1)) i x=(JS (gs.take j) i x || (decide (a.tx=i) && decide (a.key=x))):=by
 unfold JS;rw[VV,h,List.any_append];simp
theorem q83 {H:Hs} {gs:List Ak} {j:Nat} {a:Ak} (h:gs[j]? = Bs a) {i:Nat} (c:a.tx≠(i:Int)):(H.aF (gs.take (j+1))).tx i=(H.aF (gs.take j)).tx i:=by
 unfold Hs.aF;simp only[qbf h,decide_eq_false c,Bool.false_and,Bool.or_false]
theorem JX {H:Hs} {gs:List Ak} {j:Nat} {a:Ak} (h:gs[j]? = Bs a) {i:Nat} (c:a.tx=(i:Int)):(H.aF (gs.take (j+1))).tx i = { (H.aF (gs.take j)).tx i with af:=Ck (CG a.key) ((H.aF (gs.take j)).tx i).af }:=by
 unfold Hs.aF Ck CG;simp only[qbf h,decide_eq_true c,YD,List.filter_filter];congr 1;apply X3;intro w _;by_cases e:w.1=a.key
 ·simp[e]
 ·simp[e];exact fun _ h=>e h.symm
section
variable {w w':B1} {own own':Ai} {P:Aw} {H:Hs}
def QG (t:Tg):Prop:=∃ i,t=.tx i
def GrP (P:Aw) (own:Ai) (H':Hs) (w:B1) (w':B1):Prop:=∃ own',HI w' own' P H'/\HZ QG w own w' own'
def Td (P:Aw) (own:Ai) (H:Hs) (gs:List Ak) (w:B1) (v:Hi) (wr:B1):Prop:=∃ j:Nat,v=.int .i64 j/\j<=gs.length/\GrP P own (H.aF (gs.take j)) w wr
theorem Mr (H:Hs):H.aF []=H:=by
 have a:∀ l:List (Sx×Int),l.filter (fun _=>T2)=l:=fun l=>List.filter_eq_self.2 (fun _ _=>rfl)
 unfold Hs.aF JS;simp[a]
theorem Qb {Z:Tg->Prop} {base e size n:Nat} {V:Hi} {xs:List Hi} (h:w.ownsRow base e size V n xs) (c:∀ b,V.ownBlock=Bs b->own b=B0) (hs:HZ Z w own w' own'):w'.ownsRow base e size V n xs:=
 hs.fr.own h (fun b d a=>a.owned (c b d))
theorem SG:∀ (l:List Ak) (j:Nat) (x:Ak),l[j]? = Bs x->∀ i,i<3->(l.flatMap PZ)[j*3+i]? = (PZ x)[i]?
 | [],j,p,h,i,a=>by simp at h
 | q::l,0,p,h,i,a=>by
  simp at h;subst h;rw[VI,Wc (by show _<3;omega)];simp
 | q::l,j+1,p,h,i,a=>by
  have d:l[j]? = Bs p:=by simpa using h
  have e:(j+1)*3+i=(j*3+i)+3:=by omega
  have c:(PZ q).length=3:=rfl;rw[e,VI,Wd (by rw[c];omega),c,W1];exact SG l j p d i a
theorem akAt {B n j:Nat} {A:Option Xb} {l:List Ak} (h:Rd w B 3 A n (l.flatMap PZ)) (o:l.length=n) (p:j<n):∃ g a x,A=Bs ⟨g,a,B0⟩/\g<B/\l[j]? = Bs x/\w.cell? ⟨g,a+j*3,B0⟩=Bs (.int .i64 x.tx)/\w.cell? ⟨g,a+j*3+1,B0⟩=Bs (.string ⟨x.key.toArray⟩)/\w.cell? ⟨g,a+j*3+2,B0⟩=Bs (.int .i64 x.mode):=by
 obtain⟨g,a,e,m,d⟩:=h.2 (by omega);have f:l[j]? = Bs l[j]:=K0 (by omega);have c:=SG l j _ f;exact⟨g,a,l[j],e,m,f,d (j*3) _ (c 0 (by omega)),d (j*3+1) _ (c 1 (by omega)),d (j*3+2) _ (c 2 (by omega))⟩
theorem q6c {s base:Nat} {gs:List Ak} {V:Hi} (h:HI w own P H) (hm:H.m<=1000) (hw:∀ i,1<=i->i<=H.m->(H.tx i).af.length<=1000) (q:w.ownsRow base 179 3 V gs.length (gs.flatMap PZ)) (u:∀ b,V.ownBlock=Bs b->own b=B0) (a4:gs.length<=100000) :
  VX Tryz.prog 69 #[pw P.g,pw (P.gs s),V] w fun e w'=>e=.returned (.tuple #[])/\GrP P own (H.aF gs) w w':=by
 have HH:=LH h;have a1:=LH q;have K:=LH u;have HW:=LH hw;obtain⟨A,c,rfl,_,hA⟩:=AK q;clear h q u hw hA;unfold pw;go_enter Tryz.func69,Tryz.ntmps69;go_wp2_with fail;go_loopw [11] (Td P own H gs w) (fun v _=>gs.length-(intOf v).toNat)
 case atStart=>exact⟨0,rfl,VK _,own,by rw[XN,Mr];exact HH.o,HZ.refl _ _ _⟩
 case round=>
  obtain⟨j,rfl,hj,d,hI,hS⟩:=hrel;by_cases a3:(j:Int)<gs.length
  ·obtain⟨r,o,a,rfl,hr,hx,k0,k1,k2⟩:=akAt (Rd.au (Qb a1.o K.o hS)) rfl (j:=j) (by omega);have G:VJ wr.heap.size wr (wr.alloc (.cells #[.int .i64 a.tx,.string ⟨a.key.toArray⟩,.int .i64 a.mode] 179)):=(S2 _ _).alloc (L1 _) _;have Z:Ab (wr.alloc (.cells #[.int .i64 a.tx,.string ⟨a.key.toArray⟩,.int .i64 a.mode] 179)) wr.heap.size 179 #[.int .i64 a.tx,.string ⟨a.key.toArray⟩,.int .i64 a.mode]:=Ab.new wr _ _;have J:=hI.below G;have X:=q4s J (show(H.aF (gs.take j)).m<=1000 from hm) a.tx;have C:=LH J;clear J;have D:=LH Z;clear Z;have a0:=LH (hS.trans (HZ.below d G));clear G;have HX:=LH hx;clear hx;have a2:=LH X;clear X;go_upto_region 3 with (fail)
   clear k0 k1 k2;generalize wr.alloc (.cells #[.int .i64 a.tx,.string ⟨a.key.toArray⟩,.int .i64 a.mode] 179)=L at *;have b0:=D.o.cell 0;have b1:=D.o.cell 1;have bl:=D.o.lt;simp only[Ft,D0,N2] at b0 b1;go_wp2_with fail;refine a2.o.mono ?_;rintro e w2 ⟨rfl,rfl⟩;unfold Ec;by_cases l:a.tx<1\/((H.aF (gs.take j)).m:Int)<a.tx
   ·rw[if_pos l];have f:Td P own H gs w (.int .i64 ((j+1:Nat):Int)) L:=by
     refine⟨j+1,rfl,by omega,d,?_,a0.o⟩;have:=C.o.cC (H.aF (gs.take (j+1))).tx (fun i h1 h2=>q83 HX.o (fun e=>by rw[e] at l;have:i<=(H.aF (gs.take j)).m:=h2;omega));exact this
    have HR:=LH f;clear f;clear l;go_wp2_with fail;go_roundw
    ·exact HR.o
    ·simp[intOf];omega
   ·rw[if_neg l];obtain⟨i,hi⟩:∃ i:Nat,a.tx=i:=⟨a.tx.toNat,by omega⟩
    have U:1<=i:=by omega
    have S:i<=H.m:=by have h2:¬((H.m:Int)<a.tx):=fun h=>l (.inr h);omega
    obtain⟨v,M⟩:=C.o.tx i U S;obtain⟨_,_,_,_,_,_,c8,gl⟩:=M.cells;have Q:v.Vx.ownBlock≠Bs wr.heap.size:=Be M.af D.o (by decide);have R:((H.aF (gs.take j)).tx i).af.length<=1000:=VO (WD _ _) (HW.o i U S);have hd:=Jq 99 #[.pointer (Bs ⟨wr.heap.size,0,B0⟩)] (CG a.key) 0 _ v.Vx _ L (P9 Tryz.func99 (by kernel_rfl) rfl) (Hg _ a _ L b1 Q) M.af rfl (by omega);have HD:=LH hd;clear hd;obtain⟨A8,a5,I,_,_⟩:=AK M.af;rw[I] at c8 HD;have x:=LH I;clear I;have m:=LH M;clear M;rw[hi];rw[show((i:Int)).toNat=i from rfl];clear b0 b1 l Q R;unfold pw;go_wp2_with fail;refine HD.o.mono ?_;rintro e w2 ⟨A9,c9,rfl,N,z,O⟩;have B:=z.ah m.o.ah (fun e=>m.o.aQ.2.1 (by rw[x.o];exact e));have y8:=B.cell 8;have z8:=B.frozen 8;have yl:=B.lt;unfold OE at y8;simp only[Ft,D0,N2] at y8;rw[x.o] at y8;have W:Fr (fun k=>v.Vx.ownBlock=Bs k\/L.heap.size<=k) L w2:=z.mono (fun k _ e=>.inl (by rw[x.o];exact e));have E:=m.o.bM (Ext.refl d _) W N (fun b hb=>m.o.xt b (by rw[x.o,<- O];exact hb));have y:Fr (OS d (fun t=>t=.tx i)) L (w2.setCell ⟨P.gt i,8,B0⟩ (.slice A9 (Ck (CG a.key) ((H.aF (gs.take j)).tx i).af).length c9)):=
     (z.mono (T:=OS d (fun t=>t=.tx i)) (fun k _ e=>⟨_,m.o.xt k (by rw[x.o];exact e),rfl⟩)).setCell (p:=⟨P.gt i,8,B0⟩) (.inl ⟨_,m.o.gt,rfl⟩) _
    have Y:=C.o.setTx' y (Ext.refl d _) (fun b hb=>VH (C.o.lt b hb) y.size) ⟨_,E⟩;have f:Td P own H gs w (.int .i64 ((j+1:Nat):Int)) (w2.setCell ⟨P.gt i,8,B0⟩ (.slice A9 (Ck (CG a.key) ((H.aF (gs.take j)).tx i).af).length c9)):=by
     refine⟨j+1,rfl,by omega,d,?_,a0.o.trans (⟨Ext.refl d _,y.mono (fun _ _ ⟨t,a,b⟩=>⟨t,a,⟨i,b⟩⟩),fun _ _ h=>h⟩)⟩;have:=Y.cC (H.aF (gs.take (j+1))).tx (fun k h1 h2=>by
      show _=Ae (H.aF (gs.take j)).tx i _ k;by_cases e:k=i
      ·subst e;rw[Ay];exact JX HX.o hi
      ·rw[AF e];exact q83 HX.o (fun e2=>e (by omega)))
     exact this
    have HR:=LH f;clear f Y y E W N z O B HD;go_wp2_with fail;go_roundw
    ·exact HR.o
    ·simp[intOf];omega
  ·obtain rfl:j=gs.length:=by omega
   rw[WR] at hI;have HF:=LH (show GrP P own (H.aF gs) w wr from⟨d,hI,hS⟩);clear hI hS;go_wp2_with fail
   go_end0
   exact⟨rfl,HF.o⟩
end
open Classical in
noncomputable def DW (own:Ai) (n:Nat) (F:Nat->Prop) (t:Tg):Ai:=fun b=>if b<n then own b else if F b then Bs t else B0
section
variable {w w':B1} {own own':Ai} {P:Aw} {H:Hs} {n:Nat} {F:Nat->Prop} {t:Tg}
theorem Rn:Ext own (DW own n F t) n:=fun b h=>by unfold DW;rw[if_pos h]
theorem Rk {n':Nat} (d:n<=n') (a:∀ b,F b->b<n'):∀ b,DW own n F t b≠B0->b<n':=fun b h=>by
 unfold DW at h;split at h
 ·omega
 ·split at h
  ·rename_i c;exact a b c
  ·exact absurd rfl h
theorem Rl {b:Nat} (h:own b=Bs t\/n<=b) (c:F b):DW own n F t b=Bs t:=by
 unfold DW;by_cases a:b<n
 ·rw[if_pos a];rcases h with h|h
  ·exact h
  ·omega
 ·rw[if_neg a,if_pos c]
theorem Qc (a:∀ i,t≠.sm i):∀ b i,DW own n F t b=Bs (.sm i)->own b=Bs (.sm i):=fun b i h=>by
 unfold DW at h;split at h
 ·exact h
 ·split at h
  ·injection h with h;exact absurd h (a i)
  ·cases h
theorem q9h {b:Nat} (h:n<=b) (a:¬F b):DW own n F t b=B0:=by
 unfold DW;rw[if_neg (by omega),if_neg a]
theorem D3.retab {k s g:Nat} {gn:Nat->Nat} {v:NO} {x:Bg} (h:D3 w own k s g gn v x) (m:Fr (OS own (fun t=>t=.sb s\/t=.tab s)) w w') (f:Ext own own' w.heap.size) {c:Option Nat} {a:Sx->Av} {T':Tb}
  (o:AD w' 0 100 g 4 105 (FC { v with mt:=c,cX:=a } { x with tab:=T' }) c a T') (l:∀ b,AE c a T' b->own' b=Bs (.tab s)):D3 w' own' k s g gn { v with mt:=c,cX:=a } { x with tab:=T' }:=by
 refine⟨m.own h.row (fun b d hs=>?_),fun b d=>(f b (h.row.lt b d).2).trans (h.br b d),h.dd.fr m (fun hs=>?_),(f _ h.dd.lt).trans h.c5,o,l,h.sto.bO m (fun b d hs=>?_) o.ah rfl rfl,fun b d=>(f b (h.sto.av (.inr d)).2).trans (h.b6 b d),(f g h.tab.ah.lt).trans h.gt⟩
 ·rcases hs.tag (h.br b d) with e|e <;> cases e
 ·rcases hs.tag h.c5 with e|e <;> cases e
 ·rcases hs.tag (h.b6 b d) with e|e <;> cases e
theorem D3.resto {k s g:Nat} {gn:Nat->Nat} {v:NO} {x:Bg} (h:D3 w own k s g gn v x) (o:Fr (OS own (fun t=>t=.sb s\/t=.sto s)) w w') (f:Ext own own' w.heap.size) {c:Option Nat} {a:Sx->Hi} {l:Kp}
  (p:B8 w' 0 100 g 5 105 (FC { v with ms:=c,cY:=a } { x with sto:=l }) c a l 0) (m:∀ b,Dz c a l b->own' b=Bs (.sto s)):D3 w' own' k s g gn { v with ms:=c,cY:=a } { x with sto:=l }:=by
 refine⟨o.own h.row (fun b d hs=>?_),fun b d=>(f b (h.row.lt b d).2).trans (h.br b d),h.dd.fr o (fun hs=>?_),(f _ h.dd.lt).trans h.c5,h.tab.bO o (fun b d hs=>?_) p.ah rfl,fun b d=>(f b (h.tab.av d).2).trans (h.bq b d),p,m,(f g h.tab.ah.lt).trans h.gt⟩
 ·rcases hs.tag (h.br b d) with e|e <;> cases e
 ·rcases hs.tag h.c5 with e|e <;> cases e
 ·rcases hs.tag (h.bq b d) with e|e <;> cases e
theorem GR {Z Z':Tg->Prop} (c:Fr (OS own Z) w w') (h:∀ t,Z t->Z' t):Fr (OS own Z') w w':=c.mono (fun _ _ ⟨t,a,b⟩=>⟨t,a,h t b⟩)
theorem QQ {s g:Nat} {mt:Option Nat} {a:Sx->Av} {T:Tb} (f:own g=Bs (.sb s)) (d:∀ b,AE mt a T b->own b=Bs (.tab s)) (h:Fr (TFr g mt a T) w w'):Fr (OS own (fun t=>t=.sb s\/t=.tab s)) w w':=
 h.mono (fun b _ c=>c.elim (fun e=>⟨_,by rw[e];exact f,.inl rfl⟩) (fun c=>⟨_,d b c,.inr rfl⟩))
theorem sto_fr {s g:Nat} {ms:Option Nat} {a:Sx->Hi} {K:Kp} (f:own g=Bs (.sb s)) (d:∀ b,Dz ms a K b->own b=Bs (.sto s)) (h:Fr (E5 g ms a K) w w'):Fr (OS own (fun t=>t=.sb s\/t=.sto s)) w w':=
 h.mono (fun b _ c=>c.elim (fun e=>⟨_,by rw[e];exact f,.inl rfl⟩) (fun c=>⟨_,d b c,.inr rfl⟩))
theorem q64:∀ (ws left:List (Int×Int)) (h:Int->Option Int),(DU h left ws).2.2.Sublist ws
 | [],left,h=>by rw[q2h];exact XO _
 | w::ws,left,h=>by
  rcases a:As h w.1 w.2 left with _|_
  ·rw[q7n a];exact(q64 ws _ h).cons _
  ·rw[q63 a];exact(q64 ws _ _).cons_cons _
theorem EE.len {k:Kx} (h:EE k):k.ws.length<=61:=by
 have a:(k.ws.map (·.1)).length<=DC.length:=by
  refine WZ ?_ (fun t d=>?_)
  ·rw[List.Nodup,XA];exact h.sort.imp (fun h e=>by omega)
  ·obtain⟨v,c,rfl⟩:=List.mem_map.1 d;have:=h.wait v c;exact Qa (by omega) this.2
 rw[Wh,Uq] at a;exact a
theorem qbe {T:Tb} (a:Dn T) (tx:Int):∀ ks:List Sx,(ks.flatMap (Lu T tx)).length<=ks.length*61
 | []=>by simp
 | x::ks=>by
  have c:=qbe a tx ks;have l:(Lu T tx x).length<=61:=by
   unfold Lu;cases e:T x with
   | none=>simp
   | some k=>
    have h:=(q64 (AC k.ws tx) [] (AW k.h tx B0)).length_le;have f:(AC k.ws tx).length<=k.ws.length:=WD _ _;have d:=(a x k e).2.len;show((BV k tx).2.map _).length<=61;rw[Wh];show(DU (AW k.h tx B0) [] (AC k.ws tx)).2.2.length<=61;omega
  rw[VI,VP,WH];omega
theorem Pf {T:Tb} (a:Dn T) {ks:List Sx} (h:Gr T ks):ks.length<=4:=by
 have:ks.length<=names.length:=WZ (h.1.imp (fun h e=>by subst e;exact List.lt_irrefl _ h)) (fun x c=>by
  cases e:T x with
  | none=>exact absurd e ((h.2 x).1 c)
  | some k=>exact(a x k e).1)
 exact this
open Classical in
theorem Pv {T:Tb} {tx:Int} {ks:List Sx} (h:Gr T ks) (i:Nat) (y:Sx):JS (ks.flatMap (Lu T tx)) i y=T2↔decide (Ez T tx i y)=T2:=by
 unfold JS;rw[XU,decide_eq_true_eq];unfold Ez;constructor
 ·rintro ⟨a,c,f⟩;simp only[Bool.and_eq_true,decide_eq_true_eq] at f;obtain⟨x,q,c⟩:=List.mem_flatMap.1 c;unfold Lu at c;cases e:T x with
  | none=>rw[e] at c;cases c
  | some k=>
   rw[e] at c;obtain⟨g,p,rfl⟩:=List.mem_map.1 c;obtain⟨m,l⟩:=f
   dsimp only at m l
   subst l;exact⟨k,g.2,e,by rw[<- m];exact p⟩
 ·rintro ⟨k,d,e,o⟩;refine⟨⟨i,y,d⟩,List.mem_flatMap.2 ⟨y,(h.2 y).2 (by rw[e];simp),?_⟩,by simp⟩;unfold Lu;rw[e];exact List.mem_map.2 ⟨(↑i,d),o,rfl⟩
open Classical in
theorem Mq {T:Tb} {tx:Int} {ks:List Sx} (h:Gr T ks) (H':Hs):H'.aF (ks.flatMap (Lu T tx))=H'.granted T tx:=by
 have a:∀ i:Nat,(H'.tx i).af.filter (fun w=>!JS (ks.flatMap (Lu T tx)) i w.1)=(H'.tx i).af.filter (fun w=>!decide (Ez T tx i w.1)):=fun i=>by
  apply X3;intro w _;congr 1;rw[Bool.eq_iff_iff];exact Pv h i w.1
 unfold Hs.aF Hs.granted;simp only[a]
def HRelP (P:Aw) (H:Hs) (own:Ai) (s:Nat) (tx:Int) (w:B1) (e:WA) (w':B1):Prop:=
 ∃ (V:Hi) (gs:List Ak) (own':Ai),e=.returned V/\w'.ownsRow (w.heap.size+1) 179 3 V gs.length (gs.flatMap PZ)/\(∀ b,V.ownBlock=Bs b->own' b=B0)/\gs.length<=1000/\
  (∀ H':Hs,H'.aF gs=H'.granted (H.sh s).tab tx)/\HI w' own' P (H.al s { H.sh s with tab:=Bh (H.sh s).tab tx })/\HZ (Df s) w own w' own'
theorem q57 {s:Nat} (h:HI w own P H) (hs:s<H.c) (tx:Int) (q:CA tx) (p:Dn (H.sh s).tab) :
  VX Tryz.prog 70 #[.pointer (Bs ⟨P.gs s,4,B0⟩),.int .i64 tx] w (HRelP P H own s tx w):=by
 obtain⟨v,l⟩:=h.sh s hs;refine(I6 0 100 (P.gs s) 4 _ _ v.mt v.cX (H.sh s).tab tx w l.tab q (by omega) (by decide)).mono ?_;rintro e w' ⟨V,ks,d,rfl,m,a,C,y,z⟩;have o:=QQ l.gt l.bq z;have B:=C.tight (p.rel tx);have f:∀ b,AE v.mt d (Bh (H.sh s).tab tx) b->own b=Bs (.tab s)\/w.heap.size<=b:=fun b c=>(y b c).imp (l.bq b) id
 have A:Ext own (DW own w.heap.size (AE v.mt d (Bh (H.sh s).tab tx)) (.tab s)) w.heap.size:=Rn;have u:=l.retab o A B (fun b c=>Rl (f b c) c);have x:=Rk (own:=own) (t:=.tab s) o.size (fun b c=>(C.av c).2);refine⟨V,_,_,rfl,a,fun b c=>q9h (VO (Nat.le_succ _) (a.lt b c).1) (fun D=>(C.bA a (by decide) (by decide) (by decide) c).2 D),?_,Mq m,
  h.setSh' rfl (GR o (fun t r=>r.elim .inl (fun e=>.inr (.inr (.inr (.inl e)))))) A x ⟨_,u⟩,⟨A,GR o (fun t r=>r.elim .inl (fun e=>.inr (.inr (.inr (.inl e))))),(by first|exact Qc (by simp)|exact fun _ _ h=>h)⟩⟩
 have E:=qbe p tx ks;have D:=Pf p m;omega
theorem UN {T T':Tb} {tx mode m:Int} {x:Sx} {ok:Bool} {l:List Int} (h:DA T ⟨tx,x,mode⟩ ok l m T') (f:BW mode) (e:x.length<=20):T'=An T tx x mode:=by
 unfold An;cases h with
 | arg h=>exact absurd f h
 | long _ h=>exact absurd e (by simpa using h)
 | twice _ _ a=>rw[if_pos a]
 | got _ _ a d=>rw[if_neg (by rw[a];simp),if_pos d]
 | full _ _ a d c=>rw[if_neg (by rw[a];simp),if_neg (by rw[d];simp),if_pos c]
 | waits _ _ a d c=>rw[if_neg (by rw[a];simp),if_neg (by rw[d];simp),if_neg c]
def HLockP (P:Aw) (H:Hs) (own:Ai) (s:Nat) (a:Ak) (w:B1) (e:WA) (w':B1):Prop:=
 ∃ (ok:Bool) (l:List Int) (d:Int) (A:Option Xb) (c:Nat) (own':Ai),e=.returned (.tuple #[.bool ok,.slice A l.length c,CX d])/\DA (H.sh s).tab a ok l d (An (H.sh s).tab a.tx a.key a.mode)/\
  HI w' own' P (H.al s { H.sh s with tab:=An (H.sh s).tab a.tx a.key a.mode })/\HZ (Df s) w own w' own'/\Rd w' w'.heap.size 1 A l.length (l.map (Wi .i64))/\(∀ b o,A=Bs ⟨b,o,B0⟩->0<l.length->own' b=B0)
theorem RX (base n g c:Nat) (h:VQ) (m:Array Hi) (l:Option Nat) (d:Sx->Av) (T:Tb) (s:ByteArray) (tx mode:Int) (w:B1) (hI:AD w base n g c h m l d T) (a:BW mode) (q:(sx s).length<=20) (e:CA tx) (p:n<1000000)
  (f:(Ac T (sx s)).ws.Pairwise (·.1 < ·.1)) :
  VX Tryz.prog 64 #[.pointer (Bs ⟨g,c,B0⟩),.int .i64 tx,.string s,.int .i64 mode] w (q3z base n g c h m l d T ⟨tx,sx s,mode⟩ w):=by
 rcases o:CC (Ac T (sx s)).ws tx with _|_
 ·rcases r:As (Ac T (sx s)).h tx mode (Ac T (sx s)).ws with _|_
  ·exact G8 base n g c h m l d T s tx mode w hI a q e p o r f
  ·exact RW base n g c h m l d T s tx mode w hI a q e p o r
 ·exact LY base n g c h m l d T s tx mode w hI a q e p o
theorem q9u {s:Nat} (h:HI w own P H) (hs:s<H.c) (tx mode:Int) (x:ByteArray) (u:1<=tx/\tx<=60) (r:sx x∈names) (K:BW mode) (J:Dn (H.sh s).tab) :
  VX Tryz.prog 64 #[.pointer (Bs ⟨P.gs s,4,B0⟩),.int .i64 tx,.string x,.int .i64 mode] w (HLockP P H own s ⟨tx,sx x,mode⟩ w):=by
 obtain⟨v,p⟩:=h.sh s hs;refine(RX 0 100 (P.gs s) 4 _ _ v.mt v.cX (H.sh s).tab x tx mode w p.tab K (KJ r) (FD (by omega) (by omega)) (by omega) (J.at_ (sx x)).sort).mono ?_;rintro e w' ⟨ok,l,O,T',A,c,d,a,rfl,hP,L,D,E,B,M⟩;obtain rfl:=UN hP K (KJ r);have q:=QQ p.gt p.bq E;have I:AD w' 0 100 (P.gs s) 4 105 (FC { v with mt:=d,cX:=a } { H.sh s with tab:=An (H.sh s).tab tx (sx x) mode }) d a (An (H.sh s).tab tx (sx x) mode):=L.tight (J.lock u r mode);have f:∀ b,AE d a (An (H.sh s).tab tx (sx x) mode) b->own b=Bs (.tab s)\/w.heap.size<=b:=fun b m=>(D b m).imp (p.bq b) id
 have G:Ext own (DW own w.heap.size (AE d a (An (H.sh s).tab tx (sx x) mode)) (.tab s)) w.heap.size:=Rn;have z:=p.retab q G I (fun b m=>Rl (f b m) m);have C:=Rk (own:=own) (t:=.tab s) q.size (fun b m=>(L.av m).2);exact⟨ok,l,O,A,c,_,rfl,hP,h.setSh' rfl (GR q (fun t y=>y.elim .inl (fun e=>.inr (.inr (.inr (.inl e)))))) G C ⟨_,z⟩,⟨G,GR q (fun t y=>y.elim .inl (fun e=>.inr (.inr (.inr (.inl e))))),(by first|exact Qc (by simp)|exact fun _ _ h=>h)⟩,B,fun b o e N=>q9h (M b o e N).1 (M b o e N).2⟩
def HPutP (P:Aw) (H:Hs) (own:Ai) (s:Nat) (t:Int) (p:Pr) (w:B1) (e:WA) (w':B1):Prop:=
 ∃ (a:Int) (own':Ai),e=.returned (CX a)/\HI w' own' P (H.al s { H.sh s with sto:=(Ct (H.sh s).sto 0 ⟨sx p.key,sx p.val,p.gone,t⟩).2 })/\HZ (Df s) w own w' own'
theorem R9 {s:Nat} (h:HI w own P H) (hs:s<H.c) (t:Int) (p:Pr) (m:0<=t/\t<=60) (J:SO p) (G:Do (H.sh s).sto) :
  VX Tryz.prog 82 #[.pointer (Bs ⟨P.gs s,5,B0⟩),.int .i64 t,.agg #[.string p.key,.string p.val,.bool p.gone]] w (HPutP P H own s t p w):=by
 obtain⟨v,o⟩:=h.sh s hs;refine(Ux 0 100 (P.gs s) 5 _ _ v.ms v.cY (H.sh s).sto 0 p.key p.val p.gone t w o.sto (by omega)).mono ?_;rintro e w' ⟨rfl,d,a,q,B,A⟩;have u:=sto_fr o.gt o.b6 B;have E:B8 w' 0 100 (P.gs s) 5 105 (FC { v with ms:=d,cY:=a } { H.sh s with sto:=(Ct (H.sh s).sto 0 ⟨sx p.key,sx p.val,p.gone,t⟩).2 }) d a (Ct (H.sh s).sto 0 ⟨sx p.key,sx p.val,p.gone,t⟩).2 0:=q.tight (G.put (r:=⟨sx p.key,sx p.val,p.gone,t⟩) J.1 m.1 m.2);have f:∀ b,Dz d a (Ct (H.sh s).sto 0 ⟨sx p.key,sx p.val,p.gone,t⟩).2 b->own b=Bs (.sto s)\/w.heap.size<=b:=fun b c=>by
  rcases A b (.inr c) with (rfl|l)|l
  ·exact absurd rfl (by
    rcases c with c|⟨x,I,c⟩
    ·have:=q.map;rw[c] at this;exact Aa.a6 (C:=kV) this q.ah
    ·exact fun _=>q.cd I c)
  ·exact .inl (o.b6 b l)
  ·exact .inr l
 have D:Ext own (DW own w.heap.size (Dz d a (Ct (H.sh s).sto 0 ⟨sx p.key,sx p.val,p.gone,t⟩).2) (.sto s)) w.heap.size:=Rn;have y:=o.resto u D E (fun b c=>Rl (f b c) c);have z:=Rk (own:=own) (t:=.sto s) u.size (fun b c=>(q.av (.inr c)).2);exact⟨_,_,rfl,h.setSh' rfl (GR u (fun t m=>m.elim .inl (fun e=>.inr (.inr (.inr (.inr e)))))) D z ⟨_,y⟩,⟨D,GR u (fun t m=>m.elim .inl (fun e=>.inr (.inr (.inr (.inr e))))),(by first|exact Qc (by simp)|exact fun _ _ h=>h)⟩⟩
end
theorem Cj (H:Hs) (s:Nat) (x:Bg):(H.al s x).sh s=x:=Ay _ _ _
theorem q2v (H:Hs) (s:Nat) (x y:Bg):(H.al s x).al s y=H.al s y:=by unfold Hs.al;rw[qbr]
theorem q7i (H:Hs) (s:Nat):H.al s (H.sh s)=H:=by unfold Hs.al;rw[qbs]
structure BE (H:Hs) (s:Nat):Prop where
 m:H.m<=60
 wn:∀ i,1<=i->i<=H.m->(H.tx i).af.length<=1000
 tab:Dn (H.sh s).tab
 sto:Do (H.sh s).sto
theorem BE.bN {H:Hs} {s:Nat} (h:BE H s) {T:Tb} (a:Dn T):BE (H.al s { H.sh s with tab:=T }) s:=⟨h.m,h.wn,by rw[Cj];exact a,by rw[Cj];exact h.sto⟩
theorem BE.cx {H:Hs} {s:Nat} (h:BE H s) {K:Kp} (a:Do K):BE (H.al s { H.sh s with sto:=K }) s:=⟨h.m,h.wn,by rw[Cj];exact h.tab,by rw[Cj];exact a⟩
theorem BE.bJ {H:Hs} {s:Nat} (h:BE H s) (d:Nat):BE (H.al s { H.sh s with done:=d }) s:=⟨h.m,h.wn,by rw[Cj];exact h.tab,by rw[Cj];exact h.sto⟩
theorem BE.granted {H:Hs} {s:Nat} (h:BE H s) (T:Tb) (tx:Int):BE (H.granted T tx) s:=⟨h.m,fun i c a=>VO (WD _ _) (h.wn i c a),h.tab,h.sto⟩
theorem BE.rel {H:Hs} {s:Nat} (h:BE H s) (tx:Int):BE (H.rel s tx) s:=(h.bN (h.tab.rel tx)).granted _ _
theorem LB (T:Tb) (tx:Int) {ps:List Pr} {j:Nat} {p:Pr} (h:ps[j]? = Bs p):Cd T tx (ps.take (j+1))=An (Cd T tx (ps.take j)) tx (sx p.key) 2:=by
 unfold Cd;rw[VV,h,WS];rfl
theorem Ly (K:Kp) (t:Int) {ps:List Pr} {j:Nat} {p:Pr} (h:ps[j]? = Bs p):CV K t (ps.take (j+1))=(Ct (CV K t (ps.take j)) 0 ⟨sx p.key,sx p.val,p.gone,t⟩).2:=by
 unfold CV;rw[VV,h,WS];rfl
theorem ME (K:Kp) (c:Cm) {l:List Cm} {j:Nat} {a:Cm} (h:l[j]? = Bs a):Bc K (l.take (j+1)) c=if a.ag=2/\a.tx=c.tx then CV (Bc K (l.take j) c) c.ae a.aa else Bc K (l.take j) c:=by
 unfold Bc;rw[VV,h,WS];rfl
noncomputable def Hs.taken (H:Hs) (s:Nat) (l:List Cm) (i:Nat) (c:Cm):Hs:=(H.a9 s l i c).al s { (H.a9 s l i c).sh s with done:=i+1 }
theorem q46 {H:Hs} {s i k:Nat} {l:List Cm} {c:Cm} (a:(H.sh s).done=i) (d:l[i]? = Bs c):Hs.aI s l (k+1) H=Hs.aI s l k (H.taken s l i c):=by
 show(match l[(H.sh s).done]? with|none=>H|some c=>Hs.aI s l k ((H.a9 s l (H.sh s).done c).al s { (H.a9 s l (H.sh s).done c).sh s with done:=(H.sh s).done+1 }))=_;rw[a,d];rfl
theorem BE.a9 {H:Hs} {s i:Nat} {l:List Cm} {c:Cm} (h:BE H s) (d:D2 c) (e:∀ a∈l,D2 a):BE (H.a9 s l i c) s:=by
 unfold Hs.a9;split
 ·exact h.bN (Dn.prep d.tx _ h.tab d.ps)
 ·split
  ·exact(h.cx (Do.comm d _ h.sto (fun a f=>e a (WB f)))).rel _
  ·split
   ·exact h.rel _
   ·exact h
theorem BE.taken {H:Hs} {s i:Nat} {l:List Cm} {c:Cm} (h:BE H s) (e:D2 c) (d:∀ a∈l,D2 a):BE (H.taken s l i c) s:=(h.a9 e d).bJ _
structure BF (H H':Hs) (s:Nat):Prop where
 n:H'.n=H.n
 c:H'.c=H.c
 m:H'.m=H.m
 net:H'.net=H.net
 ae:H'.ae=H.ae
 sh:∀ k,k≠s->H'.sh k=H.sh k
 nd:(H'.sh s).nd=(H.sh s).nd
 ak:(H'.sh s).ak=(H.sh s).ak
 ab:(H'.sh s).ab=(H.sh s).ab
 size:(H'.sh s).size=(H.sh s).size
 tx:∀ i,(H'.tx i).state=(H.tx i).state/\(H'.tx i).aa=(H.tx i).aa/\(H'.tx i).ad=(H.tx i).ad/\(H'.tx i).places=(H.tx i).places/\(H'.tx i).ae=(H.tx i).ae
 af:∀ i,∀ a∈(H'.tx i).af,a∈(H.tx i).af
theorem BF.refl (H:Hs) (s:Nat):BF H H s:=⟨rfl,rfl,rfl,rfl,rfl,fun _ _=>rfl,rfl,rfl,rfl,rfl,fun _=>⟨rfl,rfl,rfl,rfl,rfl⟩,fun _ _ h=>h⟩
theorem BF.trans {A B C:Hs} {s:Nat} (h:BF A B s) (k:BF B C s):BF A C s:=
 ⟨k.n.trans h.n,k.c.trans h.c,k.m.trans h.m,k.net.trans h.net,k.ae.trans h.ae,fun i c=>(k.sh i c).trans (h.sh i c),k.nd.trans h.nd,k.ak.trans h.ak,k.ab.trans h.ab,k.size.trans h.size,
  fun i=>⟨(k.tx i).1.trans (h.tx i).1,(k.tx i).2.1.trans (h.tx i).2.1,(k.tx i).2.2.1.trans (h.tx i).2.2.1,(k.tx i).2.2.2.1.trans (h.tx i).2.2.2.1,(k.tx i).2.2.2.2.trans (h.tx i).2.2.2.2⟩,fun i a d=>h.af i a (k.af i a d)⟩
theorem BF.al {H:Hs} {s:Nat} {x:Bg} (f:x.nd=(H.sh s).nd) (e:x.ak=(H.sh s).ak) (d:x.ab=(H.sh s).ab) (c:x.size=(H.sh s).size):BF H (H.al s x) s:=
 ⟨rfl,rfl,rfl,rfl,rfl,fun _ a=>AF a _,by rw[Cj];exact f,by rw[Cj];exact e,by rw[Cj];exact d,by rw[Cj];exact c,fun _=>⟨rfl,rfl,rfl,rfl,rfl⟩,fun _ _ h=>h⟩
theorem BF.granted (H:Hs) (s:Nat) (T:Tb) (tx:Int):BF H (H.granted T tx) s:=
 ⟨rfl,rfl,rfl,rfl,rfl,fun _ _=>rfl,rfl,rfl,rfl,rfl,fun _=>⟨rfl,rfl,rfl,rfl,rfl⟩,fun _ _ h=>(List.mem_filter.1 h).1⟩
theorem BF.rel (H:Hs) (s:Nat) (tx:Int):BF H (H.rel s tx) s:=(BF.al (x:={ H.sh s with tab:=Bh (H.sh s).tab tx }) rfl rfl rfl rfl).trans (BF.granted _ _ _ _)
theorem I7 (H:Hs) (s:Nat) (tx:Int):((H.rel s tx).sh s).done=(H.sh s).done:=by
 show((H.al s _).sh s).done=_;rw[Cj]
theorem BF.a9 (H:Hs) (s i:Nat) (l:List Cm) (c:Cm):BF H (H.a9 s l i c) s:=by
 unfold Hs.a9;split
 ·exact BF.al rfl rfl rfl rfl
 ·split
  ·exact(BF.al (x:={ H.sh s with sto:=Bc (H.sh s).sto (l.take i) c }) rfl rfl rfl rfl).trans (BF.rel _ _ _)
  ·split
   ·exact BF.rel _ _ _
   ·exact BF.refl _ _
theorem BF.taken (H:Hs) (s i:Nat) (l:List Cm) (c:Cm):BF H (H.taken s l i c) s:=(BF.a9 H s i l c).trans (BF.al (x:={ (H.a9 s l i c).sh s with done:=i+1 }) rfl rfl rfl rfl)
theorem BF.aI {s:Nat} {l:List Cm} : ∀ (k:Nat) (H:Hs),BF H (Hs.aI s l k H) s
 | 0,H=>BF.refl _ _
 | k+1,H=>by
  unfold Hs.aI;split
  ·exact BF.refl _ _
  ·exact(BF.taken H s _ l _).trans (BF.aI k _)
theorem BF.take (H:Hs) (s:Nat):BF H (H.take s) s:=by
 unfold Hs.take;split
 ·exact BF.refl _ _
 ·exact BF.aI _ _
theorem BE.aI {s:Nat} {l:List Cm} (d:∀ a∈l,D2 a):∀ (k:Nat) (H:Hs),BE H s->BE (Hs.aI s l k H) s
 | 0,H,h=>h
 | k+1,H,h=>by
  unfold Hs.aI;split
  ·exact h
  ·rename_i c e;exact BE.aI d k _ ((h.a9 (d c (O0 e)) d).bJ _)
structure Gl (m:Ms):Prop where
 fr:0<=m.from_/\m.from_<=60
 tw:0<=m.a4/\m.a4<=60
 cmd:m.ag=3->D2 m.cmd
 bf:m.cmd.aa.length<=20
structure E4 (t:Bi):Prop where
 bf:t.aa.length<=20
 ps:∀ p∈t.aa,SO p
 sh:∀ k e,t.ad k=Bs e->(k=0\/k=1)/\True
 pl:∀ k e,t.places k=Bs e->k=0\/k=1
 wn:∀ a∈t.af,a.1∈names
 wnd:(t.af.map (·.1)).Nodup
structure Cg (s j:Nat) (d:Nd):Prop where
 id:d.id=10*s+j
 nodes:∀ x∈d.nodes,0<=x/\x<=60
 log:∀ a∈d.log,D2 a
def Eg (H:Hs):Nat:=((List.range' 1 H.m).filter fun i=>decide ((H.tx i).ae≠0)).length
structure Wf (H:Hs):Prop where
 n4:H.n<=4
 c3:H.c<=3
 bC:H.m<=60
 nd:∀ s j,s<H.c->j<H.n->Cg s j ((H.sh s).nd j)
 tab:∀ s,s<H.c->Dn (H.sh s).tab
 sto:∀ s,s<H.c->Do (H.sh s).sto
 ak:∀ s,s<H.c->∀ i,(H.sh s).ak i=T2->0<=i/\i<=60
 net:∀ m∈H.net.l,Gl m
 down:∀ i,H.net.ak i=T2->0<=i/\i<=60
 tx:∀ i,1<=i->i<=H.m->E4 (H.tx i)
 tm:H.ae=Eg H
 cL:∀ i,1<=i->i<=H.m->0<=(H.tx i).ae/\(H.tx i).ae<=H.ae
theorem T8 (H:Hs):Eg H<=H.m:=by
 unfold Eg;exact VO (WD _ _) (by simp)
theorem E4.b5 {t:Bi} (h:E4 t):t.af.length<=4:=by
 have c:(t.af.map (·.1)).length<=names.length:=WZ h.wnd (fun x d=>by
  obtain⟨a,e,rfl⟩:=List.mem_map.1 d;exact h.wn a e)
 rw[Wh] at c;exact c
section
variable {H H':Hs}
theorem Wf.aY (h:Wf H):0<=H.ae/\H.ae<=60:=by have:=h.tm;have:=T8 H;have:=h.bC;omega
theorem Wf.idOk (h:Wf H) {s j:Nat} (hs:s<H.c) (a:j<H.n):E3 ((H.sh s).nd j).id:=by
 have:=(h.nd s j hs a).id;have:=h.c3;have:=h.n4;exact FD (by omega) (by omega)
theorem Wf.cN (h:Wf H) {s:Nat} (hs:s<H.c):BE H s:=⟨h.bC,fun i c a=>by have:=(h.tx i c a).b5;omega,h.tab s hs,h.sto s hs⟩
theorem E4.sub {t t':Bi} (h:E4 t) (d:t'.aa=t.aa) (l:t'.ad=t.ad) (f:t'.places=t.places) (c:t'.af.Sublist t.af):E4 t':=
 ⟨by rw[d];exact h.bf,by rw[d];exact h.ps,by rw[l];exact h.sh,by rw[f];exact h.pl,fun a e=>h.wn a (c.subset e),h.wnd.sublist (c.map _)⟩
theorem Og (c:H'.m=H.m) (a:∀ i,(H'.tx i).ae=(H.tx i).ae):Eg H'=Eg H:=by
 unfold Eg;rw[c];congr 1;apply X3;intro i _;rw[a]
theorem Wf.of (h:Wf H) (y:H'.n=H.n) (o:H'.c=H.c) (p:H'.m=H.m) (x:H'.ae=H.ae) (r:∀ s j,s<H.c->j<H.n->Cg s j ((H'.sh s).nd j)) (e:∀ s,s<H.c->Dn (H'.sh s).tab) (f:∀ s,s<H.c->Do (H'.sh s).sto)
  (c:∀ s,s<H.c->(H'.sh s).ak=(H.sh s).ak) (l:∀ m∈H'.net.l,Gl m) (a:H'.net.ak=H.net.ak) (q:∀ i,1<=i->i<=H.m->E4 (H'.tx i)) (d:∀ i,(H'.tx i).ae=(H.tx i).ae):Wf H':=
 ⟨by rw[y];exact h.n4,by rw[o];exact h.c3,by rw[p];exact h.bC,by rw[o,y];exact r,by rw[o];exact e,by rw[o];exact f,by rw[o];exact fun s hs i u=>h.ak s hs i (by rw[<- c s hs];exact u),l,
  fun i u=>h.down i (by rw[<- a];exact u),by rw[p];exact q,by rw[x,Og p d];exact h.tm,by rw[p,x];exact fun i A z=>by rw[d];exact h.cL i A z⟩
theorem Fe {s:Nat} {l:List Cm} : ∀ (k:Nat) (H:Hs) (i:Nat),((Hs.aI s l k H).tx i).af.Sublist (H.tx i).af
 | 0,H,i=>XO _
 | k+1,H,i=>by
  unfold Hs.aI;split
  ·exact XO _
  ·rename_i c a;refine(Fe k _ i).trans ?_;show(((H.a9 s l (H.sh s).done c)).tx i).af.Sublist _;unfold Hs.a9;split
   ·exact XO _
   ·split
    ·exact XQ
    ·split
     ·exact XQ
     ·exact XO _
theorem K9 (H:Hs) (s i:Nat):((H.take s).tx i).af.Sublist (H.tx i).af:=by
 unfold Hs.take;split
 ·exact XO _
 ·exact Fe _ _ _
theorem Wf.take (h:Wf H) {s:Nat} (hs:s<H.c):Wf (H.take s):=by
 have c:=BF.take H s;have f:BE (H.take s) s:=by
  unfold Hs.take;split
  ·exact h.cN hs
  ·rename_i j l;refine BE.aI (fun a o=>?_) _ _ (h.cN hs);have m:j<H.n:=by
    have:=WT l;unfold Bg.aj at this;exact List.mem_range.1 (List.mem_filter.1 this).1
   exact(h.nd s j hs m).log a o
 refine h.of c.n c.c c.m c.ae (fun k j d l=>?_) (fun k d=>?_) (fun k d=>?_) (fun k d=>?_) (by rw[c.net];exact h.net) (by rw[c.net]) (fun i q p=>(h.tx i q p).sub (c.tx i).2.1 (c.tx i).2.2.1 (c.tx i).2.2.2.1 (K9 H s i)) (fun i=>(c.tx i).2.2.2.2)
 ·by_cases e:k=s
  ·rw[e,c.nd];exact h.nd s j hs l
  ·rw[c.sh k e];exact h.nd k j d l
 ·by_cases e:k=s
  ·rw[e];exact f.tab
  ·rw[c.sh k e];exact h.tab k d
 ·by_cases e:k=s
  ·rw[e];exact f.sto
  ·rw[c.sh k e];exact h.sto k d
 ·by_cases e:k=s
  ·rw[e,c.ak]
  ·rw[c.sh k e]
theorem qay:∀ (ms:List Ms) (s:Bk) (m:Ms),m∈(Dh s ms).l->m∈s.l\/m∈ms
 | [],s,m,h=>.inl h
 | x::ms,s,m,h=>by
  rcases qay ms (BA s x) m h with h|h
  ·unfold BA at h;split at h
   ·exact .inl h
   ·rcases List.mem_append.1 h with h|h
    ·exact .inl h
    ·rw[VW] at h;subst h;exact .inr (VL ..)
  ·exact .inr (VM _ h)
theorem Wf.send (h:Wf H) {ms:List Ms} (c:∀ m∈ms,Gl m):Wf (H.send ms):=
 h.of rfl rfl rfl rfl h.nd h.tab h.sto (fun _ _=>rfl) (fun m a=>(qay ms H.net m a).elim (h.net m) (c m)) (q2g ms H.net) h.tx (fun _=>rfl)
theorem Wf.an (h:Wf H) {s j:Nat} {d:Nd} (l:Cg s j d):Wf (H.an s j d):=by
 refine h.of rfl rfl rfl rfl (fun k i a c=>?_) (fun k a=>?_) (fun k a=>?_) (fun k a=>?_) h.net rfl h.tx (fun _=>rfl)
 ·show Cg k i ((Ae H.sh s { H.sh s with nd:=Ae (H.sh s).nd j d } k).nd i);by_cases e:k=s
  ·subst e;rw[Ay];show Cg k i (Ae (H.sh k).nd j d i);by_cases f:i=j
   ·subst f;rw[Ay];exact l
   ·rw[AF f];exact h.nd k i a c
  ·rw[AF e];exact h.nd k i a c
 ·show Dn (Ae H.sh s { H.sh s with nd:=Ae (H.sh s).nd j d } k).tab;by_cases e:k=s
  ·subst e;rw[Ay];exact h.tab k a
  ·rw[AF e];exact h.tab k a
 ·show Do (Ae H.sh s { H.sh s with nd:=Ae (H.sh s).nd j d } k).sto;by_cases e:k=s
  ·subst e;rw[Ay];exact h.sto k a
  ·rw[AF e];exact h.sto k a
 ·show(Ae H.sh s { H.sh s with nd:=Ae (H.sh s).nd j d } k).ak=_;by_cases e:k=s
  ·subst e;rw[Ay]
  ·rw[AF e]
theorem wf_to {s j:Nat} {d:Nd} (h:Cg s j d) (b:Int):0<=d.a4 b/\d.a4 b<=60:=by
 unfold Nd.a4;cases e:d.nodes[(d.at_+b).toNat]? with
 | none=>simp
 | some x=>exact h.nodes x (O0 e)
theorem Cg.cI {s j:Nat} {d:Nd} (h:Cg s j d) (hs:s<3) (a:j<4):0<=d.id/\d.id<=60:=by have:=h.id;omega
theorem GD {s j:Nat} {d:Nd} (h:Cg s j d) (hs:s<3) (c:j<4) (kind b k:Int) (a:kind≠3):Gl (d.msg kind b k):=⟨h.cI hs c,wf_to h b,fun e=>absurd e a,by show cm0.aa.length<=20;decide⟩
theorem qak {s j:Nat} {d:Nd} (h:Cg s j d) (hs:s<3) (e:j<4) {k:Nat} (a:k<d.log.length):Gl (d.forward k):=by
 have c:D2 ((d.log[k]?).getD cm0):=by rw[K0 a];exact h.log _ (WE a)
 exact⟨h.cI hs e,wf_to h 1,fun _=>c,c.bf⟩
theorem q8s {s j:Nat} {d:Nd} (h:Cg s j d) (hs:s<3) (c:j<4):Cg s j d.tick.1/\∀ m∈d.tick.2,Gl m:=by
 unfold Nd.tick;split
 ·exact⟨h,fun m a=>by cases a⟩
 ·split
  ·refine⟨⟨h.id,h.nodes,h.log⟩,fun m a=>?_⟩;split at a
   ·rw[List.mem_singleton.1 a];exact GD h hs c _ _ _ (by decide)
   ·cases a
  ·exact⟨h,fun m a=>by rw[List.mem_singleton.1 a];exact GD h hs c _ _ _ (by decide)⟩
theorem Gz {s j:Nat} {d:Nd} (h:Cg s j d) {c:Cm} (e:D2 c):Cg s j (d.push c):=⟨h.id,h.nodes,fun a f=>(List.mem_append.1 f).elim (h.log a) (fun h=>by rw[List.mem_singleton.1 h];exact e)⟩
theorem M1 {s j:Nat} {d:Nd} (h:Cg s j d) (hs:s<3) (e:j<4) {c:Cm} (a:D2 c):Cg s j (d.grow c).1/\∀ m∈(d.grow c).2,Gl m:=by
 unfold Nd.grow;split
 ·exact q8s (Gz h a) hs e
 ·exact⟨Gz h a,fun m f=>by rw[List.mem_singleton.1 f];exact qak (Gz h a) hs e (by show _<(d.log++[c]).length;simp)⟩
theorem Qq {s j:Nat} {d:Nd} (h:Cg s j d) (hs:s<3) (e:j<4) {c:Cm} (f:D2 c) (b:Bool):Cg s j (d.add c b).1.1/\∀ m∈(d.add c b).1.2,Gl m:=by
 unfold Nd.add;split
 ·exact⟨h,fun m a=>by cases a⟩
 ·split
  ·exact⟨h,fun m a=>by cases a⟩
  ·exact M1 h hs e f
theorem MZ {s j:Nat} {d:Nd} (h:Cg s j d) (hs:s<3) (c:j<4) {m:Ms} (e:Gl m):Cg s j (d.step m).1/\∀ x∈(d.step m).2,Gl x:=by
 rw[qbw];split
 ·exact⟨h,fun x a=>by cases a⟩
 ·split
  ·exact⟨h,fun x a=>by rw[List.mem_singleton.1 a];exact GD h hs c _ _ _ (by decide)⟩
  ·split
   ·refine⟨h,fun x a=>?_⟩;obtain⟨k,f,rfl⟩:=List.mem_map.1 a;rw[List.mem_range'_1] at f;exact qak h hs c (by omega)
   ·split
    ·rename_i l;exact M1 h hs c (e.cmd l.1)
    ·split
     ·refine⟨⟨h.id,h.nodes,h.log⟩,fun x a=>?_⟩;split at a
      ·rw[List.mem_singleton.1 a];exact GD h hs c _ _ _ (by decide)
      ·cases a
     ·exact⟨h,fun x a=>by cases a⟩
theorem M0 {s j:Nat} {d:Nd} (h:Cg s j d) (e:Int) {c:List Int} (f:∀ x∈c,0<=x/\x<=60):Cg s j (d.join e c):=by
 unfold Nd.join;split
 ·exact⟨h.id,f,fun a l=>by cases l⟩
 ·exact⟨h.id,f,h.log⟩
theorem Lm (H:Hs) (s j:Nat):H.an s j ((H.sh s).nd j)=H:=by
 unfold Hs.an Hs.al;rw[qbs];show({ H with sh:=Ae H.sh s (H.sh s) } : Hs)=H;rw[qbs]
theorem Wf.add (h:Wf H) {s j:Nat} (hs:s<H.c) (a:j<H.n) {c:Cm} (d:D2 c) (b:Bool):Wf (H.add s j c b).2:=by
 have f:s<3:=by have:=h.c3;omega
 have e:j<4:=by have:=h.n4;omega
 unfold Hs.add;split
 ·exact h
 ·obtain⟨m,l⟩:=Qq (h.nd s j hs a) f e d b;exact((h.an m).send l).take hs
end
def CR (s:Nat) (t:Tg):Prop:=Df s t\/QG t
theorem Lc (H:Hs) (s i:Nat) (l:List Cm) (c:Cm):((H.a9 s l i c).sh s).done=(H.sh s).done:=by
 unfold Hs.a9;split
 ·rw[Cj]
 ·split
  ·rw[I7,Cj]
  ·split
   ·rw[I7]
   ·rfl
theorem cund:Tryz.prog.underlying 66=Bs (.slice 69):=Tryz.underlying66
theorem celem:Tryz.prog.elem 66=69:=by kernel_rfl
theorem csize (w:B1):(sizeOf 69).run Tryz.prog w=.ok 4 w:=by kernel_rfl
def Gm (P:Aw) (own:Ai) (s:Nat) (a:Hs) (w2:B1) (wr:B1):Prop:=∃ own',HI wr own' P a/\HZ (CR s) w2 own wr own'
def TkRel (P:Aw) (own:Ai) (H:Hs) (s:Nat) (l:List Cm) (w2:B1) (wr:B1):Prop:=
 ∃ (i:Nat) (a:Hs),Gm P own s a w2 wr/\BE a s/\BF H a s/\(a.sh s).done=i/\Hs.aI s l (l.length-(H.sh s).done) H=Hs.aI s l (l.length-i) a
def NN (P:Aw) (own:Ai) (H:Hs) (s:Nat) (w:B1) (e:WA) (w':B1):Prop:=e=.returned (.tuple #[])/\∃ own',HI w' own' P (H.take s)/\HZ (CR s) w own w' own'
def SY (P:Aw) (s:Nat) (c:Hs) (x:Bt) (d:B1) (a:Ai) (v:Hi) (wr:B1):Prop:=
 ∃ (p:Nat) (own':Ai),v=.int .i64 p/\p<=x.n/\HI wr own' P (c.al s { c.sh s with tab:=Cd (c.sh s).tab x.c.tx (x.c.aa.take p) })/\HZ (CR s) d a wr own'
def KD (P:Aw) (s:Nat) (c:Hs) (x:Bt) (l:List Cm) (i:Nat) (d:B1) (a:Ai) (v:Hi) (wr:B1):Prop:=
 ∃ (q:Nat) (own':Ai),v=.int .i64 q/\q<=i/\HI wr own' P (c.al s { c.sh s with sto:=Bc (c.sh s).sto (l.take q) x.c })/\HZ (CR s) d a wr own'
def SX (P:Aw) (s:Nat) (c:Hs) (e:Kp) (x y:Bt) (d:B1) (a:Ai) (v:Hi) (wr:B1):Prop:=
 ∃ (p:Nat) (own':Ai),v=.int .i64 p/\p<=y.n/\HI wr own' P (c.al s { c.sh s with sto:=CV e x.c.ae (y.c.aa.take p) })/\HZ (CR s) d a wr own'
section
variable {w w':B1} {own own':Ai} {P:Aw} {H:Hs}
theorem HZ.bx {Z:Tg->Prop} {g:Nat} {t:VQ} {a:Array Hi} (c:HZ Z w own w' own') (e:Ab w g t a) (d:own g=B0):Ab w' g t a:=c.fr.ah e (fun h=>h.owned d)
theorem HI.free (h:HI w own P H) {b:Nat} (a:w.heap.size<=b):own b=B0:=by
 cases e:own b with
 | none=>rfl
 | some t=>have:=h.lt b (by rw[e];simp);omega
theorem QM {s:Nat} (h:HI w own P H) (hs:s<H.c) (hn:H.n<=100) (br:∀ j,j<H.n->E3 ((H.sh s).nd j).id) (bo:BE H s) (bk:∀ j,j<H.n->∀ a∈((H.sh s).nd j).log,D2 a) :
  VX Tryz.prog 52 #[pw P.g,pw (P.gs s)] w (NN P own H s w):=by
 have a1:=LH (Fu h hs hn br);have af:H.take s=match H.head s with|none=>H|some j=>Hs.aI s ((H.sh s).nd j).log (((H.sh s).nd j).log.length-(H.sh s).done) H:=rfl
 have bq:∀ j,H.head s=Bs j->j<H.n:=fun j e=>by
  have:=WT e;unfold Bg.aj at this;exact List.mem_range.1 (List.mem_filter.1 this).1
 have HH:=LH h;have c8:=LH bo;have bH:=LH bk;clear h br bo bk;rcases hh:H.head s with _|j
 ·rw[hh] at af;unfold EH at a1;rw[hh] at a1;have aN:=LH af;clear af hh;unfold pw Dk at *;go_enter Tryz.func52,Tryz.ntmps52;go_wp2_with fail;refine a1.o.mono ?_;rintro e w1 ⟨rfl,a7⟩;have m:NN P own H s w (.returned (.tuple #[])) w1:=⟨rfl,own,by rw[aN.o];exact HH.o.below a7,HZ.below own a7⟩
  have HF:=LH m;clear m a7;go_wp2_with fail;refine bodyPost_ret (results_none rfl _ _ _) rfl ?_;exact HF.o
 ·have hj:=bq j hh;rw[hh] at af;unfold EH at a1;rw[hh] at a1;have aN:=LH af;clear af bq hh;unfold Dk at a1;unfold pw at *;go_enter Tryz.func52,Tryz.ntmps52;go_wp2_with fail;refine a1.o.mono ?_;rintro e w1 ⟨rfl,a7⟩;have b9:=HH.o.below a7;obtain⟨C,V,L,b7,bz⟩:=b9.nd s j hs hj;have bP:=LH (q9o b7);have bf:=LH a7;have ca:=LH bz;have bN:=LH b7;have bd:=LH b9;clear a7 bz b7 b9 a1;go_wp2_with fail;refine bP.o.mono ?_;rintro e w2 ⟨A5,k5,rfl,a5,aK,ar⟩;have bA:=bd.o.below aK;have aL:=bN.o.a8 aK;have aT:=aL.log;have cu:=aL.len;have bV:L.length<=k5:=by obtain⟨_,_,e5,h5,_⟩:=AK a5;injection e5 with _ _ e5;omega
  have aF:=LH (fun b hb=>bd.o.free (ar b hb));have aY:=LH a5;have cf:=LH bA;have cc:=LH aL;have cj:=LH (bf.o.trans (aK.mono bf.o.size));have aA:=LH (fun a (ha:a∈AM L)=>bH.o j hj a (by rw[<- aT];exact ha));rw[<- aT] at aN;have c9:=LH (fun W c (hz:HZ (CR s) w2 own W c)=>cc.o.fr hz.fr (fun b hb bR=>by
   have:=bR.tag (ca.o b hb);rcases this with (h|h|h|h|h)|⟨i,h⟩ <;> cases h))
  have bc:=LH (fun W c (hz:HZ (CR s) w2 own W c)=>Qb aY.o aF.o hz);clear a5 aK ar bA aL bP bN bd bf bH aF aY;have cl:(AM L).length=L.length:=by simp[AM]
  go_wp2_with fail;go_loopw [6] (fun _ wr=>TkRel P own H s (AM L) w2 wr) (fun _ wr=>L.length-(intOf ((wr.cell? ⟨P.gs s,7,B0⟩).getD undef)).toNat)
  case atStart=>exact⟨(H.sh s).done,H,⟨own,cf.o,HZ.refl _ _ _⟩,c8.o,BF.refl _ _,rfl,rfl⟩
  case round=>
   obtain⟨i,z,⟨c,ah,a8⟩,aq,ac,aJ,Y⟩:=hrel;have a4:s<z.c:=by rw[ac.c];exact hs
   obtain⟨v,hv⟩:=ah.sh s a4;obtain⟨_,_,_,_,c7,gl⟩:=hv.cells;rw[aJ] at c7;by_cases bT:i<L.length
   ·have d1:decide ((i:Int)<(L.length:Int))=T2:=decide_eq_true (by omega);obtain⟨gz,kz,bW,_,_⟩:=LI (bc.o _ _ a8) (by omega);injection bW with hA5 _ hk5;subst hA5 hk5;obtain⟨cw,ol,x,bC,aU,hx,l0,l1,l2,l3⟩:=rd4 (Rd.au (bc.o _ _ a8)) rfl bT;simp only[VN,W7,and_true] at bC;obtain⟨rfl,rfl⟩:=bC;rw[Wg] at l0 l1 l2 l3;have HX:=LH hx;have b2:(AM L)[i]? = Bs x.c:=by rw[AM,VT,hx];rfl
    have c0:=LH b2;have M:=LH (aA.o x.c (O0 b2));have bw:Ab (wr.alloc (.cells #[.int .i64 x.c.ag,.int .i64 x.c.tx,.int .i64 x.c.ae,.slice x.A x.n x.k] 69)) wr.heap.size 69 #[.int .i64 x.c.ag,.int .i64 x.c.tx,.int .i64 x.c.ae,.slice x.A x.n x.k]:=Ab.new wr _ _;have b6:VJ wr.heap.size wr (wr.alloc (.cells #[.int .i64 x.c.ag,.int .i64 x.c.tx,.int .i64 x.c.ae,.slice x.A x.n x.k] 69)):=(S2 _ _).alloc (L1 _) _;have aV:c wr.heap.size=B0:=ah.free (L1 _);have aD:=LH (ah.below b6);have ai:=LH (a8.trans (HZ.below c b6));have ad:=LH aV;have X:=LH bw;have N:=LH aq;have bK:=LH ac;have be:=LH aJ;have bI:=LH Y;have bQ:w2.heap.size<=wr.heap.size:=a8.fr.size;have C7:=LH c7;clear hx b2 bw b6 aV aq ac aJ Y ah a8 hv;go_upto_block 1 with (fail)
    clear c7;go_cut [] (fun wx=>Gm P own s (z.a9 s (AM L) i x.c) w2 wx)
    case first=>
     have c7:=C7.o;go_upto_region 6 with (fail)
     clear l0 l1 l2 l3 c7 aU d1;generalize bu:wr.alloc (.cells #[.int .i64 x.c.ag,.int .i64 x.c.tx,.int .i64 x.c.ae,.slice x.A x.n x.k] 69)=I at *;generalize cm:wr.heap.size=U at *;have ab:=LH (fun W own' (hz:HZ (CR s) I c W own')=>hz.bx X.o ad.o);have aO:=LH (fun W own' (hz:HZ (CR s) I c W own')=>c9.o W own' (ai.o.trans hz));clear bu;have q0:=X.o.cell 0;have q1:=X.o.cell 1;have q2:=X.o.cell 2;have q3:=X.o.cell 3;simp only[Ft,D0,N2] at q0 q1 q2 q3;have ql:=X.o.lt;clear C7;by_cases k2:x.c.ag=2
     ·rw[k2] at q0;have aB:=LH (show z.a9 s (AM L) i x.c=z.al s { z.sh s with tab:=Cd (z.sh s).tab x.c.tx x.c.aa } by unfold Hs.a9;rw[if_pos k2]);have an:SY P s z x I c (.int .i64 (0:Nat)) I:=⟨0,c,rfl,VK _,by rw[XN];show HI I c P (z.al s { z.sh s with tab:=(z.sh s).tab });rw[q7i];exact aD.o,HZ.refl _ _ _⟩
      have bb:=LH an;clear an;have b1:=(aO.o _ _ (HZ.refl _ _ _)).own x (O0 HX.o);have ct:x.c.aa.length=x.n:=b1.2.1;have cs:x.n<=100000:=b1.2.2;clear b1;go_wp2_with fail;go_loopw [47] (SY P s z x I c) (fun v _=>x.n-(intOf v).toNat)
      case atStart=>exact bb.o
      case round=>
       obtain⟨p,l,rfl,hp,A,u⟩:=hrel;by_cases b4:(p:Int)<x.n
       ·have bi:=((aO.o _ _ u).own x (O0 HX.o)).reads;obtain⟨gp,op,D,hA,b5,ag,p0,p1,p2⟩:=bi.at_ (k:=p) (by omega);have bL:=LH ag;have ce:=LH A;have bX:=LH u;have dl:decide ((p:Int)<(x.n:Int))=T2:=decide_eq_true (by omega);have aW:=(ab.o _ _ u).lt;have bn:Ab (wr.alloc (.cells #[.string D.key,.string D.val,.bool D.gone] 45)) wr.heap.size 45 #[.string D.key,.string D.val,.bool D.gone]:=Ab.new wr _ _;have aj:=LH bn;have O:=(S2 wr.heap.size wr).alloc (L1 _) (.cells #[.string D.key,.string D.val,.bool D.gone] 45);have aP:=LH ((ab.o _ _ u).below O aW);have aa:=LH (A.below O);have c6:=LH (A.free (L1 _));have cg:=LH (show l U=B0 from(u.ext U X.o.lt).trans ad.o);have a0:=LH (u.trans (HZ.below l O));clear bi ag A u bn ce bX O aW;go_upto_region 11 with (fail)
        clear p0 p1 p2 b5 dl hA;generalize wr.alloc (.cells #[.string D.key,.string D.val,.bool D.gone] 45)=w6 at *;generalize wr.heap.size=pb at *;have aS:=N.o.bN (T:=Cd (z.sh s).tab x.c.tx (x.c.aa.take p)) (Dn.prep M.o.tx _ N.o.tab (fun q hq=>M.o.ps q (WB hq)));have ax:=aa.o.below (S2 w6.heap.size w6).drew;have bp:=q9u ax (show s<_ from a4) x.c.tx 2 D.key M.o.tx (M.o.ps D (O0 bL.o)).1 (.inr rfl) aS.tab;have bO:=LH bp;have r1:w6.drew.cell? ⟨U,1,B0⟩=Bs (.int .i64 x.c.tx):=aP.o.cell 1;have r2:w6.drew.cell? ⟨pb,0,B0⟩=Bs (.string D.key):=aj.o.cell 0;have az:=LH (a0.o.trans (HZ.below l (S2 w6.heap.size w6).drew));clear bp ax aS aa a0;refine nW ?_;refine CU (fun W=>W.cell? ⟨U,1,B0⟩=Bs (.int .i64 x.c.tx)/\W.cell? ⟨pb,0,B0⟩=Bs (.string D.key)) 12 (fun _ _ _ _ _ h=>h) (fun f=>?_);have d:=Wm r1 r2;refine nD 0 [1,2,7,8,9,10,11] f d ?_;refine nD 1 [2,7,8,9,10,11] f d ?_;refine nD 2 [7,8,9,10,11] f d ?_;refine nD 3 [4,7,8,9,10,11] f d ?_;refine nA 4 [7,8,9,10,11] rfl rfl f d (fun w' a3=>by obtain⟨h1,h2⟩:=a3;go_simp;rfl) ?_;refine nD 5 [6,7,8,9,10,11] f d ?_;refine nA 6 [7,8,9,10,11] rfl rfl f d (fun w' a3=>by obtain⟨h1,h2⟩:=a3;go_simp;rfl) ?_;clear d r1 r2;refine nG 7 (fun KK hK=>?_);go_simp;refine bO.o.mono ?_;rintro e w7 ⟨cp,l7,cy,A7,bE,Q,rfl,_,G,B,_,_⟩;rw[q2v,Cj] at G;have ao:SY P s z x I c (.int .i64 ((p+1:Nat):Int)) w7:=⟨p+1,Q,rfl,by omega,by rw[LB _ _ bL.o];exact G,az.o.trans (B.mono (fun t ht=>.inl ht))⟩
        have c3:=LH ao;have d:=Wm ((B.bx (show Ab w6.drew U _ _ from aP.o) cg.o).cell 1) ((B.bx (show Ab w6.drew pb _ _ from aj.o) c6.o).cell 0);clear ao G B bO;go_simp;refine hK _ _ (fun _=>d) ?_;clear hK KK;refine nD 8 [9,10,11] f d ?_;refine nD 9 [] f d ?_;refine nD 10 [] f d ?_;refine nD 11 [] f d ?_;clear d;refine nX ?_;clear f;go_wp2_with fail;go_roundw
        ·exact c3.o
        ·simp[intOf];omega
       ·have dl:decide ((p:Int)<(x.n:Int))=Jx:=decide_eq_false (by omega);rw[VU (by omega)] at A;have m:Gm P own s (z.a9 s (AM L) i x.c) w2 wr:=⟨l,by rw[aB.o];exact A,ai.o.trans u⟩
        have HF:=LH m;clear m A u;go_wp2_with fail;go_meet;exact HF.o
     ·have e2:(x.c.ag == 2)=Jx:=by simpa using k2
      by_cases k3:x.c.ag=3
      ·have aB:=LH (show z.a9 s (AM L) i x.c=(z.al s { z.sh s with sto:=Bc (z.sh s).sto ((AM L).take i) x.c }).rel s x.c.tx by unfold Hs.a9;rw[if_neg k2,if_pos k3]);rw[k3] at q0;clear k2 e2;have an:KD P s z x (AM L) i I c (.int .i64 (0:Nat)) I:=⟨0,c,rfl,VK _,by rw[XN];show HI I c P (z.al s { z.sh s with sto:=(z.sh s).sto });rw[q7i];exact aD.o,HZ.refl _ _ _⟩
       have bb:=LH an;clear an;obtain⟨v3,bl⟩:=aD.o.sh s a4;obtain⟨_,_,_,_,bD,cv⟩:=bl.cells;rw[be.o] at bD;have s1:=q3k 66 cund celem csize I gz L.length k5 i (i:Int) rfl (by omega);clear bl;go_wp2_with fail;clear q0 q1 q2 q3 bD s1;go_loopw [73] (KD P s z x (AM L) i I c) (fun v _=>i-(intOf v).toNat)
       case atStart=>exact bb.o
       case round=>
        obtain⟨q,l,rfl,hq,A,u⟩:=hrel;have aP:=LH (ab.o _ _ u);by_cases bm:(q:Int)<i
        ·have bS:q<L.length:=by omega
         have dl:decide ((q:Int)<(i:Int))=T2:=decide_eq_true bm;obtain⟨gy,oy,y,bB,bU,hy,y0,y1,y2,y3⟩:=rd4 (Rd.au (bc.o _ _ (ai.o.trans u))) rfl bS;simp only[VN,W7,and_true] at bB;obtain⟨rfl,rfl⟩:=bB;rw[Wg] at y0 y1 y2 y3;have HY:=LH hy;have b0:(AM L)[q]? = Bs y.c:=by rw[AM,VT,hy];rfl
         have aM:=LH (ME (z.sh s).sto x.c b0);have bG:=LH (aA.o y.c (O0 b0));have O:=(S2 wr.heap.size wr).alloc (L1 _) (.cells #[.int .i64 y.c.ag,.int .i64 y.c.tx,.int .i64 y.c.ae,.slice y.A y.n y.k] 69);have bZ:=LH (Ab.new wr 69 #[.int .i64 y.c.ag,.int .i64 y.c.tx,.int .i64 y.c.ae,.slice y.A y.n y.k]);have cA:=LH (A.free (L1 _));have aa:=LH (A.below O);have a0:=LH (u.trans (HZ.below l O));clear O A u hy b0 aP;go_upto_region 17 with (fail)
         clear y0 y1 y2 y3 bU dl;generalize wr.alloc (.cells #[.int .i64 y.c.ag,.int .i64 y.c.tx,.int .i64 y.c.ae,.slice y.A y.n y.k] 69)=w6 at *;generalize wr.heap.size=yb at *;have al:=bZ.o;have q0:=al.cell 0;have q1:=al.cell 1;have q3:=al.cell 3;simp only[Ft,D0,N2] at q0 q1 q3;have co:=al.lt;have au:=ab.o _ _ a0.o;have c1:=au.cell 1;simp only[Ft,D0,N2] at c1;have cz:=au.lt;clear al au;by_cases a2:y.c.ag=2
         ·rw[a2] at q0;by_cases ae:y.c.tx=x.c.tx
          ·have et:(y.c.tx == x.c.tx)=T2:=by simpa using ae
           have bY:=LH (aM.o.trans (if_pos ⟨a2,ae⟩));clear aM a2 ae;have aR:=N.o.cx (K:=Bc (z.sh s).sto ((AM L).take q) x.c) (Do.comm M.o _ N.o.sto (fun a ha=>aA.o a (WB ha)));have cd:=LH (show Do (Bc (z.sh s).sto ((AM L).take q) x.c) by have:=aR.sto;rw[Cj] at this;exact this);have bJ:=LH (show SX P s z (Bc (z.sh s).sto ((AM L).take q) x.c) x y I c (.int .i64 (0:Nat)) w6 from⟨0,l,rfl,VK _,aa.o,a0.o⟩);have aZ:=(aO.o _ _ a0.o).own y (O0 HY.o);have cr:y.c.aa.length=y.n:=aZ.2.1;have cq:y.n<=100000:=aZ.2.2;clear aZ aR aa;go_wp2_with fail;clear q0 q1 q3 c1 et;go_loopw [90] (SX P s z (Bc (z.sh s).sto ((AM L).take q) x.c) x y I c) (fun v _=>y.n-(intOf v).toNat)
           case atStart=>exact bJ.o
           case round=>
            obtain⟨p,Q,rfl,hp,G,B⟩:=hrel;by_cases b4:(p:Int)<y.n
            ·have dl:decide ((p:Int)<(y.n:Int))=T2:=decide_eq_true b4;have bh:=((aO.o _ _ B).own y (O0 HY.o)).reads;obtain⟨gp,op,D,hA,b5,ag,p0,p1,p2⟩:=bh.at_ (k:=p) (by omega);have c5:=LH (Ly (Bc (z.sh s).sto ((AM L).take q) x.c) x.c.ae ag);have c2:=LH (bG.o.ps D (O0 ag));have O:=(S2 wr.heap.size wr).alloc (L1 _) (.cells #[.string D.key,.string D.val,.bool D.gone] 45);have aj:=LH (Ab.new wr 45 #[.string D.key,.string D.val,.bool D.gone]);have bj:Do (CV (Bc (z.sh s).sto ((AM L).take q) x.c) x.c.ae (y.c.aa.take p)):=Do.puts M.o.ae.1 M.o.ae.2 _ cd.o (fun r hr=>bG.o.ps r (WB hr));have aQ:=R9 ((G.below O).below (S2 _ _).drew) (show s<_ from a4) x.c.ae D M.o.ae c2.o (by rw[Cj];exact bj);have bM:=LH aQ;have bF:=LH ((B.trans (HZ.below Q O)).trans (HZ.below Q (S2 _ _).drew));have aX:=(ab.o _ _ bF.o)
             have ch:=LH aX;clear bh ag O bj aQ G B aX;go_upto_region 21 with (fail)
             clear p0 p1 p2 b5 dl hA;generalize wr.alloc (.cells #[.string D.key,.string D.val,.bool D.gone] 45)=w8 at *;generalize wr.heap.size=pb at *;have r1:w8.drew.cell? ⟨U,2,B0⟩=Bs (.int .i64 x.c.ae):=ch.o.cell 2;have r2:w8.drew.cell? ⟨pb,0,B0⟩=Bs (.string D.key):=aj.o.cell 0;have r3:w8.drew.cell? ⟨pb,1,B0⟩=Bs (.string D.val):=aj.o.cell 1;have r4:w8.drew.cell? ⟨pb,2,B0⟩=Bs (.bool D.gone):=aj.o.cell 2;refine nW ?_;refine CU (fun W=>W.cell? ⟨U,2,B0⟩=Bs (.int .i64 x.c.ae)/\W.cell? ⟨pb,0,B0⟩=Bs (.string D.key)/\W.cell? ⟨pb,1,B0⟩=Bs (.string D.val)/\W.cell? ⟨pb,2,B0⟩=Bs (.bool D.gone)) 6 (fun _ _ _ _ _ h=>h) (fun f=>?_);have d:=Wm r1 (Wm r2 (Wm r3 r4));refine nD 0 [1,2,6] f d ?_;refine nD 1 [2,6] f d ?_;refine nD 2 [6] f d ?_;refine nD 3 [4,6] f d ?_;refine nA 4 [6] rfl rfl f d (fun w' a3=>by obtain⟨h1,h2,h3,h4⟩:=a3;go_simp;rfl) ?_;refine nA 5 [6] rfl rfl f d (fun w' a3=>by obtain⟨h1,h2,h3,h4⟩:=a3;go_simp;rfl) ?_;clear d r1 r2 r3 r4;refine nG 6 (fun KK hK=>?_);go_simp;refine bM.o.mono ?_;rintro e w9 ⟨cx,bg,rfl,b8,bx⟩;rw[q2v,Cj] at b8;have a9:=LH (show SX P s z (Bc (z.sh s).sto ((AM L).take q) x.c) x y I c (.int .i64 ((p+1:Nat):Int)) w9 from⟨p+1,bg,rfl,by omega,by rw[c5.o];exact b8,bF.o.trans (bx.mono (fun t ht=>.inl ht))⟩);clear b8 bx bM;go_simp;refine hK _ _ nZ ?_;clear hK KK;refine nX ?_;clear f;go_wp2_with fail;go_roundw
             ·exact a9.o
             ·simp[intOf];omega
            ·have dl:decide ((p:Int)<(y.n:Int))=Jx:=decide_eq_false b4;rw[show y.c.aa.take p=y.c.aa from VU (by omega)] at G;have a9:=LH (show KD P s z x (AM L) i I c (.int .i64 ((q+1:Nat):Int)) wr from⟨q+1,Q,rfl,by omega,by rw[bY.o];exact G,B⟩);clear G B;go_wp2_with fail;go_roundw
             ·exact a9.o
             ·simp[intOf];omega
          ·have et:(y.c.tx == x.c.tx)=Jx:=by simpa using ae
           have a9:=LH (show KD P s z x (AM L) i I c (.int .i64 ((q+1:Nat):Int)) w6 from⟨q+1,l,rfl,by omega,by rw[aM.o,if_neg (fun h=>ae h.2)];exact aa.o,a0.o⟩);clear a2 ae;go_wp2_with fail;go_roundw
           ·exact a9.o
           ·simp[intOf];omega
         ·have ek:(y.c.ag == 2)=Jx:=by simpa using a2
          have a9:=LH (show KD P s z x (AM L) i I c (.int .i64 ((q+1:Nat):Int)) w6 from⟨q+1,l,rfl,by omega,by rw[aM.o,if_neg (fun h=>a2 h.1)];exact aa.o,a0.o⟩);clear a2;go_wp2_with fail;go_roundw
          ·exact a9.o
          ·simp[intOf];omega
        ·have dl:decide ((q:Int)<(i:Int))=Jx:=decide_eq_false bm;obtain rfl:q=i:=by omega
         have S:=LH (N.o.cx (K:=Bc (z.sh s).sto ((AM L).take q) x.c) (Do.comm M.o _ N.o.sto (fun a ha=>aA.o a (WB ha))));go_wp2_with fail;have R:=ab.o _ _ u;have r1:wr.drew.cell? ⟨U,1,B0⟩=Bs (.int .i64 x.c.tx):=R.cell 1;have aC:=LH (q57 (A.below (S2 wr.heap.size wr).drew) (show s<_ from a4) x.c.tx (FD (by have:=M.o.tx;omega) (by have:=M.o.tx;omega)) S.o.tab);have ba:=LH ((ai.o.trans u).trans (HZ.below l (S2 wr.heap.size wr).drew));have aH:=LH R;have aG:=LH (show l U=B0 from(u.ext U X.o.lt).trans ad.o);clear A u R;refine nW ?_;refine CU (fun W=>W.cell? ⟨U,1,B0⟩=Bs (.int .i64 x.c.tx)) 8 (fun _ _ _ _ _ h=>h) (fun f=>?_);have d:=r1;refine nD 0 [8] f d ?_;refine nD 1 [8] f d ?_;refine nD 2 [3,4,7,8] f d ?_;refine nD 3 [4,7,8] f d ?_;refine nD 4 [7,8] f d ?_;refine nD 5 [6,7,8] f d ?_;refine nD 6 [7,8] f d ?_;clear d r1;refine nG 7 (fun KK hK=>?_);go_simp;refine aC.o.mono ?_;rintro e w7 ⟨V7,gs,Q,rfl,E,J,bt,Z,G,B⟩;obtain⟨A7,bE,rfl,_,_⟩:=AK E;have a6:=q6c (s:=s) G (VO S.o.m (by omega)) (fun a h1 h2=>S.o.wn a h1 h2) E J (by omega);rw[Z] at a6;have aE:=LH a6;have az:=LH (ba.o.trans (B.mono (fun t ht=>.inl ht)));have ay:w7.cell? ⟨U,1,B0⟩=Bs (.int .i64 x.c.tx):=(B.bx (show Ab wr.drew U _ _ from aH.o) aG.o).cell 1;clear a6 E J G Z B aC;go_simp;refine hK _ _ (fun _=>ay) ?_;clear hK KK ay;refine nG 8 (fun KK hK=>?_);go_simp;refine aE.o.mono ?_;rintro e w8 ⟨rfl,ak,aw,av⟩;go_simp;refine hK _ _ nZ ?_;clear hK KK;refine nX ?_;clear f aE;have m:Gm P own s ((z.al s { z.sh s with sto:=Bc (z.sh s).sto ((AM L).take q) x.c }).rel s x.c.tx) w2 w8:=⟨ak,aw,az.o.trans (av.mono (fun t ht=>.inr ht))⟩
         rw[<- aB.o] at m;have HF:=LH m;clear m aw av;go_wp2_with fail;go_meet;exact HF.o
      ·have e3:(x.c.ag == 3)=Jx:=by simpa using k3
       by_cases k4:x.c.ag=4
       ·have aB:=LH (show z.a9 s (AM L) i x.c=z.rel s x.c.tx by unfold Hs.a9;rw[if_neg k2,if_neg k3,if_pos k4]);rw[k4] at q0;clear k2 e2 k3 e3;obtain⟨l,A,u⟩:∃ o,HI I o P z/\HZ (CR s) I c I o:=⟨c,aD.o,HZ.refl _ _ _⟩
        have S:=N;obtain⟨cn,ck⟩:∃ W,W=I:=⟨I,rfl⟩
        go_wp2_with fail;have R:=ab.o _ _ u;have r1:I.drew.cell? ⟨U,1,B0⟩=Bs (.int .i64 x.c.tx):=R.cell 1;have aC:=LH (q57 (A.below (S2 I.heap.size I).drew) (show s<_ from a4) x.c.tx (FD (by have:=M.o.tx;omega) (by have:=M.o.tx;omega)) S.o.tab);have ba:=LH ((ai.o.trans u).trans (HZ.below l (S2 I.heap.size I).drew));have aH:=LH R;have aG:=LH (show l U=B0 from(u.ext U X.o.lt).trans ad.o);clear A u R;refine nW ?_;refine CU (fun W=>W.cell? ⟨U,1,B0⟩=Bs (.int .i64 x.c.tx)) 8 (fun _ _ _ _ _ h=>h) (fun f=>?_);have d:=r1;refine nD 0 [8] f d ?_;refine nD 1 [8] f d ?_;refine nD 2 [3,4,7,8] f d ?_;refine nD 3 [4,7,8] f d ?_;refine nD 4 [7,8] f d ?_;refine nD 5 [6,7,8] f d ?_;refine nD 6 [7,8] f d ?_;clear d r1;refine nG 7 (fun KK hK=>?_);go_simp;refine aC.o.mono ?_;rintro e w7 ⟨V7,gs,Q,rfl,E,J,bt,Z,G,B⟩;obtain⟨A7,bE,rfl,_,_⟩:=AK E;have a6:=q6c (s:=s) G (VO S.o.m (by omega)) (fun a h1 h2=>S.o.wn a h1 h2) E J (by omega);rw[Z] at a6;have aE:=LH a6;have az:=LH (ba.o.trans (B.mono (fun t ht=>.inl ht)));have ay:w7.cell? ⟨U,1,B0⟩=Bs (.int .i64 x.c.tx):=(B.bx (show Ab I.drew U _ _ from aH.o) aG.o).cell 1;clear a6 E J G Z B aC;go_simp;refine hK _ _ (fun _=>ay) ?_;clear hK KK ay;refine nG 8 (fun KK hK=>?_);go_simp;refine aE.o.mono ?_;rintro e w8 ⟨rfl,ak,aw,av⟩;go_simp;refine hK _ _ nZ ?_;clear hK KK;refine nX ?_;clear f aE;have m:Gm P own s (z.rel s x.c.tx) w2 w8:=⟨ak,aw,az.o.trans (av.mono (fun t ht=>.inr ht))⟩
        rw[<- aB.o] at m;have HF:=LH m;clear m aw av;go_wp2_with fail;go_meet;exact HF.o
       ·have e4:(x.c.ag == 4)=Jx:=by simpa using k4
        have m:Gm P own s (z.a9 s (AM L) i x.c) w2 I:=⟨c,by unfold Hs.a9;rw[if_neg k2,if_neg k3,if_neg k4];exact aD.o,ai.o⟩
        have HF:=LH m;clear m k2 k3 k4;go_wp2_with fail;go_meet;exact HF.o
    case rest=>
     obtain⟨l,A,u⟩:=hcut;rename B1=>w5
     obtain⟨v5,am⟩:=A.sh s (by rw[(BF.a9 z s i (AM L) x.c).c];exact a4);obtain⟨_,_,_,_,k7,kl⟩:=am.cells;have z7:=am.tab.ah.frozen 7;rw[Lc,be.o] at k7;have b3:=am.bJ (i+1);have aI:Fr (OS l (Df s)) w5 (w5.setCell ⟨P.gs s,7,B0⟩ (.int .i64 ((i+1:Nat):Int))):=(Fr.ax (P.gs s) w5 7 _).mono (fun b _ e=>⟨_,by rw[e];exact am.gt,.inl rfl⟩);have ax:=A.setSh' (x':={ (z.a9 s (AM L) i x.c).sh s with done:=i+1 }) rfl aI (Ext.refl l _) (fun b hb=>VH (A.lt b hb) aI.size) ⟨_,b3⟩;have ap:TkRel P own H s (AM L) w2 (w5.setCell ⟨P.gs s,7,B0⟩ (.int .i64 ((i+1:Nat):Int))):=by
      refine⟨i+1,z.taken s (AM L) i x.c,⟨l,ax,u.trans ⟨Ext.refl l _,aI.mono (fun _ _ ⟨t,a,b⟩=>⟨t,a,.inl b⟩),fun _ _ h=>h⟩⟩,N.o.taken M.o aA.o,bK.o.trans (BF.taken _ _ _ _ _),by unfold Hs.taken;rw[Cj],?_⟩;rw[bI.o,show(AM L).length-i=((AM L).length-(i+1))+1 by omega];exact q46 be.o c0.o
     have bv:=b3.cells.2.2.2.2.1;have c4:=LH ap;have ci:=LH bv;clear ap bv ax aI b3 am A u l0 l1 l2 l3 d1 aU;go_wp2_with fail;go_roundw
     case rel=>exact c4.o
     case measure=>
      rw[show(((w5.setCell ⟨P.gs s,7,B0⟩ (.int .i64 ((i:Int)+1))).cell? ⟨P.gs s,7,B0⟩).getD undef)=.int .i64 ((i:Int)+1) from congrArg (fun o=>o.getD undef) ci.o,C7.o];simp[intOf];omega
   ·have d1:decide ((i:Int)<(L.length:Int))=Jx:=decide_eq_false (by omega);rw[show(AM L).length-i=0 by omega] at Y;have m:NN P own H s w (.returned (.tuple #[])) wr:=⟨rfl,c,by rw[aN.o,Y];exact ah,(HZ.below own cj.o).trans a8⟩
    have HF:=LH m;clear m ah a8 Y hv aq ac aJ;go_wp2_with fail
    go_end0
    exact HF.o
def RM (s j:Nat) (t:Tg):Prop:=t=.nd s j
def Rh (t:Tg):Prop:=t=.hs\/t=.net
theorem HI.node (h:HI w own P H) {s j:Nat} {C V f d:Hi} {L e:List Bt} {d2:Nd} (o:∀ b,CJ (P.gn s j) C V L b->own b=Bs (.nd s j))
  (p:BI w' 0 (P.gn s j) f d e d2) (r:Fr (CJ (P.gn s j) C V L) w w') (m:∀ q,CJ (P.gn s j) f d e q->CJ (P.gn s j) C V L q\/w.heap.size<=q) :
  ∃ own',HI w' own' P (H.an s j d2)/\HZ (RM s j) w own w' own'/\∀ b,w.heap.size<=b->own' b=B0\/own' b=Bs (.nd s j):=by
 have c:Fr (OS own (RM s j)) w w':=r.mono (fun b _ a=>⟨_,o b a,rfl⟩);have u:Ext own (DW own w.heap.size (CJ (P.gn s j) f d e) (.nd s j)) w.heap.size:=Rn;have l:=Rk (own:=own) (t:=.nd s j) r.size (fun b a=>(p.av a).2);refine⟨_,h.setNd' c u l ⟨f,d,e,p,fun b a=>Rl ((m b a).imp (o b) id) a⟩,⟨u,c,(by first|exact Qc (by simp)|exact fun _ _ h=>h)⟩,fun b a=>?_⟩;unfold DW;rw[if_neg (by omega)];split
 ·exact .inr rfl
 ·exact .inl rfl
def NS (P:Aw) (H:Hs) (own:Ai) (s j:Nat) (d2:Nd) (ms:List Ms) (w:B1) (V:Hi) (w':B1):Prop:=
 By w.heap.size ms V w'/\∃ own',HI w' own' P (H.an s j d2)/\HZ (RM s j) w own w' own'/\∀ b,w.heap.size<=b->own' b=B0\/own' b=Bs (.nd s j)
theorem Pq (h:HI w own P H) {s j:Nat} (hs:s<H.c) (p:j<H.n) (m:Ms) (A:Option Xb) (n k:Nat) (r:FA w w.heap.size A n m.cmd.aa) (o:A=B0->k=0) (l:n<=100000) :
  VX Tryz.prog 51 #[pw (P.gn s j),.agg #[.int .i64 m.ag,.int .i64 m.from_,.int .i64 m.a4,.int .i64 m.ab,.int .i64 m.n,.int .i64 m.cmd.ag,.int .i64 m.cmd.tx,.int .i64 m.cmd.ae,.slice A n k]] w
   fun e w'=>∃ V,e=.returned V/\NS P H own s j (((H.sh s).nd j).step m).1 (((H.sh s).nd j).step m).2 w V w':=by
 obtain⟨C,V,L,u,d⟩:=h.nd s j hs p;refine(QW u m A n k r o l).mono ?_;rintro e w' ⟨x,y,z,rfl,f,a,q,c⟩;exact⟨x,rfl,f,h.node d a q c⟩
theorem Pp (h:HI w own P H) {s j:Nat} (hs:s<H.c) (l:j<H.n) :
  VX Tryz.prog 55 #[pw (P.gn s j)] w fun e w'=>∃ V,e=.returned V/\NS P H own s j ((H.sh s).nd j).tick.1 ((H.sh s).nd j).tick.2 w V w':=by
 obtain⟨C,V,L,o,c⟩:=h.nd s j hs l;refine(q89 o).mono ?_;rintro e w' ⟨p,rfl,f,a,m⟩;exact⟨p,rfl,f,h.node c a (m.mono (fun b _ e=>.inl e)) (fun q d=>.inl d)⟩
theorem Pu (h:HI w own P H) {s j:Nat} (hs:s<H.c) (o:j<H.n) (x:Bt) (q:FA w w.heap.size x.A x.n x.c.aa) (m:x.A=B0->x.k=0) (l:x.n<=100000) :
  VX Tryz.prog 120 #[pw (P.gn s j),.agg #[.int .i64 x.c.ag,.int .i64 x.c.tx,.int .i64 x.c.ae,.slice x.A x.n x.k]] w
   fun e w'=>∃ V b,e=.returned (.tuple #[.int .i64 (((H.sh s).nd j).add x.c b).2.1,V,Hm (((H.sh s).nd j).add x.c b).2.2])/\NS P H own s j (((H.sh s).nd j).add x.c b).1.1 (((H.sh s).nd j).add x.c b).1.2 w V w':=by
 obtain⟨C,V,L,r,d⟩:=h.nd s j hs o;refine(Vp r x q m l).mono ?_;rintro e w' ⟨u,y,z,b,rfl,f,a,p,c⟩;exact⟨u,b,rfl,f,h.node d a p c⟩
theorem JV (h:HI w own P H) {s j:Nat} (hs:s<H.c) (u:j<H.n) (e:Int) (a:List Int) (A:Option Xb) (k:Nat) (B:w.ownsRow 0 3 1 (.slice A a.length k) a.length (a.map (Wi .i64))) (z:((H.sh s).nd j).ab<e) (f:a.length<=6) (d:a.Nodup) (c:∀ x∈a,E3 x) (m:((H.sh s).nd j).id∈a) :
  VX Tryz.prog 75 #[pw (P.gn s j),.agg #[.int .i64 e,.slice A a.length k]] w
   fun p w'=>∃ V,p=.returned (.tuple #[V,.nilIface])/\NS P H own s j (((H.sh s).nd j).join e a).tick.1 (((H.sh s).nd j).join e a).tick.2 w V w':=by
 obtain⟨C,V,L,D,q⟩:=h.nd s j hs u;refine(MK D e a A k B z f d c m).mono ?_;rintro p w' ⟨E,J,G,I,rfl,r,l,y,o⟩;exact⟨E,rfl,r,h.node q l y o⟩
theorem GC {m:Ms} (h:Gl m):E3 m.from_/\E3 m.a4:=⟨FD (by have:=h.fr;omega) (by have:=h.fr;omega),FD (by have:=h.tw;omega) (by have:=h.tw;omega)⟩
theorem En.c8 {c m:Nat} {net net':Bk} {time:Int} {v v':KO} (h:En w own P c m net time v) (q:Fr (OS own Rh) w w') (p:Ext own own' w.heap.size) (l:v'.Vr=v.Vr) (f:v'.Vt=v.Vt)
  (s:AJ w' 0 P.g 0 92 (OD v' time) v'.Vn v'.D 100 v'.L net'.ak v'.lost) (r:AH v'.L=net'.l) (o:∀ b,Fb v' b->own' b=Bs .net) (d:∀ x∈v'.L,x.n<=100000):En w' own' P c m net' time v':=by
 refine⟨s,r,o,d,?_,fun b a=>?_,?_,fun b a=>?_,(p _ h.nt.ah.lt).trans h.gt⟩
 ·rw[l];exact q.own h.shr (fun b a hs=>by rcases hs.tag (h.bm b a) with e|e <;> cases e)
 ·rw[l] at a;exact(p b (h.shr.lt b a).2).trans (h.bm b a)
 ·rw[f];exact q.own h.txr (fun b a hs=>by rcases hs.tag (h.bh b a) with e|e <;> cases e)
 ·rw[f] at a;exact(p b (h.txr.lt b a).2).trans (h.bh b a)
theorem G4 {c m:Nat} {net:Bk} {time:Int} {v:KO} (h:En w own P c m net time v) (d:Fr (BR P.g v.Vn v.D) w w'):Fr (OS own Rh) w w':=
 d.mono (fun b _ a=>by
  rcases a with rfl|a|a
  ·exact⟨_,h.gt,.inl rfl⟩
  ·exact⟨_,h.aV b (.inl a.symm),.inr rfl⟩
  ·exact⟨_,h.aV b (.inr (.inl a.symm)),.inr rfl⟩)
def HSendP (P:Aw) (H:Hs) (own:Ai) (ms:List Ms) (w:B1) (e:WA) (w':B1):Prop:=
 ∃ d own',e=.returned (.int .i64 d)/\HI w' own' P (H.send ms)/\HZ Rh w own w' own'
theorem q6y (h:HI w own P H) {B:Nat} {ms:List Ms} {V:Hi} (X:By B ms V w) (R:∀ b,B<=b->own b≠Bs .hs/\own b≠Bs .net) (r:∀ m∈ms,Gl m) (J:Wf H) (D:ms.length<=100000) :
  VX Tryz.prog 50 #[pw P.g,V] w (HSendP P H own ms w):=by
 obtain⟨v,o⟩:=h.hs;obtain⟨A,k,M,rfl,l,s,hM⟩:=X;have S:ms.length=M.length:=by rw[<- s];simp[AH]
 have y:∀ b,B<=b->¬BR P.g v.Vn v.D b:=fun b a z=>by
  rcases z with rfl|z|z
  ·exact(R _ a).1 o.gt
  ·exact(R _ a).2 (o.aV b (.inl z.symm))
  ·exact(R _ a).2 (o.aV b (.inr (.inl z.symm)))
 have Z:MW w (BR P.g v.Vn v.D) A ms.length M:=by
  refine⟨S.symm,by rw[S] at l ⊢;exact Rd.au l,fun g I e h0=>y g ?_,fun x f=>⟨⟨(hM x f).1.2,Rd.au (hM x f).1.1⟩,fun g I e h0=>y g ?_⟩⟩
  ·exact(l.lt g (by rw[e];rfl)).1
  ·exact((hM x f).1.1.lt g (by rw[e];rfl)).1
 refine(I4 0 P.g 0 100 ms.length k _ _ v.Vn v.D v.L H.net.ak v.lost A M w o.nt Z D (fun x f=>?_)).mono ?_
 ·have C:x.m∈ms:=by rw[<- s];exact List.mem_map.2 ⟨x,f,rfl⟩
  refine⟨(GC (r _ C)).1,(GC (r _ C)).2,(hM x f).2,fun e=>?_⟩;rcases(hM x f).1.1.2 with ⟨c,_⟩|⟨_,_,_,c,_⟩
  ·injection c
  ·rw[e] at c;cases c
 ·rintro e w' ⟨V',L',lost',d,rfl,N,T,hs,hF,Y⟩;have G:=G4 o hF;have e2:H.net=⟨AH v.L,H.net.ak⟩:=by rw[o.msgs]
  have p:(H.send ms).net=⟨AH L',H.net.ak⟩:=by
   show Dh H.net ms=_;rw[e2];rw[<- s];exact hs
  have Q:Ext own (DW own w.heap.size (Fb { v with Vn:=V',L:=L',lost:=lost' }) .net) w.heap.size:=Rn;have E:AJ w' 0 P.g 0 92 (OD { v with Vn:=V',L:=L',lost:=lost' } H.ae) V' v.D 100 L' H.net.ak lost':=T;have O:∀ b,Fb { v with Vn:=V',L:=L',lost:=lost' } b->own b=Bs .net\/w.heap.size<=b:=fun b a=>by
   rcases a with a|a|⟨x,f,a⟩
   ·rcases Y with c|⟨q,c,U⟩
    ·exact .inl (o.aV b (.inl (by rw[<- c];exact a)))
    ·have u:V'.ownBlock=Bs b:=a;rw[c] at u;injection u with u;exact .inr (by omega)
   ·exact .inl (o.aV b (.inr (.inl a)))
   ·rcases N x f with c|c
    ·exact .inl (o.aV b (.inr (.inr ⟨x,c,a⟩)))
    ·exact .inr (c b a)
  have K:=o.c8 (net':=(H.send ms).net) (v':={ v with Vn:=V',L:=L',lost:=lost' }) G Q rfl rfl (by rw[p];exact E) (by rw[p]) (fun b a=>Rl (O b a) a) (fun x f=>?_)
  ·refine⟨d,_,rfl,?_,⟨Q,G,(by first|exact Qc (by simp)|exact fun _ _ h=>h)⟩⟩;have:=h.setHs' (net':=(H.send ms).net) (time':=H.ae) (GR G (fun t W=>W.elim .inl (fun e=>.inr (.inl e)))) Q (Rk G.size (fun b a=>E.av a)) ⟨_,K⟩;exact this
  ·have c:x.m∈(H.send ms).net.l:=by rw[p];exact List.mem_map.2 ⟨x,f,rfl⟩
   have U:=((J.send r).net x.m c).bf;rw[(T.own x f).2] at U;omega
end
def MR (s:Nat) (t:Tg):Prop:=(∃ j,t=.nd s j)\/Rh t\/CR s t
theorem NK {d:Nd} {c:Cm} {b:Bool} (h:(d.add c b).2.2≠0):(d.add c b).1.1=d:=by
 unfold Nd.add at h ⊢;split
 ·rfl
 ·rename_i e;rw[if_neg e] at h;split
  ·rfl
  ·rename_i a;rw[if_neg a] at h;exact absurd rfl h
section
variable {w w':B1} {own own':Ai} {P:Aw} {H:Hs}
theorem q9t {s:Nat} (h:HI w own P H) (a:Wf H) (hs:s<H.c):VX Tryz.prog 52 #[pw P.g,pw (P.gs s)] w (NN P own H s w):=
 QM h hs (by have:=a.n4;omega) (fun j c=>a.idOk hs c) (a.cN hs) (fun j c=>(a.nd s j hs c).log)
theorem q70 {s:Nat} (h:HI w own P H) (a:Wf H) (hs:s<H.c):VX Tryz.prog 61 #[pw (P.gs s)] w (EH P H s w):=
 Fu h hs (by have:=a.n4;omega) (fun j c=>a.idOk hs c)
def Ta (P:Aw) (H:Hs) (own:Ai) (s j:Nat) (c:Cm) (w:B1) (e:WA) (w':B1):Prop:=
 ∃ b own',e=.returned (.int .i64 (H.add s j c b).1)/\HI w' own' P (H.add s j c b).2/\HZ (MR s) w own w' own'
theorem q8h {s j:Nat} (h:HI w own P H) (Q:Wf H) (hs:s<H.c) (hj:j<H.n) (x:Bt) (S:FA w w.heap.size x.A x.n x.c.aa) (hk:x.A=B0->x.k=0) (hn:x.n<=100000) (hc:D2 x.c) :
  VX Tryz.prog 94 #[pw P.g,pw (P.gs s),pw (P.gn s j),.agg #[.int .i64 x.c.ag,.int .i64 x.c.tx,.int .i64 x.c.ae,.slice x.A x.n x.k]] w (Ta P H own s j x.c w):=by
 have l:VJ w.heap.size w (w.alloc (.cells #[.int .i64 x.c.ag,.int .i64 x.c.tx,.int .i64 x.c.ae,.slice x.A x.n x.k] 69)):=(S2 _ _).alloc (L1 _) _;have f:Ab (w.alloc (.cells #[.int .i64 x.c.ag,.int .i64 x.c.tx,.int .i64 x.c.ae,.slice x.A x.n x.k] 69)) w.heap.size 69 #[.int .i64 x.c.ag,.int .i64 x.c.tx,.int .i64 x.c.ae,.slice x.A x.n x.k]:=Ab.new w _ _;have a3:=LH (h.below l);have HA:=LH (Pu (h.below l) hs hj x ⟨S.1,(S.2.below l).more l.size⟩ hk hn);have L:=LH (HZ.below (Z:=MR s) own l);have q0:=f.cell 0;have q1:=f.cell 1;have q2:=f.cell 2;have Y:=f.cell 3;have ql:=f.lt;simp only[Ft,D0,N2] at q0 q1 q2 Y;clear h l f S;unfold pw at *;go_enter Tryz.func94,Tryz.ntmps94;go_upto_region 1 with (fail)
 generalize (w.alloc _)=w1 at *;generalize w.heap.size=cb at *;go_wp2_with fail;refine HA.o.mono ?_;rintro e w2 ⟨V,b,rfl,R,D,o,r,u⟩;clear q0 q1 q2 Y ql HA;by_cases d:(((H.sh s).nd j).add x.c b).2.2=0
 ·have a:H.add s j x.c b=((((H.sh s).nd j).add x.c b).2.1,(((H.an s j (((H.sh s).nd j).add x.c b).1.1).send (((H.sh s).nd j).add x.c b).1.2)).take s):=by
   unfold Hs.add;rw[if_neg (by rw[d];simp)]
  have O:=LH a;have p:=Qq (Q.nd s j hs hj) (show s<3 by have:=Q.c3;omega) (show j<4 by have:=Q.n4;omega) hc b;have m:=Q.an p.1;have y:(((H.sh s).nd j).add x.c b).1.2.length<=100000:=by
   obtain⟨A,k,M,e,a1,a2,_⟩:=R;unfold Nd.add;split
   ·simp
   ·split
    ·simp
    ·unfold Nd.grow Nd.tick;split
     ·split
      ·simp
      ·split
       ·split <;> simp
       ·simp
     ·simp
  have E:=q6y o R (fun q hq=>by rcases u q hq with e|e <;> (rw[e];simp)) p.2 m y;have B:=LH E;have U:=LH (L.o.trans (r.mono (fun t z=>.inl ⟨j,z⟩)));have W:=LH (m.send p.2);unfold Hm;rw[d,if_pos rfl];obtain⟨A,k,M,rfl,_⟩:=R;unfold pw at B;clear a p m E y u o r d;go_wp2_with fail;refine B.o.mono ?_;rintro e w3 ⟨d3,a0,rfl,K,I⟩;have N:=LH (q9t K W.o (show s<_ from hs));have T:=LH (U.o.trans (I.mono (fun t z=>.inr (.inl z))));unfold pw at N;clear K I B;go_wp2_with fail;refine N.o.mono ?_;rintro e w4 ⟨rfl,C,J,G⟩;have c:Ta P H own s j x.c w (.returned (.int .i64 (((H.sh s).nd j).add x.c b).2.1)) w4:=⟨b,C,by rw[O.o],by rw[O.o];exact J,T.o.trans (G.mono (fun t z=>.inr (.inr z)))⟩
  have X:=LH c;clear c J G;go_wp2_with fail;go_ret;exact X.o
 ·have a:H.add s j x.c b=(-1,H):=by unfold Hs.add;rw[if_pos d]
  rw[NK d,Lm] at o;have c:Ta P H own s j x.c w (.returned (.int .i64 (-1))) w2:=⟨b,D,by rw[a],by rw[a];exact o,L.o.trans (r.mono (fun t z=>.inl ⟨j,z⟩))⟩
  have X:=LH c;unfold Hm;rw[if_neg d];clear c o r R a d;go_wp2_with fail;go_ret;exact X.o
end
theorem F7:(Tryz.prog.info? 3).map (fun i=>(i.zero,i.size,i.bytes))=Bs (Bs (.int .i64 0),1,8):=by kernel_rfl
def Bi.bb (t:Bi):List Int:=t.ai.map fun k:Nat=>(k:Int)
theorem EZ {t:Bi} {k:Nat} : k∈t.ai↔(k=0\/k=1)/\t.ad k≠B0:=by
 unfold Bi.ai;rw[List.mem_filter];simp only[List.mem_cons,XS,or_false,Option.isSome_iff_ne_none]
theorem DI {t:Bi} {k:Nat} (h:k∈t.ai):k<2:=by rcases(EZ.1 h).1 with rfl|rfl <;> omega
theorem qa4 (t:Bi):t.ai.length<=2:=WD _ _
theorem PN {t:Bi} (c:∀ k e,t.ad k=Bs e->(k=0\/k=1)/\True) {l:List Int} (d:l.Nodup) (f:∀ o,o∈l↔t.ad o≠B0):DL l=t.bb:=by
 refine Li (IZ d) ?_ (fun a=>?_)
 ·unfold Bi.bb Bi.ai;rw[XA];refine X1 _ ?_;simp
 ·rw[FR,f a];unfold Bi.bb;rw[List.mem_map];constructor
  ·intro h;obtain⟨e,p⟩:=Option.ne_none_iff_exists'.1 h;rcases(c a e p).1 with rfl|rfl
   ·exact⟨0,EZ.2 ⟨.inl rfl,h⟩,rfl⟩
   ·exact⟨1,EZ.2 ⟨.inr rfl,h⟩,rfl⟩
  ·rintro ⟨k,m,rfl⟩;exact(EZ.1 m).2
def ER (t:Bi) (w:B1) (e:WA) (w':B1):Prop:=∃ V,e=.returned V/\w'.ownsRow w.heap.size 3 1 V t.ai.length (t.bb.map (Wi .i64))/\VJ w.heap.size w w'
def CmRel (W:B1) (f:Int->Option Int) (c r:Nat) (v:Hi) (wr:B1):Prop:=
 ∃ (left:Int->Bool) (a:Nat) (l:List Int),DT BC wr c r 100 (Db f) left a/\l.length+a<=100/\wr.ownsRow (W.heap.size+1) 3 1 v l.length (l.map (Wi .i64))/\l.Nodup/\
  (∀ o,o∈l↔left o=Jx/\f o≠B0)/\VJ W.heap.size W wr/\W.heap.size+1<=wr.heap.size
section
variable {w w':B1} {own own':Ai} {P:Aw} {H:Hs}
open Classical in
theorem qa5 {i:Nat} (h:HI w own P H) (wf:Wf H) (h1:1<=i) (Y:i<=H.m):VX Tryz.prog 68 #[pw (P.gt i)] w (ER (H.tx i) w):=by
 obtain⟨v,hv⟩:=h.tx i h1 Y;obtain⟨_,_,_,c3,_,_,_,gl⟩:=hv.cells;have ab:=LH hv.ad;have a6:=LH (wf.tx i h1 Y).sh;have ao:=LH hv.ad.lt;have a1:(H.tx i).bb.length=(H.tx i).ai.length:=by unfold Bi.bb;simp
 have ap:=LH a1;generalize H.tx i=t at *;clear h wf hv a1;unfold pw;go_enter Tryz.func68,Tryz.ntmps68;go_wp2_with (at_range;refine q2p rfl _ 61 3 rfl Tryz.underlying61 rfl ab.o ?_;intro w0 a4 D af BD)
 try go_frame
 go_loopw [3] (fun v wr=>CmRel w t.ad _ w.heap.size v wr) (fun _ wr=>wr.rangeLeft v.bs w.heap.size)
 case atStart=>exact⟨_,a4,[],D,(by simpa using D.dg),VY _ _ _ _,List.nodup_nil,(fun o=>by
  simp only[XS,false_iff];rintro ⟨h1,h2⟩;obtain⟨e,he⟩:=Option.ne_none_iff_exists'.1 h2;simp[Db,he] at h1),af.aU,by omega⟩
 case round=>
  obtain⟨left,av,l,R,a0,E,T,G,a2,O⟩:=hrel;have a8:=LH R;clear R;have d:=LH E;clear E;have aa:=LH T;clear T;have y:=LH G;clear G;have z:=LH a2;clear a2;have M:=LH a0;clear a0;have ai:=LH O;clear O;go_wp2_with (at_next;refine q35 rfl _ rfl rfl a8.o ?_ ?_)
  ·intro ae;have B:=Fq (w.heap.size+1) l.length _ l wr d.o rfl (by have:=M.o;omega);have a5:=LH B;clear B;obtain⟨A2,c2,ah,_,au⟩:=AK d.o;subst ah;go_wp2_with fail;refine a5.o.mono ?_;rintro e w9 ⟨rfl,f,Z⟩;have L:=PN a6.o aa.o (fun o=>by
    rw[y.o o];exact⟨fun h=>h.2,fun h=>⟨ae o (by
     obtain⟨e,he⟩:=Option.ne_none_iff_exists'.1 h;rcases(a6.o o e he).1 with rfl|rfl <;> exact FD (by omega) (by omega)),h⟩⟩)
   have u:l.length=t.ai.length:=by rw[<- ap.o,<- L];exact(List.length_mergeSort l).symm
   rw[L,u] at f;have I:ER t w (.returned (.slice A2 l.length c2)) w9:=⟨_,rfl,by rw[u];exact Lw f (by omega),z.o.trans (Z.below (fun i Y=>by have:=(d.o.lt i Y).1;omega) (by have:=z.o.size;omega))⟩
   have HF:=LH I;clear I Z f u L;go_wp2_with fail;go_ret;exact HF.o
  ·intro o v9 w3 J ar W c C X K Q ag;obtain⟨m,hm,rfl⟩:∃ m,t.ad o=Bs m/\v9=.int .i64 m:=by
    unfold Db at c;cases e:t.ad o with
    | none=>rw[e] at c;cases c
    | some m=>rw[e] at c;injection c with c;exact⟨m,rfl,c.symm⟩
   have a3:VJ w.heap.size w w3:=z.o.trans (K.below (fun i (Y:i=_)=>by omega) (by have:=z.o.size;omega));have s:=K.own d.o (fun b N (e:b=_)=>by have:=(d.o.lt b N).1;omega);have aq:=LH a3;clear a3;have a9:=LH s;clear s;have am:=LH hm;clear hm;have a7:=LH C;clear C c;have an:=LH W;clear W;rw[show BC.val o=Wi .i64 o from rfl] at ag ⊢;have ac:=LH X;clear X K;have aj:=LH Q;clear Q;have ad:l.length<=100:=by have:=M.o;omega
   go_wp2_with (at_builtin;refine stop ?_)
   refine Cn ?_;have A:w.heap.size+1<=w3.heap.size:=by have:=ai.o;have:=aj.o;omega
   refine Nf w3 _ rfl (.tmp 14) (.tmp 16) 26 rfl (w.heap.size+1) 3 (.int .i64 0) 1 8 Tryz.underlying26 F7 rfl (by decide) _ _ _ #[.int .i64 o] rfl a9.o 1 rfl _ rfl rfl (by simp[Wy]) (by unfold VZ;omega) (by omega) A ?_;intro v' w8 S V;have x:VJ (w.heap.size+1) w3 w8:=V.below (fun b N=>(a9.o.lt b N).1) A;have q:DT BC w8 v.bs w.heap.size 100 (Db t.ad) _ J:=a7.o.bj (x.block _ (by have:=ao.o;omega)) (x.block _ (by omega));have r:CmRel w t.ad v.bs w.heap.size v' w8:=by
    refine⟨_,J,l++[o],q,by have:=M.o;have:=ac.o;simp;omega,by simpa using S,?_,fun p=>?_,aq.o.trans (x.mono (by omega)),by have:=x.size;omega⟩
    ·refine List.nodup_append.2 ⟨aa.o,by simp,fun a ha b N=>?_⟩;simp at N;subst N;rintro rfl;have:=((y.o a).1 ha).1;rw[an.o] at this;cases this
    ·rw[List.mem_append,y.o p,VW];by_cases e:p=o
     ·subst e;simp[am.o]
     ·simp[e]
   have U:w8.rangeLeft v.bs w.heap.size<wr.rangeLeft v.bs w.heap.size:=by rw[q.left_eq,a8.o.left_eq];exact ac.o
   have ak:=LH r;have al:=LH U;clear r U q x S V;go_wp2_with fail;go_roundw
   case rel=>exact ak.o
   case measure=>exact al.o
end
def Er (l:List UInt8):Nat:=(l.map fun b=>b.toNat).sum
theorem q68 (x:Sx):Ad x=Er x % 2:=rfl
theorem Oj {l:List UInt8} {i:Nat} {b:UInt8} (h:l[i]? = Bs b):Er (l.take (i+1))=Er (l.take i)+b.toNat:=by
 unfold Er;rw[VV,h];simp
theorem Uc (l:List UInt8):Er l<=l.length*255:=by
 induction l with
 | nil=>simp[Er]
 | cons b l a=>
  have e:Er (b::l)=b.toNat+Er l:=by simp[Er]
  have:=b.toNat_lt;rw[e,WH];omega
theorem Qk {n:Nat} (h:n<=1000000):wrap64 (n:Int)=n:=Xq _ ⟨by omega,by omega⟩
theorem Ql {a b:Nat} (h:a<=1000000) (c:b<=1000000):wrap64 ((a:Int)+b)=((a+b:Nat):Int):=by rw[Xq _ ⟨by omega,by omega⟩];rfl
theorem u8_le (b:UInt8):b.toNat<=1000000:=by have:=b.toNat_lt;omega
theorem sum_le {a n:Nat} (h:a<=n*255) (c:n<=1000):a<=1000000:=by omega
def SmRel (x:ByteArray) (w:B1) (c a:Hi) (wr:B1):Prop:=∃ i:Nat,a=.int .i64 i/\i<=x.size/\c=.int .i64 (Er ((sx x).take i))/\wr=w
section
variable {w w':B1} {own own':Ai} {P:Aw} {H:Hs}
theorem Fv (h:HI w own P H) (s:H.c=3) (x:ByteArray) (C:x.size<=1000):VX Tryz.prog 60 #[pw P.g,.string x] w fun e w'=>e=.returned (.int .i64 (Ad (sx x)))/\w'=w:=by
 obtain⟨v,o⟩:=h.hs;obtain⟨_,z,_,_,E⟩:=o.cells;obtain⟨A,c,r,_,_⟩:=AK o.shr;rw[r,s] at z;clear h o r;unfold pw;go_enter Tryz.func60,Tryz.ntmps60;go_wp2_with fail;go_loopw [5,9] (SmRel x w) (fun _ u _=>x.size-(intOf u).toNat)
 case atStart=>exact⟨0,rfl,VK _,rfl,rfl⟩
 case round=>
  obtain⟨i,rfl,D,rfl,rfl⟩:=hrel;have d:(sx x).length=x.size:=by rw[I9]
  have a:=Uc ((sx x).take i);have p:((sx x).take i).length<=1000:=by simp;omega
  by_cases q:i<x.size
  ·have d1:decide ((i:Int)<(x.size:Int))=T2:=decide_eq_true (by omega);go_wp2_with fail;have y:(sx x)[i]? = Bs x[i]:=by
    unfold sx;rw[Array.getElem?_toList];exact Array.getElem?_eq_getElem q
   have m:=Qk (u8_le x[i]);have l:=Ql (sum_le a p) (u8_le x[i]);go_roundw
   case rel=>
    rw[m,l];exact⟨i+1,rfl,by omega,by rw[Oj y],rfl⟩
   case measure=>simp[intOf];omega
  ·have d1:decide ((i:Int)<(x.size:Int))=Jx:=decide_eq_false (by omega);rw[VU (by omega)] at a ⊢;have f:((Er (sx x):Nat):Int).tmod 2=((Ad (sx x):Nat):Int):=by rw[q68];rfl
   have B:=LH f;rw[d] at a;clear f d;go_wp2_with fail;go_ret;exact⟨by rw[q68];rfl,rfl⟩
theorem Jb:(Tryz.prog.info? 45).map (fun i=>(i.zero,i.size,i.bytes))=Bs (Bs (.agg #[.string ⟨#[]⟩,.string ⟨#[]⟩,.bool Jx]),3,40):=by kernel_rfl
def Io (k:Nat) (l:List Pr):List Pr:=l.filter fun p=>Ad (sx p.key) == k
theorem RC {k j:Nat} {l:List Pr} {p:Pr} (h:l[j]? = Bs p):Io k (l.take (j+1))=if Ad (sx p.key) == k then Io k (l.take j)++[p] else Io k (l.take j):=by
 unfold Io;rw[VV,h,XT];cases e:(Ad (sx p.key) == k) <;> simp[e]
def S1 (k:Nat) (l:List Pr) (w:B1) (c a:Hi) (wr:B1):Prop:=
 ∃ j:Nat,a=.int .i64 j/\j<=l.length/\wr.ownsRow w.heap.size 45 3 c (Io k (l.take j)).length ((Io k (l.take j)).flatMap C9)/\VJ w.heap.size w wr
def OfP (k:Nat) (l:List Pr) (w:B1) (e:WA) (w':B1):Prop:=
 ∃ A c,e=.returned (.slice A (Io k l).length c)/\w'.ownsRow w.heap.size 45 3 (.slice A (Io k l).length c) (Io k l).length ((Io k l).flatMap C9)/\VJ w.heap.size w w'/\(A=B0->c=0)
theorem Je {base e size n k:Nat} {A:Option Xb} {xs:List Hi} (h:w.ownsRow base e size (.slice A n k) n xs):A=B0->k=0:=fun c=>by
 rcases h.2 with ⟨a,_⟩|⟨g,cap,d,a,_⟩
 ·injection a
 ·rw[c] at a;cases a
theorem of_any {i k:Nat} (h:HI w own P H) (L:Wf H) (hc:H.c=3) (S:1<=i) (N:i<=H.m):VX Tryz.prog 95 #[pw P.g,pw (P.gt i),.int .i64 k] w (OfP k (H.tx i).aa w):=by
 obtain⟨v,K⟩:=h.tx i S N;obtain⟨_,_,c2,_,_,_,_,gl⟩:=K.cells;obtain⟨A,c,R,_,_⟩:=AK K.aa;rw[R] at c2;have HR:=LH (Rd.au (R▸K.aa));have HW:=LH (L.tx i S N).ps;have X:=(L.tx i S N).bf;have HH:=LH h;generalize (H.tx i).aa=l at *;clear h L K R;unfold pw;go_enter Tryz.func95,Tryz.ntmps95;go_wp2_with fail;go_loopw [7,15] (S1 k l w) (fun _ u _=>l.length-(intOf u).toNat)
 case atStart=>exact⟨0,rfl,VK _,VY _ _ _ _,S2 _ _⟩
 case round=>
  obtain⟨j,rfl,hj,a,d⟩:=hrel;by_cases a0:(j:Int)<l.length
  ·obtain⟨gp,op,p,rfl,Q,r,p0,p1,p2⟩:=FA.at_ (w:=wr) (B:=w.heap.size) (A:=A) (n:=l.length) (l:=l) (k:=j) ⟨rfl,HR.o.below d⟩ (by omega);have O:gp<wr.heap.size:=VH Q d.size;have f:=(S2 wr.heap.size wr).alloc (L1 _) (.cells #[.string p.key,.string p.val,.bool p.gone] 45);have o:=LH (Ab.new wr 45 #[.string p.key,.string p.val,.bool p.gone]);have z:=HW.o p (O0 r);have D:=Fv (HH.o.below (d.trans (f.mono d.size))) hc p.key (by have:=KJ z.1;rw[I9];omega);have J:=LH D;have m:=LH (RC (k:=k) r);have T:=LH (Lx a f);have U:=LH (d.trans (f.mono d.size));have a1:(Io k (l.take j)).length<=20:=VO (WD _ _) (by simp;omega);have M:=q68 (sx p.key);have q:=LH (show((Ad (sx p.key):Nat):Int)=k↔Ad (sx p.key)=k by omega);clear z r a d f D M;unfold pw at J;go_upto_region 5 with (fail)
   clear p0 p1 p2 O;generalize wr.alloc (.cells #[.string p.key,.string p.val,.bool p.gone] 45)=w3 at *;generalize wr.heap.size=pb at *;have W:=o.o.cell 0;have q1:=o.o.cell 1;have V:=o.o.cell 2;have ql:=o.o.lt;simp only[Ft,D0,N2] at W q1 V;go_wp2_with (at_builtin;refine stop ?_)
   refine J.o.mono ?_;rintro e w4 ⟨rfl,rfl⟩;by_cases y:Ad (sx p.key)=k
   ·have Y:(((Ad (sx p.key):Nat):Int) == (k:Int))=T2:=by rw[beq_iff_eq];exact q.o.2 y
    have s:=LH (m.o.trans (if_pos (by rw[beq_iff_eq];exact y)));clear y m q;go_wp2_with (at_builtin;refine stop ?_)
    refine Cn ?_;have C:=U.o.size;refine Nf w4 _ rfl (.tmp 25) (.tmp 27) 67 rfl w.heap.size 45 _ 3 40 Tryz.underlying67 Jb rfl (by decide) _ _ _ #[.string p.key,.string p.val,.bool p.gone] rfl T.o 1 rfl _ rfl rfl (by simp[Wy]) (by unfold VZ;omega) (by omega) C ?_;intro v' w8 E G;have x:=LH (show S1 k l w v' (.int .i64 ((j+1:Nat):Int)) w8 from⟨j+1,rfl,by omega,by rw[s.o,VP,List.flatMap_append];simpa [C9] using E,U.o.trans (G.below (fun b d=>(T.o.lt b d).1) C)⟩);clear E G Y W q1 V ql;go_wp2_with fail;go_roundw
    ·exact x.o
    ·simp[intOf];omega
   ·have Y:(((Ad (sx p.key):Nat):Int) == (k:Int))=Jx:=by rw[beq_eq_false_iff_ne];exact fun e=>y (q.o.1 e)
    have s:=LH (m.o.trans (if_neg (by rw[beq_iff_eq];exact y)));have x:=LH (show S1 k l w u7 (.int .i64 ((j+1:Nat):Int)) w4 from⟨j+1,rfl,by omega,by rw[s.o];exact T.o,U.o⟩);clear y m q;go_wp2_with fail;go_roundw
    ·exact x.o
    ·simp[intOf];omega
  ·obtain rfl:j=l.length:=by omega
   rw[WR] at a;obtain⟨Z,I,rfl,_,_⟩:=AK a;have HF:=LH (show OfP k l w (.returned (.slice Z (Io k l).length I)) wr from⟨Z,I,rfl,a,d,Je a⟩);clear a d;go_wp2_with fail;go_ret;exact HF.o
end
theorem Fo {s:Nat} {t:Tg} (h:Df s t):BN t:=by rcases h with h|h|h|h|h <;> subst h <;> exact⟨by simp,by simp,fun _=>by simp⟩
theorem QY {t:Tg} (h:QG t):BN t:=by obtain⟨i,h⟩:=h;subst h;exact⟨by simp,by simp,fun _=>by simp⟩
theorem Dv {i:Nat} {t:Tg} (h:t=.tx i):BN t:=by subst h;exact⟨by simp,by simp,fun _=>by simp⟩
theorem st_hs {t:Tg} (h:t=.hs):BN t:=by subst h;exact⟨by simp,by simp,fun _=>by simp⟩
theorem q7z {t:Tg} (h:Rh t):BN t:=by rcases h with h|h <;> subst h <;> exact⟨by simp,by simp,fun _=>by simp⟩
theorem M8 {s j:Nat} {t:Tg} (h:t=.nd s j):BN t:=by subst h;exact⟨by simp,by simp,fun _=>by simp⟩
theorem QZ {s:Nat} {t:Tg} (h:CR s t):BN t:=h.elim Fo QY
theorem GM {s:Nat} {t:Tg} (h:MR s t):BN t:=by
 rcases h with ⟨j,h⟩|h|h
 ·exact M8 h
 ·exact q7z h
 ·exact QZ h
def Ch (P:Aw) (own:Ai) (H':Hs) (w w':B1):Prop:=∃ own',HI w' own' P H'/\AA w own w' own'
theorem RO (d:Nd) (c:Cm) (b:Bool):(d.add c b).1=(d.add c Jx).1/\(d.add c b).2.2=(d.add c Jx).2.2:=by
 unfold Nd.add;split
 ·exact⟨rfl,rfl⟩
 ·split <;> exact⟨rfl,rfl⟩
theorem NJ (H:Hs) (s j:Nat) (c:Cm) (b:Bool):(H.add s j c b).2=(H.add s j c Jx).2:=by
 obtain⟨d,a⟩:=RO ((H.sh s).nd j) c b;unfold Hs.add;rw[d,a];split <;> rfl
def tellC (H:Hs) (i:Nat) (kind:Int):Cm:=⟨kind,i,if kind=3 then(H.tx i).ae else 0,[]⟩
theorem TC {H:Hs} {i k:Nat} {kind:Int} (h:H.head k=B0):H.a7 i kind k=H:=by unfold Hs.a7;rw[h]
theorem TD {H:Hs} {i k j:Nat} {kind:Int} (h:H.head k=Bs j):H.a7 i kind k=if place ((H.sh k).nd j).log kind i=B0/\place ((H.sh k).nd j).log 2 i≠B0 then(H.add k j (tellC H i kind) Jx).2 else H:=by unfold Hs.a7;rw[h];rfl
theorem q4n {l:List Cm} {kind id:Int} (h:place l kind id=B0):q9g l kind id = -1:=by unfold q9g;rw[h]
theorem q4m {l:List Cm} {kind id:Int} {p:Nat} (h:place l kind id=Bs p):q9g l kind id=p:=by unfold q9g;rw[h]
theorem q59 {H:Hs} {s j:Nat} (h:H.head s=Bs j):j<H.n:=by
 have:=WT h;unfold Bg.aj at this;exact List.mem_range.1 (List.mem_filter.1 this).1
theorem EW (H:Hs) (s j:Nat) (c:Cm) (b:Bool):(H.add s j c b).2.n=H.n/\(H.add s j c b).2.c=H.c/\(H.add s j c b).2.m=H.m/\(H.add s j c b).2.ae=H.ae/\∀ i,((H.add s j c b).2.tx i).state=(H.tx i).state/\((H.add s j c b).2.tx i).aa=(H.tx i).aa/\((H.add s j c b).2.tx i).ad=(H.tx i).ad/\((H.add s j c b).2.tx i).places=(H.tx i).places/\((H.add s j c b).2.tx i).ae=(H.tx i).ae:=by
 unfold Hs.add;split
 ·exact⟨rfl,rfl,rfl,rfl,fun _=>⟨rfl,rfl,rfl,rfl,rfl⟩⟩
 ·have hs:=BF.take ((H.an s j (((H.sh s).nd j).add c b).1.1).send (((H.sh s).nd j).add c b).1.2) s;exact⟨hs.n,hs.c,hs.m,hs.ae,hs.tx⟩
theorem KL (H:Hs) (i:Nat) (kind:Int) (k:Nat):(H.a7 i kind k).n=H.n/\(H.a7 i kind k).c=H.c/\(H.a7 i kind k).m=H.m/\(H.a7 i kind k).ae=H.ae/\∀ a,((H.a7 i kind k).tx a).state=(H.tx a).state/\((H.a7 i kind k).tx a).aa=(H.tx a).aa/\((H.a7 i kind k).tx a).ad=(H.tx a).ad/\((H.a7 i kind k).tx a).places=(H.tx a).places/\((H.a7 i kind k).tx a).ae=(H.tx a).ae:=by
 cases h:H.head k with
 | none=>rw[TC h];exact⟨rfl,rfl,rfl,rfl,fun _=>⟨rfl,rfl,rfl,rfl,rfl⟩⟩
 | some j=>
  rw[TD h];split
  ·exact EW _ _ _ _ _
  ·exact⟨rfl,rfl,rfl,rfl,fun _=>⟨rfl,rfl,rfl,rfl,rfl⟩⟩
theorem Wf.cm {H:Hs} (h:Wf H) {i:Nat} (e:1<=i) (c:i<=H.m) (kind:Int):D2 (tellC H i kind):=by
 have:=h.bC;have f:=h.cL i e c;have d:=h.aY;refine⟨⟨by show(1:Int)<=(i:Int);omega,by show(i:Int)<=60;omega⟩,?_,by show 0<=20;omega,fun p a=>by cases a⟩;show 0<=(if kind=3 then(H.tx i).ae else 0)/\(if kind=3 then(H.tx i).ae else 0)<=60;split <;> omega
theorem Wf.a7 {H:Hs} (h:Wf H) {i k:Nat} (d:1<=i) (c:i<=H.m) (a:k<H.c) (kind:Int):Wf (H.a7 i kind k):=by
 cases e:H.head k with
 | none=>rw[TC e];exact h
 | some j=>
  rw[TD e];split
  ·exact h.add a (q59 e) (h.cm d c kind) Jx
  ·exact h
noncomputable def telld (H:Hs) (i:Nat) (kind:Int) (ks:List Nat):Hs:=ks.foldl (Hs.a7 i kind) H
theorem Uu (i:Nat) (kind:Int):∀ (ks:List Nat) (H:Hs),(telld H i kind ks).n=H.n/\(telld H i kind ks).c=H.c/\(telld H i kind ks).m=H.m/\(telld H i kind ks).ae=H.ae/\∀ a,((telld H i kind ks).tx a).state=(H.tx a).state/\((telld H i kind ks).tx a).aa=(H.tx a).aa/\((telld H i kind ks).tx a).ad=(H.tx a).ad/\((telld H i kind ks).tx a).places=(H.tx a).places/\((telld H i kind ks).tx a).ae=(H.tx a).ae
 | [],H=>⟨rfl,rfl,rfl,rfl,fun _=>⟨rfl,rfl,rfl,rfl,rfl⟩⟩
 | k::ks,H=>by
  obtain⟨a1,a2,l,h,d⟩:=KL H i kind k;obtain⟨b1,b2,f,e,c⟩:=Uu i kind ks (H.a7 i kind k);exact⟨b1.trans a1,b2.trans a2,f.trans l,e.trans h,fun a=>⟨(c a).1.trans (d a).1,(c a).2.1.trans (d a).2.1,(c a).2.2.1.trans (d a).2.2.1,(c a).2.2.2.1.trans (d a).2.2.2.1,(c a).2.2.2.2.trans (d a).2.2.2.2⟩⟩
theorem Wf.aT {i:Nat} {kind:Int} (a:1<=i):∀ (ks:List Nat) {H:Hs},Wf H->i<=H.m->(∀ k∈ks,k<H.c)->Wf (telld H i kind ks)
 | [],_,h,_,_=>h
 | k::ks,H,h,hi,hk=>by
  obtain⟨_,a2,d,_⟩:=KL H i kind k;exact Wf.aT a ks (h.a7 a hi (hk k (VL ..)) kind) (by rw[d];exact hi) (fun q c=>by rw[a2];exact hk q (VM _ c))
theorem KZ {H:Hs} {i q k:Nat} {kind:Int} {ks:List Nat} (h:ks[q]? = Bs k):telld H i kind (ks.take (q+1))=(telld H i kind (ks.take q)).a7 i kind k:=by
 unfold telld;rw[VV,h,WS];rfl
def Gn (P:Aw) (own:Ai) (H:Hs) (i:Nat) (kind:Int) (ks:List Nat) (a:B1) (v:Hi) (wr:B1):Prop:=∃ q:Nat,v=.int .i64 q/\q<=ks.length/\Ch P own (telld H i kind (ks.take q)) a wr
section
variable {w w':B1} {own own':Ai} {P:Aw} {H:Hs}
theorem G0 {base n k:Nat} {V:Hi} {ks:List Nat} (h:w.ownsRow base 3 1 V n ((ks.map fun k:Nat=>(k:Int)).map (Wi .i64))) (f:k<n) (o:n=ks.length):∃ g c,V=.slice (Bs ⟨g,0,B0⟩) n c/\g<w.heap.size/\∃ x:Nat,ks[k]? = Bs x/\w.cell? ⟨g,k,B0⟩=Bs (.int .i64 x):=by
 obtain⟨g,c,e,l,u,a,m⟩:=Tw h f;have d:ks[k]? = Bs ks[k]:=K0 (by omega);rw[VT,VT,d] at a;simp only[Wv,VN] at a;exact⟨g,c,e,l,ks[k],d,by rw[m,<- a]⟩
theorem q6j {i:Nat} {kind:Int} (h:HI w own P H) (wf:Wf H) (hc:H.c=3) (h1:1<=i) (hi:i<=H.m):VX Tryz.prog 67 #[pw P.g,pw (P.gt i),.int .i64 kind] w fun e w'=>e=.returned (.tuple #[])/\Ch P own (H.aM i kind) w w':=by
 have av:=LH (qa5 h wf h1 hi);have HH:=LH h;have aP:=LH wf;have aQ:=LH (show H.aM i kind=telld H i kind (H.tx i).ai from rfl);have aH:=LH (fun k (hk:k∈(H.tx i).ai)=>DI hk);have aZ:=qa4 (H.tx i);unfold ER Bi.bb at av;generalize (H.tx i).ai=ks at *;clear h wf;unfold pw at *;go_enter Tryz.func67,Tryz.ntmps67;go_wp2_with fail;refine av.o.mono ?_;rintro e w1 ⟨V,rfl,K,ag⟩;obtain⟨A,c,rfl,_,_⟩:=AK K;have aG:=LH K;have aS:=LH ag;have aR:=LH (HH.o.below ag);have au:=LH (fun b (hb:(WI A ks.length c).ownBlock=Bs b)=>HH.o.free (K.lt b hb).1);clear K ag av HH;go_wp2_with fail;go_loopw [15] (Gn P own H i kind ks w1) (fun v _=>ks.length-(intOf v).toNat)
 case atStart=>exact⟨0,rfl,VK _,own,aR.o,HZ.refl _ _ _⟩
 case round=>
  obtain⟨q,rfl,hq,d,I,a0⟩:=hrel;by_cases aW:(q:Int)<ks.length
  ·obtain⟨r,c',hV,hr,k,hk,aL⟩:=G0 (Qb aG.o au.o a0) (k:=q) (by omega) rfl;injection hV with hA _ hcp;subst hA hcp;have aY:=aH.o k (O0 hk);have a2:=LH (KZ (H:=H) (i:=i) (kind:=kind) hk);have ad:=Uu i kind (ks.take q) H;have S:Wf (telld H i kind (ks.take q)):=aP.o.aT h1 _ hi (fun a ha=>by have:=aH.o a (WB ha);omega);have aM:(telld H i kind (ks.take q)).c=3:=ad.2.1.trans hc;have aV:(telld H i kind (ks.take q)).m=H.m:=ad.2.2.1;generalize telld H i kind (ks.take q)=H2 at *;obtain⟨vh,ac⟩:=I.hs;obtain⟨_,c3,_,_,gl⟩:=ac.cells;obtain⟨r3,k3,aC,aU,aB⟩:=ac.bR (s:=k) (by omega);rw[aC,aM] at c3;have aX:(k:Int)<3:=by omega
   have aq:=LH (q70 I S (s:=k) (by omega));unfold pw at aB aq;have aK:=LH I;have aE:=LH a0;have O:=LH S;clear I a0 S hk ac aC ad;go_wp2_with fail;refine aq.o.mono ?_;rintro e w3 ⟨rfl,af⟩;have a5:=LH (aK.o.below af);have ak:=LH (aE.o.trans (HZ.below d af));clear aL c3 aB gl aK aE aq af;rcases a7:H2.head k with _|j
   ·have x:=LH (show Gn P own H i kind ks w1 (.int .i64 ((q+1:Nat):Int)) w3 from⟨q+1,rfl,by omega,d,by rw[a2.o,TC a7];exact a5.o,ak.o⟩);unfold Dk;go_wp2_with fail;go_roundw
    ·exact x.o
    ·simp[intOf];omega
   ·have ae:=q59 a7;obtain⟨C,V2,L,hN,aO⟩:=a5.o.nd k j (by omega) ae;have aI:=LH (q9o hN);have ax:=hN.log;have b0:=hN.len;obtain⟨vt,aw⟩:=a5.o.tx i h1 (by omega);obtain⟨d0,_,_,_,_,d5,_,dl⟩:=aw.cells;have HT:=LH (TD (i:=i) (kind:=kind) a7);rw[<- ax] at HT;clear hN aO aw a7;unfold Dk pw;go_wp2_with fail;refine aI.o.mono ?_;rintro e w4 ⟨A5,k5,rfl,D,Q,_⟩;have ap:=LH (a5.o.below Q);have aj:=LH (ak.o.trans (HZ.below d Q));have aA:=(Q.cell (p:=⟨P.gt i,0,B0⟩) dl).trans d0;have a8:=VH dl Q.size;have az:=(Q.cell (p:=⟨P.gt i,5,B0⟩) dl).trans d5;have a4:=LH (q6p 0 _ _ L kind i w4 D rfl (by omega));have am:=LH D;clear d0 d5 dl D Q aI a5 ak;rcases U:place (AM L) kind i with _|p1
    ·rw[q4n U] at a4;go_wp2_with fail;refine a4.o.mono ?_;rintro e w5 ⟨rfl,E⟩;have ao:=LH (ap.o.below E);have ai:=LH (aj.o.trans (HZ.below d E));have ab:=(E.cell (p:=⟨P.gt i,0,B0⟩) a8).trans aA;have aa:=(E.cell (p:=⟨P.gt i,5,B0⟩) a8).trans az;have N:=VH a8 E.size;have a3:=LH (q6p 0 _ _ L 2 i w5 (Lx am.o E) rfl (by omega));clear E ap aj aA az a8 a4;rcases T:place (AM L) 2 i with _|p2
     ·rw[q4n T] at a3;have al:=LH (HT.o.trans (if_neg (fun h=>h.2 T)));go_wp2_with fail;refine a3.o.mono ?_;rintro e z ⟨rfl,f⟩;have x:=LH (show Gn P own H i kind ks w1 (.int .i64 ((q+1:Nat):Int)) z from⟨q+1,rfl,by omega,d,by rw[a2.o,al.o];exact ao.o.below f,ai.o.trans (HZ.below d f)⟩);clear f;go_wp2_with fail;go_roundw
      ·exact x.o
      ·simp[intOf];omega
     ·rw[q4m T] at a3;have aF:=LH (HT.o.trans (if_pos ⟨U,by rw[T];simp⟩));go_wp2_with fail;refine a3.o.mono ?_;rintro e z ⟨rfl,f⟩;have aJ:=LH (ao.o.below f);have aD:=LH (ai.o.trans (HZ.below d f));have aT:=(f.cell (p:=⟨P.gt i,0,B0⟩) N).trans ab;have a9:=(f.cell (p:=⟨P.gt i,5,B0⟩) N).trans aa;have M:=VH N f.size;clear f ao ai ab aa N a3 U T;by_cases X:kind=3
      ·
       have l:tellC H2 i kind=⟨kind,i,(H2.tx i).ae,[]⟩:=by unfold tellC;rw[if_pos X]
       have B:=O.o.cm h1 (show i<=H2.m by omega) kind;rw[l] at B;have a1:=aF;rw[l] at a1;have a6:=LH (fun W (hW:HI W d P H2)=>q8h hW O.o (show k<H2.c by omega) ae ⟨⟨kind,i,(H2.tx i).ae,[]⟩,B0,0,0⟩ ⟨rfl,Rd.none_ W W.heap.size 3 B0⟩ (fun _=>rfl) (VK _) B);have u:=(S2 z.heap.size z).alloc (L1 _) (.cells #[.int .i64 kind,.int .i64 i,.int .i64 (H2.tx i).ae,.slice B0 0 0] 69);have Y:=Ab.new z 69 #[.int .i64 kind,.int .i64 i,.int .i64 (H2.tx i).ae,.slice B0 0 0];have m:=u;have y:=Y;have an:=LH (aJ.o.below m);have ah:=LH (aD.o.trans (HZ.below d m));have o:=LH y;have t0:=(u.cell (p:=⟨P.gt i,5,B0⟩) M).trans a9;have aN:z.heap.size<(z.alloc (.cells #[.int .i64 kind,.int .i64 i,.int .i64 (H2.tx i).ae,.slice B0 0 0] 69)).heap.size:=by simp
       have ay:=VH M u.size;subst X;have J:=a6.o _ an.o;unfold pw at J;have ar:=LH J;clear J l B u Y m y a6;go_upto_region 11 with (fail)
       clear t0;generalize (z.alloc _)=w7 at *;have c0:=o.o.cell 0;have c1:=o.o.cell 1;have c2:=o.o.cell 2;have c3:=o.o.cell 3;have cl:=o.o.lt;simp only[Ft,D0,N2] at c0 c1 c2 c3;go_wp2_with fail;refine ar.o.mono ?_;rintro e w8 ⟨b8,R,rfl,G,Z⟩;rw[NJ] at G;have x:=LH (show Gn P own H i 3 ks w1 (.int .i64 ((q+1:Nat):Int)) w8 from⟨q+1,rfl,by omega,R,by rw[a2.o,a1.o];exact G,ah.o.trans (Z.mono (fun _ h=>GM h))⟩);clear G Z c0 c1 c2 c3 cl;go_wp2_with fail;go_roundw
       ·exact x.o
       ·simp[intOf];omega
      ·
       have l:tellC H2 i kind=⟨kind,i,0,[]⟩:=by unfold tellC;rw[if_neg X]
       have B:=O.o.cm h1 (show i<=H2.m by omega) kind;rw[l] at B;have a1:=aF;rw[l] at a1;have a6:=LH (fun W (hW:HI W d P H2)=>q8h hW O.o (show k<H2.c by omega) ae ⟨⟨kind,i,0,[]⟩,B0,0,0⟩ ⟨rfl,Rd.none_ W W.heap.size 3 B0⟩ (fun _=>rfl) (VK _) B);have u:=(S2 z.heap.size z).alloc (L1 _) (.cells #[.int .i64 kind,.int .i64 i,.int .i64 0,.slice B0 0 0] 69);have Y:=Ab.new z 69 #[.int .i64 kind,.int .i64 i,.int .i64 0,.slice B0 0 0];have m:=u;have y:=Y;have an:=LH (aJ.o.below m);have ah:=LH (aD.o.trans (HZ.below d m));have o:=LH y;have t0:=(u.cell (p:=⟨P.gt i,5,B0⟩) M).trans a9;have aN:z.heap.size<(z.alloc (.cells #[.int .i64 kind,.int .i64 i,.int .i64 0,.slice B0 0 0] 69)).heap.size:=by simp
       have ay:=VH M u.size;have dk:(kind == 3)=Jx:=by simpa using X
       clear X;have J:=a6.o _ an.o;unfold pw at J;have ar:=LH J;clear J l B u Y m y a6;go_upto_region 11 with (fail)
       clear t0;generalize (z.alloc _)=w7 at *;have c0:=o.o.cell 0;have c1:=o.o.cell 1;have c2:=o.o.cell 2;have c3:=o.o.cell 3;have cl:=o.o.lt;simp only[Ft,D0,N2] at c0 c1 c2 c3;go_wp2_with fail;refine ar.o.mono ?_;rintro e w8 ⟨b8,R,rfl,G,Z⟩;rw[NJ] at G;have x:=LH (show Gn P own H i kind ks w1 (.int .i64 ((q+1:Nat):Int)) w8 from⟨q+1,rfl,by omega,R,by rw[a2.o,a1.o];exact G,ah.o.trans (Z.mono (fun _ h=>GM h))⟩);clear G Z c0 c1 c2 c3 cl;go_wp2_with fail;go_roundw
       ·exact x.o
       ·simp[intOf];omega
    ·rw[q4m U] at a4;have al:=LH (HT.o.trans (if_neg (fun h=>by rw[U] at h;cases h.1)));go_wp2_with fail;refine a4.o.mono ?_;rintro e z ⟨rfl,f⟩;have x:=LH (show Gn P own H i kind ks w1 (.int .i64 ((q+1:Nat):Int)) z from⟨q+1,rfl,by omega,d,by rw[a2.o,al.o];exact ap.o.below f,aj.o.trans (HZ.below d f)⟩);clear f;go_wp2_with fail;go_roundw
     ·exact x.o
     ·simp[intOf];omega
  ·obtain rfl:q=ks.length:=by omega
   rw[WR] at I;have HF:=LH (show Ch P own (H.aM i kind) w wr from⟨d,by rw[aQ.o];exact I,(HZ.below own aS.o).trans a0⟩);clear I a0;go_wp2_with fail
   go_end0
   exact⟨rfl,HF.o⟩
end
theorem Tx (H:Hs) (i:Nat) (t:Bi):(H.aw i t).tx i=t:=Ay _ _ _
theorem Wf.aw {H:Hs} (h:Wf H) {i:Nat} {t:Bi} (a:E4 t) (c:t.ae=(H.tx i).ae):Wf (H.aw i t):=by
 refine h.of rfl rfl rfl rfl h.nd h.tab h.sto (fun _ _=>rfl) h.net rfl (fun k f d=>?_) (fun k=>?_)
 ·show E4 (Ae H.tx i t k);by_cases e:k=i
  ·subst e;rw[Ay];exact a
  ·rw[AF e];exact h.tx k f d
 ·show(Ae H.tx i t k).ae=_;by_cases e:k=i
  ·subst e;rw[Ay];exact c
  ·rw[AF e]
theorem Wf.rel {H:Hs} (h:Wf H) {s:Nat} (hs:s<H.c) (tx:Int):Wf (H.rel s tx):=by
 have a:=BF.rel H s tx;have d:=(h.cN hs).rel tx;refine h.of a.n a.c a.m a.ae (fun k j c f=>?_) (fun k c=>?_) (fun k c=>?_) (fun k c=>?_) (by rw[a.net];exact h.net) (by rw[a.net]) (fun i m l=>(h.tx i m l).sub rfl rfl rfl XQ) (fun i=>(a.tx i).2.2.2.2)
 ·by_cases e:k=s
  ·rw[e,a.nd];exact h.nd s j hs f
  ·rw[a.sh k e];exact h.nd k j c f
 ·by_cases e:k=s
  ·rw[e];exact d.tab
  ·rw[a.sh k e];exact h.tab k c
 ·by_cases e:k=s
  ·rw[e];exact d.sto
  ·rw[a.sh k e];exact h.sto k c
 ·by_cases e:k=s
  ·rw[e,a.ak]
  ·rw[a.sh k e]
noncomputable def reld (H:Hs) (i:Nat) (ks:List Nat):Hs:=ks.foldl (fun(H:Hs) k=>H.rel k i) H
theorem Oz {H:Hs} {i q k:Nat} {ks:List Nat} (h:ks[q]? = Bs k):reld H i (ks.take (q+1))=(reld H i (ks.take q)).rel k i:=by
 unfold reld;rw[VV,h,WS];rfl
theorem Rm (i:Nat):∀ (ks:List Nat) (H:Hs),(reld H i ks).c=H.c/\(reld H i ks).n=H.n/\(reld H i ks).m=H.m/\(reld H i ks).ae=H.ae/\∀ a,((reld H i ks).tx a).state=(H.tx a).state/\((reld H i ks).tx a).aa=(H.tx a).aa/\((reld H i ks).tx a).ad=(H.tx a).ad/\((reld H i ks).tx a).places=(H.tx a).places/\((reld H i ks).tx a).ae=(H.tx a).ae
 | [],H=>⟨rfl,rfl,rfl,rfl,fun _=>⟨rfl,rfl,rfl,rfl,rfl⟩⟩
 | k::ks,H=>by
  have hs:=BF.rel H k i;obtain⟨b1,b2,e,d,c⟩:=Rm i ks (H.rel k i);exact⟨b1.trans hs.c,b2.trans hs.n,e.trans hs.m,d.trans hs.ae,fun a=>⟨(c a).1.trans (hs.tx a).1,(c a).2.1.trans (hs.tx a).2.1,(c a).2.2.1.trans (hs.tx a).2.2.1,(c a).2.2.2.1.trans (hs.tx a).2.2.2.1,(c a).2.2.2.2.trans (hs.tx a).2.2.2.2⟩⟩
theorem Wf.cF (i:Nat):∀ (ks:List Nat) {H:Hs},Wf H->(∀ k∈ks,k<H.c)->Wf (reld H i ks)
 | [],_,h,_=>h
 | k::ks,H,h,hk=>Wf.cF i ks (h.rel (hk k (VL ..)) i) (fun q a=>by rw[(BF.rel H k i).c];exact hk q (VM _ a))
def Hs.aq (H:Hs) (i:Nat):Hs:=H.aw i { H.tx i with state:=4,af:=[] }
theorem Tu (H:Hs) (i:Nat):H.abort i=(reld (H.aq i) i (H.tx i).ai).aM i 4:=rfl
theorem Wf.aq {H:Hs} (h:Wf H) {i:Nat} (c:1<=i) (a:i<=H.m):Wf (H.aq i):=h.aw ((h.tx i c a).sub rfl rfl rfl (List.nil_sublist _)) rfl
theorem Wf.aM {H:Hs} (h:Wf H) (e:H.c=3) {i:Nat} (d:1<=i) (c:i<=H.m) (kind:Int):Wf (H.aM i kind):=h.aT d _ c (fun k a=>by have:=DI a;omega)
theorem Wf.abort {H:Hs} (h:Wf H) (f:H.c=3) {i:Nat} (d:1<=i) (c:i<=H.m):Wf (H.abort i):=by
 rw[Tu];have a:=Rm i (H.tx i).ai (H.aq i);exact((h.aq d c).cF i _ (fun k e=>by show k<H.c;have:=DI e;omega)).aM (a.1.trans f) d (by rw[a.2.2.1];exact c) 4
def AbRel (P:Aw) (own:Ai) (c:Hs) (i:Nat) (ks:List Nat) (a:B1) (v:Hi) (wr:B1):Prop:=∃ q:Nat,v=.int .i64 q/\q<=ks.length/\Ch P own (reld c i (ks.take q)) a wr
section
variable {w w':B1} {own own':Ai} {P:Aw} {H:Hs}
theorem q3s {i:Nat} (h:HI w own P H) (wf:Wf H) (hc:H.c=3) (J:1<=i) (hi:i<=H.m):VX Tryz.prog 40 #[pw P.g,pw (P.gt i)] w fun e w'=>e=.returned (.tuple #[])/\Ch P own (H.abort i) w w':=by
 obtain⟨v,G⟩:=h.tx i J hi;have f1:=G.ah.frozen 1;have f8:=G.ah.frozen 8;obtain⟨_,k1,_,_,_,_,k8,gl⟩:=G.cells;obtain⟨A8,c8,aa,_,_⟩:=AK G.af;have a2:=G.setState 4;have a1:=a2.bM (Ext.refl own _) (Fr.refl _ _) (VY _ _ _ _) (fun b hb=>by cases hb) (V':=.slice B0 0 0) (l':=[]);have B:Fr (OS own (fun t=>t=.tx i)) w ((w.setCell ⟨P.gt i,1,B0⟩ (.int .i64 4)).setCell ⟨P.gt i,8,B0⟩ (.slice B0 0 0)):=(((Fr.refl _ w).setCell (p:=⟨P.gt i,1,B0⟩) (.inl ⟨_,G.gt,rfl⟩) _).setCell (p:=⟨P.gt i,8,B0⟩) (.inl ⟨_,G.gt,rfl⟩) _)
 have f:=h.setTx' B (Ext.refl own _) (fun b hb=>VH (h.lt b hb) B.size) ⟨_,a1⟩;have D:=LH (show HI _ own P (H.aq i) from f);have ae:=LH (show AA w own _ own from⟨Ext.refl own _,B.mono (fun _ _ ⟨t,a,b⟩=>⟨t,a,Dv b⟩),fun _ _ h=>h⟩);have R:=LH (wf.aq J hi);have C:=qa5 D.o R.o J hi;have a3:((H.aq i).tx i).ai=(H.tx i).ai:=by unfold Hs.aq;rw[Tx];rfl
 unfold ER Bi.bb at C;rw[a3] at C;have ai:=LH C;have S:=LH (fun k (hk:k∈(H.tx i).ai)=>DI hk);have aC:=qa4 (H.tx i);have ar:=LH (Tu H i);rw[aa] at k8;generalize (H.tx i).ai=ks at *;have a5:(H.aq i).c=3:=hc;have aj:(H.aq i).m=H.m:=rfl;clear h wf G a2 a1 B f C a3 aa;unfold pw at *;go_enter Tryz.func40,Tryz.ntmps40;go_wp2_with fail;refine ai.o.mono ?_;rintro e w1 ⟨V,rfl,x,N⟩;obtain⟨A,c,rfl,_,_⟩:=AK x;have af:=LH x;have aq:=LH (D.o.below N);have an:=LH (ae.o.trans (HZ.below own N));have U:=LH (fun b (hb:(WI A ks.length c).ownBlock=Bs b)=>D.o.free (x.lt b hb).1);clear x N ai D ae k1 k8 f1 f8 gl;go_wp2_with fail;go_loopw [16] (AbRel P own (H.aq i) i ks w1) (fun v _=>ks.length-(intOf v).toNat)
 case atStart=>exact⟨0,rfl,VK _,own,aq.o,HZ.refl _ _ _⟩
 case round=>
  obtain⟨q,rfl,hq,Z,f,z⟩:=hrel;by_cases az:(q:Int)<ks.length
  ·obtain⟨r,c',hV,hr,k,hk,ak⟩:=G0 (Qb af.o U.o z) (k:=q) (by omega) rfl;injection hV with hA _ hcp;subst hA hcp;have aB:=S.o k (O0 hk);have ao:=LH (Oz (H:=H.aq i) (i:=i) hk);have o:=Rm i (ks.take q) (H.aq i);have d:Wf (reld (H.aq i) i (ks.take q)):=R.o.cF i _ (fun a ha=>by have:=S.o a (WB ha);omega);have al:(reld (H.aq i) i (ks.take q)).c=3:=o.1.trans a5;have ay:(reld (H.aq i) i (ks.take q)).m=H.m:=o.2.2.1.trans aj;generalize reld (H.aq i) i (ks.take q)=H2 at *;obtain⟨vh,K⟩:=f.hs;obtain⟨_,c3,_,_,gl⟩:=K.cells;obtain⟨r3,k3,a9,ax,a4⟩:=K.bR (s:=k) (by omega);rw[a9,al] at c3;have aA:(k:Int)<3:=by omega
   obtain⟨vt,a0⟩:=f.tx i J (by omega);have t0:wr.drew.cell? ⟨P.gt i,0,B0⟩=Bs (.int .i64 i):=a0.cells.1;have L:k<H2.c:=by omega
   have ag:=LH (q57 (f.below (S2 wr.heap.size wr).drew) L i (FD (by omega) (by have:=d.bC;omega)) (d.tab k L));have ah:=LH (d.cN L);have Q:=LH (z.trans (HZ.below Z (S2 wr.heap.size wr).drew));unfold pw at a4;clear f z d hk K a9 o a0;go_upto_region 6 with (fail)
   clear ak c3 a4 gl;refine nW ?_;refine CU (fun W=>W.cell? ⟨P.gt i,0,B0⟩=Bs (.int .i64 i)) 10 (fun _ _ _ _ _ h=>h) (fun l=>?_);have m:=t0;refine nD 0 [10] l m ?_;refine nD 1 [10] l m ?_;refine nD 2 [3,4,9,10] l m ?_;refine nD 3 [4,9,10] l m ?_;refine nD 4 [9,10] l m ?_;refine nD 5 [6,7,8,9,10] l m ?_;refine nD 6 [7,8,9,10] l m ?_;refine nD 7 [8,9,10] l m ?_;refine nD 8 [9,10] l m ?_;clear m t0;refine nG 9 (fun KK hK=>?_);go_simp;refine ag.o.mono ?_;rintro e w7 ⟨V7,gs,au,rfl,u,y,av,I,O,a8⟩;obtain⟨A7,aD,rfl,_,_⟩:=AK u;obtain⟨aw,E⟩:=O.tx i J (show i<=H2.m by omega);have ad:=E.cells.1;have M:=q6c (s:=k) O (VO ah.o.m (by omega)) (fun a J h2=>ah.o.wn a J h2) u y (by omega);rw[I] at M;have T:=LH M;have am:=LH (Q.o.trans (a8.mono (fun _ h=>Fo h)));unfold pw at T;clear M u y O I a8 ag E;go_simp;refine hK _ _ (fun _=>ad) ?_;clear hK KK ad;refine nG 10 (fun KK hK=>?_);go_simp;refine T.o.mono ?_;rintro e w8 ⟨rfl,Y,ac,a7⟩;go_simp;refine hK _ _ nZ ?_;clear hK KK;refine nX ?_;clear l T;have ap:=LH (show AbRel P own (H.aq i) i ks w1 (.int .i64 ((q+1:Nat):Int)) w8 from⟨q+1,rfl,by omega,Y,by rw[ao.o];exact ac,am.o.trans (a7.mono (fun _ h=>QY h))⟩);clear ac a7;go_wp2_with fail;go_roundw
   ·exact ap.o
   ·simp[intOf];omega
  ·obtain rfl:q=ks.length:=by omega
   rw[WR] at f;have o:=Rm i ks (H.aq i);have d:Wf (reld (H.aq i) i ks):=R.o.cF i _ (fun a ha=>by have:=S.o a ha;omega);have HT:=LH (q6j (kind:=4) f d (o.1.trans a5) J (show i<=(reld (H.aq i) i ks).m by rw[o.2.2.1];exact hi));unfold pw at HT;have Q:=LH (an.o.trans z);clear f z d o;go_wp2_with fail;refine HT.o.mono ?_;rintro e w9 ⟨rfl,X,ab,a6⟩;have HF:=LH (show Ch P own (H.abort i) w w9 from⟨X,by rw[ar.o];exact ab,Q.o.trans a6⟩);clear ab a6;go_wp2_with fail
   go_end0
   exact⟨rfl,HF.o⟩
end
theorem q7t {i:Nat} {p q:Nat->Bool} (m:p i=Jx) (h:q i=T2):∀ {l:List Nat},l.Nodup->i∈l->(∀ k∈l,k≠i->q k=p k)->(l.filter q).length=(l.filter p).length+1
 | [],_,c,_=>by cases c
 | k::l,hn,c,he=>by
  obtain⟨r,s⟩:=List.nodup_cons.1 hn;rcases List.mem_cons.1 c with e|c
  ·subst e;have:l.filter q=l.filter p:=X3 (fun a d=>he a (VM _ d) (fun e=>r (e▸d)));rw[Y3 h,Y4 (by rw[m];simp),this];rfl
  ·have f:=q7t m h s c (fun a d=>he a (VM _ d));have o:q k=p k:=he k (VL ..) (fun e=>r (e▸c));cases e:p k with
   | true=>rw[Y3 (by rw[o];exact e),Y3 e,WH,WH,f]
   | false=>rw[Y4 (by rw[o,e];simp),Y4 (by rw[e];simp),f]
def Hs.aK (H:Hs) (i:Nat):Hs:={ H.aw i { H.tx i with ae:=H.ae+1 } with ae:=H.ae+1 }
theorem qbu {H:Hs} (h:Wf H) (i:Nat):H.timed i=if (H.tx i).ae=0 then H.aK i else H:=by
 have:=h.aY;unfold Hs.timed Hs.aK;rw[show wrap64 (H.ae+1)=H.ae+1 from Xq _ ⟨by omega,by omega⟩]
theorem K8 {H:Hs} (h:Wf H) {i:Nat} (a:1<=i) (l:i<=H.m) (c:(H.tx i).ae=0):Eg (H.aK i)=Eg H+1:=by
 have d:=h.aY;unfold Eg;refine q7t (i:=i) (by simp[c]) ?_ List.nodup_range' (List.mem_range'_1.2 ⟨a,show i<1+H.m by omega⟩) (fun k f e=>?_)
 ·show decide ((Ae H.tx i _ i).ae≠0)=T2;rw[Ay];simp only[ne_eq,decide_not,Bool.not_eq_true',decide_eq_false_iff_not];omega
 ·show decide ((Ae H.tx i _ k).ae≠0)=_;rw[AF e]
theorem Wf.aK {H:Hs} (h:Wf H) {i:Nat} (l:1<=i) (f:i<=H.m) (m:(H.tx i).ae=0):Wf (H.aK i):=by
 have o:=h.aY;have d:=h.tm;refine⟨h.n4,h.c3,h.bC,h.nd,h.tab,h.sto,h.ak,h.net,h.down,fun k c a=>?_,?_,fun k c a=>?_⟩
 ·show E4 (Ae H.tx i _ k);by_cases e:k=i
  ·subst e;rw[Ay];exact(h.tx k c a).sub rfl rfl rfl (XO _)
  ·rw[AF e];exact h.tx k c a
 ·show H.ae+1=(Eg (H.aK i):Int);rw[K8 h l f m];omega
 ·show 0<=(Ae H.tx i _ k).ae/\(Ae H.tx i _ k).ae<=H.ae+1;by_cases e:k=i
  ·subst e;rw[Ay];exact⟨by show 0<=H.ae+1;omega,Int.le_refl _⟩
  ·rw[AF e];have:=h.cL k c a;omega
theorem Wf.timed {H:Hs} (h:Wf H) {i:Nat} (c:1<=i) (a:i<=H.m):Wf (H.timed i):=by
 rw[qbu h];split
 ·rename_i d;exact h.aK c a d
 ·exact h
theorem Ro (H:Hs) (i:Nat):(H.timed i).n=H.n/\(H.timed i).c=H.c/\(H.timed i).m=H.m/\(H.timed i).sh=H.sh/\(H.timed i).net=H.net:=by
 unfold Hs.timed;split <;> exact⟨rfl,rfl,rfl,rfl,rfl⟩
def Hs.a3 (H:Hs) (i:Nat) (st:Int):Hs:=H.aw i { H.tx i with state:=st }
theorem Wf.a3 {H:Hs} (h:Wf H) {i:Nat} (c:1<=i) (a:i<=H.m) (st:Int):Wf (H.a3 i st):=h.aw ((h.tx i c a).sub rfl rfl rfl (XO _)) rfl
theorem Wf.commit {H:Hs} (h:Wf H) (d:H.c=3) {i:Nat} (c:1<=i) (a:i<=H.m):Wf (H.commit i):=(h.a3 c a 3).aM d c a 3
theorem Wf.de {H:Hs} (h:Wf H) {i:Nat} (c:1<=i) (a:i<=H.m):D2 ⟨3,i,(H.tx i).ae,[]⟩:=by
 have:=h.cm c a 3;exact this
section
variable {w w':B1} {own own':Ai} {P:Aw} {H:Hs}
theorem AJ.bO {base g a nd:Nat} {T:VQ} {q c:Array Hi} {V:Hi} {D:Option Nat} {L:List AT} {dead:Int->Bool} {lost:Int} {S:Nat->Prop} (h:AJ w base g a T q V D nd L dead lost) (e:Fr S w w') (l:∀ b,(V.ownBlock=Bs b\/D=Bs b\/∃ x∈L,(WI x.A x.n x.k).ownBlock=Bs b)->¬S b)
  (d:Ab w' g T c) (p:c[a]? = Bs V) (o:c[a+1]? = Bs (.map D)) (m:c[a+2]? = Bs (.int .i64 lost)):AJ w' base g a T c V D nd L dead lost:=
 ⟨d,p,o,m,e.own h.row (fun b d=>l b (.inl d)),fun x f=>⟨e.own (h.own x f).1 (fun b d=>l b (.inr (.inr ⟨x,f,d⟩))),(h.own x f).2⟩,h.down.fr e (fun b d=>l b (.inr (.inl d))),h.len,h.ne,VO h.bg e.size⟩
theorem En.bZ {c m:Nat} {net:Bk} {time:Int} {v:KO} (h:En w own P c m net time v) (t:Int):En (w.setCell ⟨P.g,5,B0⟩ (.int .i64 t)) own P c m net t v:=by
 have l:=Fr.ax P.g w 5 (.int .i64 t);have d:∀ b f,own b=Bs f->f≠.hs->¬b=P.g:=fun b f a o e=>by rw[e,h.gt] at a;injection a with a;exact o a.symm
 exact⟨h.nt.bO l (fun b a=>d b _ (h.aV b a) (by simp)) (h.nt.ah.aC 5 _) rfl rfl rfl,h.msgs,h.aV,h.bf,l.own h.shr (fun b a=>d b _ (h.bm b a) (by simp)),h.bm,l.own h.txr (fun b a=>d b _ (h.bh b a) (by simp)),h.bh,h.gt⟩
theorem HI.aK (h:HI w own P H) {i:Nat} (u:1<=i) (s:i<=H.m):HI ((w.setCell ⟨P.g,5,B0⟩ (.int .i64 (H.ae+1))).setCell ⟨P.gt i,5,B0⟩ (.int .i64 (H.ae+1))) own P (H.aK i)/\AA w own ((w.setCell ⟨P.g,5,B0⟩ (.int .i64 (H.ae+1))).setCell ⟨P.gt i,5,B0⟩ (.int .i64 (H.ae+1))) own:=by
 obtain⟨v,p⟩:=h.hs;have l:Fr (OS own (fun t=>t=.hs)) w (w.setCell ⟨P.g,5,B0⟩ (.int .i64 (H.ae+1))):=(Fr.ax P.g w 5 _).mono (fun b _ e=>⟨_,by rw[e];exact p.gt,rfl⟩);have q:=GR l (Z':=Nz) (fun t e=>.inl e);have d:=h.setHs' (net':=H.net) (time':=H.ae+1) q (Ext.refl own _) (fun b m=>VH (h.lt b m) q.size) ⟨v,p.bZ _⟩;obtain⟨r,f⟩:=d.tx i u s;have c:Fr (OS own (fun t=>t=.tx i)) (w.setCell ⟨P.g,5,B0⟩ (.int .i64 (H.ae+1))) ((w.setCell ⟨P.g,5,B0⟩ (.int .i64 (H.ae+1))).setCell ⟨P.gt i,5,B0⟩ (.int .i64 (H.ae+1))):=(Fr.ax (P.gt i) _ 5 _).mono (fun b _ e=>⟨_,by rw[e];exact f.gt,rfl⟩);have o:=d.setTx' c (Ext.refl own _) (fun b m=>VH (d.lt b m) c.size) ⟨r,f.bZ (H.ae+1)⟩;exact⟨o,(⟨Ext.refl own _,l.mono (fun _ _ ⟨t,a,b⟩=>⟨t,a,st_hs b⟩),fun _ _ h=>h⟩:AA w own _ own).trans ⟨Ext.refl own _,c.mono (fun _ _ ⟨t,a,b⟩=>⟨t,a,Dv b⟩),fun _ _ h=>h⟩⟩
theorem HI.a3 (h:HI w own P H) {i:Nat} (o:1<=i) (l:i<=H.m) (st:Int):HI (w.setCell ⟨P.gt i,1,B0⟩ (.int .i64 st)) own P (H.a3 i st)/\AA w own (w.setCell ⟨P.gt i,1,B0⟩ (.int .i64 st)) own:=by
 obtain⟨f,d⟩:=h.tx i o l;have c:Fr (OS own (fun t=>t=.tx i)) w (w.setCell ⟨P.gt i,1,B0⟩ (.int .i64 st)):=(Fr.ax (P.gt i) _ 1 _).mono (fun b _ e=>⟨_,by rw[e];exact d.gt,rfl⟩);exact⟨h.setTx' c (Ext.refl own _) (fun b m=>VH (h.lt b m) c.size) ⟨f,d.setState st⟩,⟨Ext.refl own _,c.mono (fun _ _ ⟨t,a,b⟩=>⟨t,a,Dv b⟩),fun _ _ h=>h⟩⟩
def Tj (P:Aw) (own:Ai) (H:Hs) (i:Nat) (w:B1) (e:WA) (w':B1):Prop:=∃ b,e=.returned (.bool (H.aB i b).2)/\Ch P own (H.aB i b).1 w w'
theorem q7a {i:Nat} {b:Bool} (h:H.head 2=B0):H.aB i b=(H,Jx):=by unfold Hs.aB;rw[h]
theorem q8j {i j p:Nat} {b:Bool} (h:H.head 2=Bs j) (a:place ((H.sh 2).nd j).log 3 i=Bs p):H.aB i b=if H.ao 2 j<=p then(H,Jx) else(H.commit i,T2):=by unfold Hs.aB;rw[h];simp only[a]
theorem qcl {i j:Nat} {b:Bool} (h:H.head 2=Bs j) (a:place ((H.sh 2).nd j).log 3 i=B0):H.aB i b =
  if ((H.timed i).add 2 j ⟨3,i,((H.timed i).tx i).ae,[]⟩ b).1<0 then(((H.timed i).add 2 j ⟨3,i,((H.timed i).tx i).ae,[]⟩ b).2,Jx)
  else if ((H.timed i).add 2 j ⟨3,i,((H.timed i).tx i).ae,[]⟩ b).2.ao 2 j<=((H.timed i).add 2 j ⟨3,i,((H.timed i).tx i).ae,[]⟩ b).1 then(((H.timed i).add 2 j ⟨3,i,((H.timed i).tx i).ae,[]⟩ b).2,Jx)
  else(((H.timed i).add 2 j ⟨3,i,((H.timed i).tx i).ae,[]⟩ b).2.commit i,T2):=by unfold Hs.aB;rw[h];simp only[a]
theorem Kf {i:Nat} (h:HI w own P H) (wf:Wf H) (hc:H.c=3) (A:1<=i) (hi:i<=H.m):VX Tryz.prog 97 #[pw P.g,pw (P.gt i)] w (Tj P own H i w):=by
 obtain⟨vh,a1⟩:=h.hs;obtain⟨_,c3,_,_,gl⟩:=a1.cells;obtain⟨r3,k3,ap,aL,aN⟩:=a1.bR (s:=2) (by omega);rw[ap,hc] at c3;have HH:=LH h;have N:=LH wf;clear h wf a1 ap;unfold pw at *;go_enter Tryz.func97,Tryz.ntmps97;go_upto_region 1 with (fail)
 go_quiet (fail);generalize ae:w.drewN _=w1;have a5:VJ w.heap.size w w1:=ae▸Cr (S2 _ _) _;have a9:=LH (HH.o.below a5);have az:=LH (HZ.below (Z:=BN) own a5);have aa:=LH (q70 a9.o N.o (s:=2) (by omega));unfold pw at aa;clear c3 aN gl aL a5 HH ae;go_wp2_with fail;refine aa.o.mono ?_;rintro e w2 ⟨rfl,a4⟩;have x:=LH (a9.o.below a4);have M:=LH (az.o.trans (HZ.below own a4));clear a4 a9 az aa;rcases l:H.head 2 with _|j
 ·have y:=LH (show Tj P own H i w (.returned (.bool Jx)) w2 from⟨Jx,by rw[q7a l],own,by rw[q7a l];exact x.o,M.o⟩);unfold Dk;go_wp2_with fail;go_ret;exact y.o
 ·have ai:=q59 l;obtain⟨C,V2,L,hN,aP⟩:=x.o.nd 2 j (by omega) ai;have aq:=hN.a8 (S2 w2.heap.size w2).drew;have aE:=LH (q9o aq);have ah:=hN.log;have b6:=hN.len;obtain⟨vt,af⟩:=x.o.tx i A hi;obtain⟨d0,d1,_,_,_,d5,_,dl⟩:=af.cells;have aV:=LH l;clear hN aP aq af;unfold Dk pw;go_upto_region 5 with (fail)
  refine nW ?_;refine CU (fun W=>W.cell? ⟨P.gt i,0,B0⟩=Bs (.int .i64 i)) 8 (fun _ _ _ _ _ h=>h) (fun a=>?_);have c:w2.drew.cell? ⟨P.gt i,0,B0⟩=Bs (.int .i64 i):=d0;refine nD 0 [1,6,7] a c ?_;refine nD 2 [3,4,5,6,7] a c ?_;refine nD 3 [4,5,6,7] a c ?_;refine nD 4 [5,6,7] a c ?_;refine nD 5 [6,7] a c ?_;clear c;refine nG 1 (fun T z=>?_);go_simp;refine aE.o.mono ?_;rintro e w4 ⟨A5,k5,rfl,G,ak,_⟩;have q:=(S2 w2.heap.size w2).drew.trans ak;have aG:=LH (x.o.below q);have ay:=LH (M.o.trans (HZ.below own q));have a3:=(q.cell (p:=⟨P.gt i,0,B0⟩) dl).trans d0;have aj:=VH dl q.size;have aD:=LH (q6p 0 _ _ L 3 i w4 G rfl (by omega));go_simp;refine z _ _ (fun _=>a3) ?_;clear z T d0 d1 d5 dl G ak q aE x M;refine nG 6 (fun T z=>?_);go_simp;refine aD.o.mono ?_;rintro e w5 ⟨rfl,R⟩;have u:=LH (aG.o.below R);have a8:=LH (ay.o.trans (HZ.below own R));have I:=(R.cell (p:=⟨P.gt i,0,B0⟩) aj).trans a3;go_simp;refine z _ _ (fun _=>I) ?_;clear z T R aG ay a3 aj aD;refine nG 7 (fun T z=>?_);go_simp;refine z _ _ (fun _=>I) ?_;clear z T;refine nX ?_;clear a I;have aT:=ai;obtain⟨aJ,m⟩:=u.o.tx i A hi;obtain⟨d0,d1,_,_,_,d5,_,dl⟩:=m.cells;have f5:=m.ah.frozen 5;obtain⟨aK,o⟩:=u.o.hs;obtain⟨_,_,_,t5,aw⟩:=o.cells;have g5:=o.nt.ah.frozen 5;have b3:=N.o.aY;clear m o ah;go_upto_if 32 with (fail)
  go_cut [7] (fun v7 wx=>∃ (b:Bool) (k:Int) (H2:Hs) (d:Ai),v7=.int .i64 k/\HI wx d P H2/\AA w own wx d/\Wf H2/\H2.c=3/\H2.m=H.m/\H2.n=H.n/\H.aB i b=if H2.ao 2 j<=k then(H2,Jx) else(H2.commit i,T2))
  case first=>
   rcases hp:place ((H.sh 2).nd j).log 3 i with _|p
   ·rw[q4n hp];have ac:=LH (fun b=>qcl (b:=b) l hp);have ag:=Ro H i;have X:=N.o.timed A hi;have aB:=LH (qbu N.o i);have U:=LH X;have aS:=LH ag;clear l hp ag X;go_upto_if 37 with (fail)
    go_cut [] (fun wx=>HI wx own P (H.timed i)/\AA w own wx own)
    case first=>
     by_cases B:(H.tx i).ae=0
     ·have dt:((H.tx i).ae == 0)=T2:=by simpa using B
      have O:=u.o.aK A hi;rw[show H.aK i=H.timed i from(aB.o.trans (if_pos B)).symm] at O;have hw:IntKind.i64.wrap (H.ae+1)=H.ae+1:=IntWalk.i64_in _ ⟨by omega,by omega⟩;have y:=LH (show _/\_ from⟨O.1,a8.o.trans O.2⟩);have aM:P.g≠P.gt i:=fun e=>by
       obtain⟨aJ,m⟩:=u.o.tx i A hi;obtain⟨aK,o⟩:=u.o.hs;have e1:=o.gt;rw[e,m.gt] at e1;cases e1
      have aU:P.gt i≠P.g:=fun e=>aM e.symm
      clear O B;go_wp2_with fail;go_meet;exact y.o
     ·have dt:((H.tx i).ae == 0)=Jx:=by simpa using B
      have y:=LH (show HI w5 own P (H.timed i)/\AA w own w5 own from⟨by rw[aB.o,if_neg B];exact u.o,a8.o⟩);clear B;go_wp2_with fail;go_meet;exact y.o
    case rest=>
     obtain⟨a7,an⟩:=hcut;rename B1=>w6
     obtain⟨b2,b1,b0,aZ,aY⟩:=aS.o;obtain⟨aX,E⟩:=a7.tx i A (by omega);have e0:w6.drew.cell? ⟨P.gt i,0,B0⟩=Bs (.int .i64 i):=E.cells.1;have e5:w6.drew.cell? ⟨P.gt i,5,B0⟩=Bs (.int .i64 ((H.timed i).tx i).ae):=E.cells.2.2.2.2.2.1;have J:=q8h (a7.below (S2 w6.heap.size w6).drew) U.o (s:=2) (j:=j) (by omega) (by omega) ⟨⟨3,i,((H.timed i).tx i).ae,[]⟩,B0,0,0⟩ ⟨rfl,Rd.none_ _ _ _ _⟩ (fun _=>rfl) (VK _) (U.o.de A (by omega));unfold pw at J;have aI:=LH J;have aQ:=LH (an.trans (HZ.below own (S2 w6.heap.size w6).drew));clear E J a7 an d0 d1 d5 dl f5 t5 aw g5;go_upto_region 10 with (fail)
     refine nW ?_;refine CU (fun W=>W.cell? ⟨P.gt i,0,B0⟩=Bs (.int .i64 i)/\W.cell? ⟨P.gt i,5,B0⟩=Bs (.int .i64 ((H.timed i).tx i).ae)) 12 (fun _ _ _ _ _ h=>h) (fun a=>?_);have c:=Wm e0 e5;refine nD 0 [12,13] a c ?_;refine nD 1 [12,13] a c ?_;refine nD 2 [12,13] a c ?_;refine nD 3 [4,5,6,11,12,13] a c ?_;refine nD 4 [5,6,11,12,13] a c ?_;refine nD 5 [6,11,12,13] a c ?_;refine nA 6 [11,12,13] rfl rfl a c (fun w' a0=>by obtain⟨A,h2⟩:=a0;go_simp;rfl) ?_;refine nD 7 [8,9,10,11,12,13] a c ?_;refine nD 8 [9,10,11,12,13] a c ?_;refine nD 9 [10,11,12,13] a c ?_;refine nA 10 [11,12,13] rfl rfl a c (fun w' a0=>by obtain⟨A,h2⟩:=a0;go_simp;rfl) ?_;refine nD 11 [12,13] a c ?_;clear c e0 e5;refine nG 12 (fun T z=>?_);go_simp;refine aI.o.mono ?_;rintro e w8 ⟨S,V,rfl,av,am⟩;have aF:=LH av;have ax:=LH (aQ.o.trans (am.mono (fun _ h=>GM h)));clear av am aI;go_simp;refine z _ _ nZ ?_;clear z T;refine nG 13 (fun T z=>?_);go_simp;refine z _ _ nZ ?_;clear z T;refine nX ?_;clear a;by_cases f:((H.timed i).add 2 j ⟨3,i,((H.timed i).tx i).ae,[]⟩ S).1<0
     ·have y:=LH (show Tj P own H i w (.returned (.bool Jx)) w8 from⟨S,by rw[ac.o S,if_pos f],V,by rw[ac.o S,if_pos f];exact aF.o,ax.o⟩);have dn:=decide_eq_true f;clear f;go_wp2_with fail;go_ret;exact y.o
     ·have Q:=EW (H.timed i) 2 j ⟨3,i,((H.timed i).tx i).ae,[]⟩ S;have y:=LH (show ∃ (b:Bool) (k:Int) (H2:Hs) (d:Ai),Wi .i64 ((H.timed i).add 2 j ⟨3,i,((H.timed i).tx i).ae,[]⟩ S).1=.int .i64 k/\HI w8 d P H2/\AA w own w8 d/\Wf H2/\H2.c=3/\H2.m=H.m/\H2.n=H.n/\H.aB i b=if H2.ao 2 j<=k then(H2,Jx) else(H2.commit i,T2) from
       ⟨S,_,_,V,rfl,aF.o,ax.o,U.o.add (by omega) (by omega) (U.o.de A (by omega)) S,by rw[Q.2.1];omega,by rw[Q.2.2.1];omega,by rw[Q.1];omega,by rw[ac.o S,if_neg f]⟩)
      have dn:=decide_eq_false f;clear f Q;go_wp2_with fail;go_meet;exact y.o
   ·rw[q4m hp];have y:=LH (show ∃ (b:Bool) (k:Int) (H2:Hs) (d:Ai),Wi .i64 (p:Int)=.int .i64 k/\HI w5 d P H2/\AA w own w5 d/\Wf H2/\H2.c=3/\H2.m=H.m/\H2.n=H.n/\H.aB i b=if H2.ao 2 j<=k then(H2,Jx) else(H2.commit i,T2) from⟨Jx,p,H,own,rfl,u.o,a8.o,N.o,hc,rfl,rfl,q8j l hp⟩);clear hp l;go_wp2_with fail;go_meet;exact y.o
  case rest=>
   obtain⟨b,k,H2,d,rfl,K,a6,ao,aO,b5,b4,Y⟩:=hcut;rename B1=>w7
   obtain⟨C2,V3,L2,ar,_⟩:=K.nd 2 j (by omega) (by omega);have aC:=LH (qav ar);have a2:=K.a3 A (show i<=H2.m by omega) 3;obtain⟨aW,D⟩:=K.tx i A (by omega);obtain⟨_,s1,_,_,_,_,_,sl⟩:=D.cells;have s2:=D.ah.frozen 1;have aA:=LH (q6j (kind:=3) a2.1 (ao.a3 A (by omega) 3) aO A (show i<=H2.m by omega));have x:=LH K;have M:=LH a6;have aR:=LH (a6.trans a2.2);have ab:=LH Y;clear ar a2 D K a6 Y ao d0 d1 d5 dl f5 t5 aw g5 l;unfold pw at aA;by_cases r:H2.ao 2 j<=k
   ·have dn:decide (((H2.sh 2).nd j).ao<=k)=T2:=decide_eq_true r;have y:=LH (show Tj P own H i w (.returned (.bool Jx)) w7 from⟨b,by rw[ab.o,if_pos r],d,by rw[ab.o,if_pos r];exact x.o,M.o⟩);clear r;go_wp2_with fail;refine aC.o.mono ?_;rintro e w8 ⟨rfl,rfl⟩;go_wp2_with fail;go_ret;exact y.o
   ·have dn:decide (((H2.sh 2).nd j).ao<=k)=Jx:=decide_eq_false r;have aH:=LH (ab.o.trans (if_neg r));clear r;go_wp2_with fail;refine aC.o.mono ?_;rintro e w8 ⟨rfl,rfl⟩;go_wp2_with fail;refine aA.o.mono ?_;rintro e w9 ⟨rfl,ad,au,al⟩;have y:=LH (show Tj P own H i w (.returned (.bool T2)) w9 from⟨b,by rw[aH.o],ad,by rw[aH.o];exact au,aR.o.trans al⟩);clear au al;go_wp2_with fail;go_ret;exact y.o
end
def DF (H:Hs) (i k:Nat):Prop:=(H.tx i).ae > 0\/((H.tx i).ad k).getD 0≠(H.sh k).ab\/((H.tx i).places k).getD 0>=0
def Hv (H:Hs) (i k:Nat):Bool:=decide ((H.tx i).ae > 0) || ((H.tx i).ad k).getD 0 != (H.sh k).ab || decide (((H.tx i).places k).getD 0>=0)
theorem Ko {H:Hs} {i k:Nat} : Hv H i k=T2↔DF H i k:=by
 unfold Hv DF;simp only[Bool.or_eq_true,decide_eq_true_eq,bne_iff_ne,ne_eq,or_assoc]
section
variable {H:Hs} {i k j:Nat} {b:Bool}
theorem q76 (h:H.head k=B0):H.aD i k b=(H,Bs Jx):=by unfold Hs.aD;rw[h]
theorem q5r {p:Nat} (h:H.head k=Bs j) (a:place ((H.sh k).nd j).log 2 i=Bs p):H.aD i k b=(H.aA i k p,Bs (decide (H.ao k j > p))):=by unfold Hs.aD;rw[h];simp only[a]
theorem q79 (h:H.head k=Bs j) (d:place ((H.sh k).nd j).log 2 i=B0) (a:DF H i k) (c:(H.tx i).ae=0):H.aD i k b=(H.abort i,B0):=by unfold Hs.aD;rw[h];simp only[d];unfold DF at a;rw[if_pos a,if_pos c]
theorem q78 (h:H.head k=Bs j) (d:place ((H.sh k).nd j).log 2 i=B0) (a:DF H i k) (c:(H.tx i).ae≠0):H.aD i k b=(H,Bs Jx):=by unfold Hs.aD;rw[h];simp only[d];unfold DF at a;rw[if_pos a,if_neg c]
theorem q77 (h:H.head k=Bs j) (c:place ((H.sh k).nd j).log 2 i=B0) (a:¬DF H i k) (d:(H.add k j ⟨2,i,0,(H.tx i).of k⟩ b).1<0):H.aD i k b=((H.add k j ⟨2,i,0,(H.tx i).of k⟩ b).2.abort i,B0):=by unfold Hs.aD;rw[h];simp only[c];unfold DF at a;rw[if_neg a,if_pos d]
theorem q8i (h:H.head k=Bs j) (c:place ((H.sh k).nd j).log 2 i=B0) (a:¬DF H i k) (d:¬(H.add k j ⟨2,i,0,(H.tx i).of k⟩ b).1<0):H.aD i k b=((H.add k j ⟨2,i,0,(H.tx i).of k⟩ b).2.aA i k (H.add k j ⟨2,i,0,(H.tx i).of k⟩ b).1,
  Bs (decide ((H.add k j ⟨2,i,0,(H.tx i).of k⟩ b).2.ao k j > (H.add k j ⟨2,i,0,(H.tx i).of k⟩ b).1))):=by unfold Hs.aD;rw[h];simp only[c];unfold DF at a;rw[if_neg a,if_neg d]
end
def EM (H:Hs) (i:Nat) (ks:List Nat) (q:Nat) (H2:Hs) (a:Bool):Prop:=∃ b:Nat->Bool,∀ c:Nat->Bool,(∀ x∈ks.take q,c x=b x)->Hs.az i c ks H T2=Hs.az i c (ks.drop q) H2 a
theorem EM.start (H:Hs) (i:Nat) (ks:List Nat):EM H i ks 0 H T2:=⟨fun _=>Jx,fun _ _=>rfl⟩
theorem Ji {ks:List Nat} (c:ks.Nodup) {q k:Nat} (d:ks[q]? = Bs k):k ∉ ks.take q:=fun h=>by
 obtain⟨j,l,e⟩:=List.mem_take_iff_getElem.1 h;obtain⟨a,f⟩:=List.getElem?_eq_some_iff.1 d;exact List.pairwise_iff_getElem.1 c j q (by omega) a (by omega) (e.trans f.symm)
theorem EM.next {H H2:Hs} {i q k:Nat} {ks:List Nat} {a:Bool} (h:EM H i ks q H2 a) (s:ks.Nodup) (l:ks[q]? = Bs k) {β a2:Bool} {p:Hs} (u:H2.aD i k β=(p,Bs a2)):EM H i ks (q+1) p (a && a2):=by
 obtain⟨b,y⟩:=h;obtain⟨r,z⟩:=List.getElem?_eq_some_iff.1 l;refine⟨Ae b k β,fun c d=>?_⟩;rw[y c (fun x o=>by
  have f:=d x (by rw[VV];exact List.mem_append_left _ o);rw[f];exact AF (fun(e:x=k)=>Ji s l (by rw[<- e];exact o)) _)]
 rw[Xz r,z];have m:c k=β:=by
  have:=d k (by rw[VV,l];simp);rw[this,Ay]
 show(match (H2.aD i k (c k)).2 with|none=>((H2.aD i k (c k)).1,B0)|some a'=>Hs.az i c (ks.drop (q+1)) (H2.aD i k (c k)).1 (a && a'))=_;rw[m,u]
theorem EM.o {H H2:Hs} {i q k:Nat} {ks:List Nat} {a:Bool} (h:EM H i ks q H2 a) (m:ks.Nodup) (c:ks[q]? = Bs k) {β:Bool} {d:Hs} (o:H2.aD i k β=(d,B0)):∃ b,Hs.az i b ks H T2=(d,B0):=by
 obtain⟨b,p⟩:=h;obtain⟨l,r⟩:=List.getElem?_eq_some_iff.1 c;refine⟨Ae b k β,?_⟩;rw[p _ (fun x f=>AF (fun(e:x=k)=>Ji m c (by rw[<- e];exact f)) _),Xz l,r];show(match (H2.aD i k (Ae b k β k)).2 with|none=>((H2.aD i k (Ae b k β k)).1,B0)|some a'=>Hs.az i _ (ks.drop (q+1)) (H2.aD i k (Ae b k β k)).1 (a && a'))=_;rw[Ay,o]
theorem EM.done {H H2:Hs} {i:Nat} {ks:List Nat} {a:Bool} (h:EM H i ks ks.length H2 a) (f:2 ∉ ks) (β:Bool):∃ b:Nat->Bool,b 2=β/\Hs.az i b ks H T2=(H2,Bs a):=by
 obtain⟨b,d⟩:=h;refine⟨Ae b 2 β,Ay _ _ _,?_⟩;rw[d _ (fun x c=>AF (fun(e:x=2)=>f (by rw[<- e];exact WB c)) _),List.drop_length];rfl
theorem q75 {H H2:Hs} {i:Nat} {b:Nat->Bool} (h:Hs.az i b (H.tx i).ai H T2=(H2,B0)):H.ends i b=(H2,T2):=by unfold Hs.ends;rw[h]
theorem q5p {H H2:Hs} {i:Nat} {b:Nat->Bool} (h:Hs.az i b (H.tx i).ai H T2=(H2,Bs Jx)):H.ends i b=(H2,Jx):=by unfold Hs.ends;rw[h]
theorem q74 {H H2:Hs} {i:Nat} {b:Nat->Bool} (h:Hs.az i b (H.tx i).ai H T2=(H2,Bs T2)):H.ends i b=H2.aB i (b 2):=by unfold Hs.ends;rw[h]
theorem q3q (t:Bi):t.ai.Nodup:=List.Nodup.sublist XQ (by decide)
theorem Wf.bX {H:Hs} (h:Wf H) {i:Nat} (e:1<=i) (d:i<=H.m) (k:Nat):D2 ⟨2,i,0,(H.tx i).of k⟩:=by
 have a:=h.tx i e d;have:=h.bC;exact⟨⟨by show(1:Int)<=(i:Int);omega,by show(i:Int)<=60;omega⟩,by show(0:Int)<=0/\(0:Int)<=60;omega,VO (WD _ _) a.bf,fun p c=>a.ps p (List.mem_filter.1 c).1⟩
theorem E4.aA {t:Bi} (h:E4 t) {k:Nat} (d:k<2) (a:Int):E4 { t with places:=AG t.places k a }:=by
 refine⟨h.bf,h.ps,h.sh,fun o e c=>?_,h.wn,h.wnd⟩;have c:AG t.places k a o=Bs e:=c;unfold AG at c;split at c
 ·rename_i e1;omega
 ·exact h.pl o e c
theorem Wf.aA {H:Hs} (h:Wf H) {i k:Nat} (e:1<=i) (d:i<=H.m) (c:k<2) (a:Int):Wf (H.aA i k a):=h.aw ((h.tx i e d).aA c a) rfl
def Th (P:Aw) (own:Ai) (H:Hs) (i k j:Nat) (a:Bool) (H2:Hs) (l:B1) (m e:Hi) (h:B1):Prop:=
 ∃ (β:Bool) (f:Int) (d:Hs) (c:Ai),m=.bool a/\e=.int .i64 f/\HI h c P d/\AA l own h c/\Wf d/\d.c=3/\d.m=H.m/\d.n=H.n/\H2.aD i k β=(d.aA i k f,Bs (decide (d.ao k j > f)))
def KB (P:Aw) (own:Ai) (H:Hs) (i:Nat) (ks:List Nat) (d:B1) (e c:Hi) (wr:B1):Prop:=
 ∃ (q:Nat) (a:Bool) (H2:Hs),c=.int .i64 q/\e=.bool a/\q<=ks.length/\Ch P own H2 d wr/\Wf H2/\H2.c=3/\H2.m=H.m/\H2.n=H.n/\EM H i ks q H2 a
def KA (P:Aw) (own:Ai) (H:Hs) (i:Nat) (w:B1) (e:WA) (w':B1):Prop:=∃ b,e=.returned (.bool (H.ends i b).2)/\Ch P own (H.ends i b).1 w w'
section
variable {w w':B1} {own own':Ai} {P:Aw} {H:Hs}
theorem JP {b n:Nat} {f:Int->Option Int} (h:Aa BC w b n (Db f)) {o:Int} (c:E3 o):(Instr.lookup 61 (.map (Bs b)) (.int .i64 o) Jx).run Tryz.prog w=.ok (.int .i64 ((f o).getD 0)) w:=by
 have a:(zeroValue 3).run Tryz.prog w=.ok (.int .i64 0) w:=by kernel_rfl
 have:=(h.look Tryz.underlying61 a (x:=o) c).2;rw[show BC.val o=Wi .i64 o from rfl] at this;rw[this];unfold Db;cases f o <;> rfl
theorem Cx.putPlace' {i g:Nat} {v:KN} {t:Bi} (h:Cx w own i g v t) (f:E4 t) {k:Nat} (l:k<2) {a:Int} (m:Fr (fun b=>b=v.bp) w w') (d:Aa BC w' v.bp 101 (AU (Db t.places) (k:Int) (Bs (.int .i64 a)))):Cx w' own i g v { t with places:=AG t.places k a }:=by
 rw[qce] at d;refine h.bW m ((d.tight DC (fun o _ c=>?_)).mono (by rw[Uq];omega));unfold Db at c;cases e:AG t.places k a o with
 | none=>rw[e] at c;exact absurd rfl c
 | some x=>have:=(f.aA l a).pl o x e;exact Qa (by omega) (by omega)
theorem Ss {i:Nat} (h:HI w own P H) (wf:Wf H) (hc:H.c=3) (h1:1<=i) (hi:i<=H.m):VX Tryz.prog 66 #[pw P.g,pw (P.gt i)] w (KA P own H i w):=by
 have aH:=LH (qa5 h wf h1 hi);have HH:=LH h;have bA:=LH wf;have bg:=LH (q3q (H.tx i));have HN:=LH (fun(b:Nat->Bool) (H2:Hs)=>(q75 (H:=H) (H2:=H2) (i:=i) (b:=b)));have bp:=LH (fun(b:Nat->Bool) (H2:Hs)=>(q5p (H:=H) (H2:=H2) (i:=i) (b:=b)));have bB:=LH (fun(b:Nat->Bool) (H2:Hs)=>(q74 (H:=H) (H2:=H2) (i:=i) (b:=b)));have bj:=LH (fun k (hk:k∈(H.tx i).ai)=>DI hk);have bM:=qa4 (H.tx i);unfold ER Bi.bb at aH;generalize (H.tx i).ai=ks at *;clear h wf;unfold pw at *;go_enter Tryz.func66,Tryz.ntmps66;go_wp2_with fail;refine aH.o.mono ?_;rintro e w1 ⟨V,rfl,a1,az⟩;obtain⟨A,c,rfl,_,_⟩:=AK a1;have bd:=LH a1;have ao:=LH az;have bF:=LH (HH.o.below az);have aG:=LH (fun b (S:(WI A ks.length c).ownBlock=Bs b)=>HH.o.free (a1.lt b S).1);clear a1 az aH HH;go_wp2_with fail;go_loopw [5,14] (KB P own H i ks w1) (fun _ v _=>ks.length-(intOf v).toNat)
 case atStart=>exact⟨0,T2,H,rfl,rfl,VK _,⟨own,bF.o,HZ.refl _ _ _⟩,bA.o,hc,rfl,rfl,EM.start H i ks⟩
 case round=>
  obtain⟨q,a,H2,rfl,rfl,hq,⟨l,N,Y⟩,aa,D,aj,ai,T⟩:=hrel;by_cases bK:(q:Int)<ks.length
  ·obtain⟨r,c',hV,hr,k,hk,bw⟩:=G0 (Qb bd.o aG.o Y) (k:=q) (by omega) rfl;injection hV with hA _ hcp;subst hA hcp;have aO:=bj.o k (O0 hk);obtain⟨vh,au⟩:=N.hs;obtain⟨_,c3,_,_,gl⟩:=au.cells;obtain⟨r3,k3,b1,bJ,aU⟩:=au.bR (s:=k) (by omega);rw[b1,D] at c3;have bL:(k:Int)<3:=by omega
   have aF:=LH (q70 N aa (s:=k) (by omega));unfold pw at aU aF;have bn:=LH N;have an:=LH Y;have O:=LH aa;have aE:=LH (fun(β a2:Bool) (H3:Hs) (he:H2.aD i k β=(H3,Bs a2))=>T.next bg.o hk he);have bc:=LH (fun(β:Bool) (H3:Hs) (he:H2.aD i k β=(H3,B0))=>T.o bg.o hk he);clear N Y aa hk au b1 T;go_wp2_with fail;refine aF.o.mono ?_;rintro e w3 ⟨rfl,ay⟩;have ae:=LH (bn.o.below ay);have aD:=LH (an.o.trans (HZ.below l ay));clear bw c3 aU gl bn an aF ay;rcases ak:H2.head k with _|j
   ·have Z:=LH (show KB P own H i ks w1 (.bool Jx) (.int .i64 ((q+1:Nat):Int)) w3 from⟨q+1,Jx,H2,rfl,rfl,by omega,⟨l,ae.o,aD.o⟩,O.o,D,aj,ai,by have:=aE.o Jx Jx H2 (q76 ak);rw[Bool.and_false] at this;exact this⟩);unfold Dk;go_wp2_with fail;go_roundw
    ·exact Z.o
    ·simp[intOf];omega
   ·have aw:=q59 ak;obtain⟨C,V2,L,hN,bx⟩:=ae.o.nd k j (by omega) aw;have b2:=hN.a8 (S2 w3.heap.size w3).drew;have bk:=LH (q9o b2);have aM:=hN.log;have bN:=hN.len;obtain⟨vt,aJ⟩:=ae.o.tx i h1 (by omega);obtain⟨d0,_,_,_,_,_,_,dl⟩:=aJ.cells;have R:=LH ak;clear hN bx b2 aJ ak;unfold Dk pw;go_upto_region 9 with (fail)
    refine nW ?_;refine CU (fun W=>W.cell? ⟨P.gt i,0,B0⟩=Bs (.int .i64 i)) 8 (fun _ _ _ _ _ h=>h) (fun d=>?_);have f:w3.drew.cell? ⟨P.gt i,0,B0⟩=Bs (.int .i64 i):=d0;refine nD 0 [1,6,7] d f ?_;refine nD 2 [3,4,5,6,7] d f ?_;refine nD 3 [4,5,6,7] d f ?_;refine nD 4 [5,6,7] d f ?_;refine nD 5 [6,7] d f ?_;clear f;refine nG 1 (fun KK B=>?_);go_simp;refine bk.o.mono ?_;rintro e w4 ⟨A5,k5,rfl,a5,aW,_⟩;have J:=(S2 w3.heap.size w3).drew.trans aW;have bm:=LH (ae.o.below J);have b7:=LH (aD.o.trans (HZ.below l J));have ax:=(J.cell (p:=⟨P.gt i,0,B0⟩) dl).trans d0;have aS:=VH dl J.size;have be:=LH (q6p 0 _ _ L 2 i w4 a5 rfl (by omega));go_simp;refine B _ _ (fun _=>ax) ?_;clear B KK d0 dl a5 aW J bk ae aD;refine nG 6 (fun KK B=>?_);go_simp;refine be.o.mono ?_;rintro e w5 ⟨rfl,am⟩;have ad:=LH (bm.o.below am);have aC:=LH (b7.o.trans (HZ.below l am));have a7:=(am.cell (p:=⟨P.gt i,0,B0⟩) aS).trans ax;go_simp;refine B _ _ (fun _=>a7) ?_;clear B KK am bm b7 ax aS be;refine nG 7 (fun KK B=>?_);go_simp;refine B _ _ (fun _=>a7) ?_;clear B KK;refine nX ?_;clear d a7 aM;go_upto_if 37 with (fail)
    go_cut [5,10] (fun v5 bu wx=>Th P own H i k j a H2 w1 v5 bu wx)
    case first=>
     rcases hp:place ((H2.sh k).nd j).log 2 i with _|p
     ·rw[q4n hp];have HP:=LH hp;obtain⟨bH,a0⟩:=ad.o.tx i h1 (by omega);obtain⟨_,_,_,d3,d4,d5,_,dl⟩:=a0.cells;have l1:=fun q=>JP (a0.ad.drewN q) (o:=(k:Int)) (FD (by omega) (by omega))
      have l2:=fun q=>JP (a0.places.drewN q) (o:=(k:Int)) (FD (by omega) (by omega))
      obtain⟨bI,ap⟩:=ad.o.sh k (by omega);obtain⟨_,_,e2,_,_,el⟩:=ap.cells;have E:=LH (show Hv H2 i k=(decide ((H2.tx i).ae > 0) || ((H2.tx i).ad k).getD 0 != (H2.sh k).ab || decide (((H2.tx i).places k).getD 0>=0)) from rfl);clear hp a0 ap;go_upto_region 11 with (fail)
      go_cut [64] (fun bt wx=>bt=.bool (Hv H2 i k)/\VJ w5.heap.size w5 wx)
      case first=>
       by_cases x1:(H2.tx i).ae > 0
       ·have y1:decide ((H2.tx i).ae > 0)=T2:=decide_eq_true x1;have x:=LH (show Hv H2 i k=T2 by rw[E.o,y1];rfl);clear x1 E;go_quiet (fail);go_wp2_with fail;go_meet;exact⟨by rw[x.o],Cr (S2 _ _) _⟩
       ·have y1:decide ((H2.tx i).ae > 0)=Jx:=decide_eq_false x1;by_cases x2:((H2.tx i).ad k).getD 0=(H2.sh k).ab
        ·have y2:(((H2.tx i).ad k).getD 0 != (H2.sh k).ab)=Jx:=by simpa using x2
         by_cases x3:((H2.tx i).places k).getD 0>=0
         ·have y3:decide (((H2.tx i).places k).getD 0>=0)=T2:=decide_eq_true x3;have x:=LH (show Hv H2 i k=T2 by rw[E.o,y1,y2,y3];rfl);clear x1 x2 x3 E;go_quiet (fail);go_wp2_with fail;go_meet;exact⟨by rw[x.o],Cr (S2 _ _) _⟩
         ·have y3:decide (((H2.tx i).places k).getD 0>=0)=Jx:=decide_eq_false x3;have x:=LH (show Hv H2 i k=Jx by rw[E.o,y1,y2,y3];rfl);clear x1 x2 x3 E;go_quiet (fail);go_wp2_with fail;go_meet;exact⟨by rw[x.o],Cr (S2 _ _) _⟩
        ·have y2:(((H2.tx i).ad k).getD 0 != (H2.sh k).ab)=T2:=by simpa using x2
         have x:=LH (show Hv H2 i k=T2 by rw[E.o,y1,y2];rfl);clear x1 x2 E;go_quiet (fail);go_wp2_with fail;go_meet;exact⟨by rw[x.o],Cr (S2 _ _) _⟩
      case rest=>
       obtain⟨rfl,a8⟩:=hcut;rename B1=>w6
       have Q:=LH (ad.o.below a8);have ab:=LH (aC.o.trans (HZ.below l a8));have t5:=(a8.cell (p:=⟨P.gt i,5,B0⟩) dl).trans d5;have tl:=VH dl a8.size;clear d3 d4 d5 dl l1 l2 e2 el a8 ad aC E;cases z:Hv H2 i k with
       | true=>
        have al:=Ko.1 z;by_cases ht:(H2.tx i).ae=0
        ·have dt:((H2.tx i).ae == 0)=T2:=by simpa using ht
         have af:=LH (q3s Q.o O.o D h1 (show i<=H2.m by omega));have ac:=LH (bc.o Jx _ (q79 R.o HP.o al ht));unfold pw at af;clear z al ht;go_wp2_with fail;refine af.o.mono ?_;rintro e w9 ⟨rfl,G,M,K⟩;have HF:=LH (show KA P own H i w (.returned (.bool T2)) w9 from by
          obtain⟨b,S⟩:=ac.o;exact⟨b,by rw[HN.o b _ S],G,by rw[HN.o b _ S];exact M,(HZ.below own ao.o).trans (ab.o.trans K)⟩)
         clear M K;go_wp2_with fail;go_ret;exact HF.o
        ·have dt:((H2.tx i).ae == 0)=Jx:=by simpa using ht
         have Z:=LH (show KB P own H i ks w1 (.bool Jx) (.int .i64 ((q+1:Nat):Int)) w6 from⟨q+1,Jx,H2,rfl,rfl,by omega,⟨l,Q.o,ab.o⟩,O.o,D,aj,ai,by have:=aE.o Jx Jx H2 (q78 R.o HP.o al ht);rw[Bool.and_false] at this;exact this⟩);clear z al ht;go_wp2_with fail;go_roundw
         ·exact Z.o
         ·simp[intOf];omega
       | false=>
        have bh:=LH (show ¬DF H2 i k from fun h=>by rw[Ko.2 h] at z;cases z);obtain⟨ar,u⟩:=Q.o.tx i h1 (by omega);have c0:w6.drew.cell? ⟨P.gt i,0,B0⟩=Bs (.int .i64 i):=u.cells.1;have av:=of_any (k:=k) (Q.o.below (S2 w6.heap.size w6).drew) O.o D h1 (show i<=H2.m by omega);unfold pw at av;have bf:=LH av;clear z u av t5;go_upto_region 16 with (fail)
        refine nW ?_;refine CU (fun W=>W.cell? ⟨P.gt i,0,B0⟩=Bs (.int .i64 i)) 12 (fun _ _ _ _ _ h=>h) (fun d=>?_);have f:=c0;refine nD 0 [12,13] d f ?_;refine nD 1 [12,13] d f ?_;refine nD 2 [12,13] d f ?_;refine nD 3 [4,5,6,11,12,13] d f ?_;refine nD 4 [5,6,11,12,13] d f ?_;refine nD 5 [6,11,12,13] d f ?_;refine nD 6 [11,12,13] d f ?_;refine nD 7 [10,11,12,13] d f ?_;refine nD 8 [10,11,12,13] d f ?_;refine nD 9 [10,11,12,13] d f ?_;clear f;refine nG 10 (fun KK B=>?_);go_simp;refine bf.o.mono ?_;rintro e w7 ⟨A7,c7,rfl,a4,aV,aN⟩;have a3:=(S2 w6.heap.size w6).drew.trans aV;have aB:=(a3.cell (p:=⟨P.gt i,0,B0⟩) tl).trans c0;have bE:=LH (Q.o.below a3);have bz:=LH (ab.o.trans (HZ.below l a3));have ah:=O.o.bX h1 (show i<=H2.m by omega) k;have aQ:(Io k (H2.tx i).aa).length<=100000:=VO ah.bf (by omega);have a9:=q8h bE.o O.o (s:=k) (j:=j) (by omega) aw ⟨⟨2,i,0,Io k (H2.tx i).aa⟩,A7,(Io k (H2.tx i).aa).length,c7⟩ ⟨rfl,Rd.au a4⟩ aN aQ ah;unfold pw at a9;have br:=LH a9;have bD:=LH ah;go_simp;refine B _ _ (fun _=>aB) ?_;clear B KK aV a3 a4 aN a9 bf c0 ah;refine nG 11 (fun KK B=>?_);go_simp;refine B _ _ (fun _=>aB) ?_;clear B KK aB;refine nG 12 (fun KK B=>?_);go_simp;refine br.o.mono ?_;rintro e w8 ⟨b8,aI,rfl,b4,aY⟩;have bl:=LH b4;have b6:=LH (bz.o.trans (aY.mono (fun _ h=>GM h)));clear b4 aY br;go_simp;refine B _ _ nZ ?_;clear B KK;refine nG 13 (fun KK B=>?_);go_simp;refine B _ _ nZ ?_;clear B KK;refine nX ?_;clear d;have U:=EW H2 k j ⟨2,i,0,Io k (H2.tx i).aa⟩ b8;have ag:=O.o.add (s:=k) (j:=j) (by omega) aw bD.o b8;by_cases y:(H2.add k j ⟨2,i,0,Io k (H2.tx i).aa⟩ b8).1<0
        ·have af:=LH (q3s bl.o ag (by rw[U.2.1];exact D) h1 (show i<=_ by rw[U.2.2.1];omega));have ac:=LH (bc.o b8 _ (q77 R.o HP.o bh.o y));unfold pw at af;have dn:=decide_eq_true y;clear y U ag;go_wp2_with fail;refine af.o.mono ?_;rintro e w9 ⟨rfl,G,M,K⟩;have HF:=LH (show KA P own H i w (.returned (.bool T2)) w9 from by
          obtain⟨b,S⟩:=ac.o;exact⟨b,by rw[HN.o b _ S],G,by rw[HN.o b _ S];exact M,(HZ.below own ao.o).trans (b6.o.trans K)⟩)
         clear M K;go_wp2_with fail;go_ret;exact HF.o
        ·have HF:=LH (show Th P own H i k j a H2 w1 (.bool a) (.int .i64 (H2.add k j ⟨2,i,0,Io k (H2.tx i).aa⟩ b8).1) w8 from                     ⟨b8,_,_,aI,rfl,rfl,bl.o,b6.o,ag,by rw[U.2.1];exact D,by rw[U.2.2.1];exact aj,by rw[U.1];exact ai,q8i R.o HP.o bh.o y⟩);have dn:=decide_eq_false y;clear y U ag;go_wp2_with fail;go_meet;exact HF.o
     ·rw[q4m hp];have HF:=LH (show Th P own H i k j a H2 w1 (.bool a) (.int .i64 (p:Int)) w5 from⟨Jx,p,H2,l,rfl,rfl,ad.o,aC.o,O.o,D,aj,ai,q5r R.o hp⟩);clear hp;go_wp2_with fail;go_meet;exact HF.o
    case rest=>
     obtain⟨β,kk,H3,m,rfl,rfl,aA,aZ,b0,aT,aL,aK,aR⟩:=hcut;rename B1=>w6
     have aq:=LH (aE.o β _ _ aR);obtain⟨ar,u⟩:=aA.tx i h1 (by omega);obtain⟨_,_,_,_,d4,_,_,dl⟩:=u.cells;have bi:=LH u.places;have bb:=LH u;have Q:=LH aA;have ab:=LH aZ;have ba:=LH b0;clear u aA aZ b0 aR;have aP:∀ w7,Aa BC w7 ar.bp 101 (AU (Db (H3.tx i).places) (k:Int) (Bs (.int .i64 kk)))->Fr (fun b=>b=ar.bp) w6 w7->HI w7 m P (H3.aA i k kk)/\AA w1 own w7 m:=fun w7 X I=>by
      have bv:=bb.o.putPlace' (ba.o.tx i h1 (by omega)) aO I X;have a6:Fr (OS m (fun t=>t=.tx i)) w6 w7:=I.mono (fun b _ e=>⟨_,by rw[e];exact bb.o.pt,rfl⟩);exact⟨Q.o.setTx' a6 (Ext.refl m _) (fun b S=>VH (Q.o.lt b S) a6.size) ⟨_,bv⟩,ab.o.trans ⟨Ext.refl m _,a6.mono (fun _ _ ⟨t,a,b⟩=>⟨t,a,Dv b⟩),fun _ _ h=>h⟩⟩
     have bo:=LH aP;have b9:=LH (ba.o.aA h1 (show i<=H3.m by omega) aO kk);clear aP;cases a with
     | false=>
      go_wp2_with (at_mapUpdate;refine TF (C:=BC) rfl 61 3 Tryz.underlying61 _ _ _ rfl rfl bi.o (by unfold VZ;omega) (k:Int) (.int .i64 kk) rfl rfl (FD (by omega) (by omega)) ?_;intro w7 X I)
      have hg:=bo.o w7 X I;have Z:=LH (show KB P own H i ks w1 (.bool Jx) (.int .i64 ((q+1:Nat):Int)) w7 from⟨q+1,Jx,_,rfl,rfl,by omega,⟨m,hg.1,hg.2⟩,b9.o,aT,aL,aK,aq.o⟩);clear hg X I;go_roundw
      ·exact Z.o
      ·simp[intOf];omega
     | true=>
      go_wp2_with (at_mapUpdate;refine TF (C:=BC) rfl 61 3 Tryz.underlying61 _ _ _ rfl rfl bi.o (by unfold VZ;omega) (k:Int) (.int .i64 kk) rfl rfl (FD (by omega) (by omega)) ?_;intro w7 X I)
      have hg:=bo.o w7 X I;obtain⟨C7,V7,L7,b3,_⟩:=hg.1.nd k j (show k<H3.c by omega) (show j<H3.n by omega);have bC:=LH (qav b3);have Z:=LH (show KB P own H i ks w1 (.bool (decide (H3.ao k j > kk))) (.int .i64 ((q+1:Nat):Int)) w7 from⟨q+1,_,_,rfl,rfl,by omega,⟨m,hg.1,hg.2⟩,b9.o,aT,aL,aK,by have:=aq.o;rw[YD] at this;exact this⟩);clear hg X I b3;refine bC.o.mono ?_;rintro e w8 ⟨rfl,rfl⟩;go_wp2_with fail;go_roundw
      ·exact Z.o
      ·simp[intOf];omega
  ·obtain rfl:q=ks.length:=by omega
   have b5:2 ∉ ks:=fun h=>by have:=bj.o 2 h;omega
   cases a with
   | false=>
    obtain⟨b,_,S⟩:=T.done b5 Jx;have HF:=LH (show KA P own H i w (.returned (.bool Jx)) wr from⟨b,by rw[bp.o b H2 S],l,by rw[bp.o b H2 S];exact N,(HZ.below own ao.o).trans Y⟩);clear N Y T S;go_wp2_with fail;go_ret;exact HF.o
   | true=>
    have bq:=LH (Kf N aa D h1 (show i<=H2.m by omega));have bG:=LH (fun β=>T.done b5 β);have an:=LH ((HZ.below own ao.o).trans Y);unfold pw at bq;clear N Y T aa;go_wp2_with fail;refine bq.o.mono ?_;rintro e w9 ⟨β,rfl,G,M,K⟩;obtain⟨b,aX,S⟩:=bG.o β;have hE:=bB.o b H2 S;rw[aX] at hE;have HF:=LH (show KA P own H i w (.returned (.bool (H2.aB i β).2)) w9 from⟨b,by rw[hE],G,by rw[hE];exact M,an.o.trans K⟩);clear M K hE S aX;go_wp2_with fail;go_ret;exact HF.o
end
end Go.Proofs.YtccahlhdifadfaaGreatDoor
