import Derived.Test.YtccahlhdifadfaaGreatDoorPk01
namespace Go.Proofs.YtccahlhdifadfaaGreatDoor
open Go.RowKit
open _root_.And renaming intro → Wm
open _root_.Bool renaming false → Jx, true → VJ, and_eq_true → Wj, not_eq_true' → XE, eq_iff_iff → XU, not_eq_true → X2, or_eq_true → X8, or_eq_false_iff → Ym, true_and → YB
open _root_.Go renaming World → D0, Value → O0, TypeId → VV, Calls → VY, maxLen → Wo, Ending → WC, callFunc → XP
open _root_.Go.Addr.mk renaming injEq → W1
open _root_.Go.IntWalk renaming wrap64_in → Xf
open _root_.Go.RowKit renaming Below → VP
open _root_.Go.RowKit.Below renaming refl → VK
open _root_.Go.Value renaming int → Wp, oneCell' → WB, slice → WM
open _root_.Go.World renaming ownsRow_nil → VZ, block_lt_of_cell? → Wa
open _root_.Iff renaming rfl → Yl
open _root_.Int renaming le_refl → WD
open _root_.List renaming getElem?_cons_zero → Ft, getElem?_toArray → Hi, getElem?_eq_getElem → L1, getElem?_cons_succ → N2, mem_of_getElem? → S2, mem_cons_self → VH, mem_cons_of_mem → VI, flatMap_cons → VM, prefix_refl → VQ, length_append → VS, findIdx?_eq_some_iff_getElem → VU, mem_singleton → VW, take_add_one → VX, take_of_length_le → V0, getElem?_map → V8, length_map → We, getElem?_append_left → Wg, range' → Wh, getElem?_append_right → Wk, length_cons → Wl, findIdx?_eq_none_iff → Wn, getElem_mem → Wv, mem_of_mem_take → Wy, length_take → WA, map_cons → WH, length_filter_le → WL, foldl_append → WQ, pairwise_map → W8, map_append → Xd, take_length → Xe, drop_drop → Xk, mem_take_iff_getElem → Xw, mem_of_find?_eq_some → Xx, drop_eq_getElem_cons → Xy, mem_range'_1 → Xz, filter_congr → XA, mem_of_mem_eraseIdx → XF, take_zero → XM, not_mem_nil → XX, any_eq_true → XZ, mem_cons → X4, filter_sublist → Ya, filter_append → Yg, eraseIdx_eq_take_drop_succ → Yp, filter_cons_of_pos → Y2, filter_cons_of_neg → Y3
open _root_.List.Nodup renaming length_le_of_subset → WI
open _root_.List.Pairwise renaming filter → X6, nil → Yk
open _root_.List.Sublist renaming refl → XC
open _root_.Nat renaming le_refl → K0, lt_of_lt_of_le → VL, zero_le → VN, le_trans → VO, zero_add → Wx, add_sub_cancel → Xi, le_of_lt → Yi
open _root_.Option renaming some → Bs, none → B0, map_some → WK
open _root_.Option.some renaming injEq → VR, inj → WR
variable {u z:Array O0} {x':Bm} {b ok β:Bool} {a o tx:Int} {f:Int->Option Int} {v:Ko} {K:Kp} {v':Kr} {l':List (Sx×Int)} {L':List AS} {gs:List Ak} {ms:List Ms} {ks:List Nat} {ps:List Pr} {m x:Ms} {g i j k s:Nat} {p:Nat->Bool} {gn:Nat->Nat} {S:Nat->Prop} {d:Nd} {A:Option Addr} {c:Option Nat} {T T':Tb} {Z Z':Tg->Prop} {C V V' l:O0} {W w:D0}
set_option linter.all false
set_option maxRecDepth 100000
set_option maxHeartbeats 16000000
section
variable {w w' w2:D0} {own own':Ah} {i g:Nat} {v:Ko} {t:Bl}
def Co.aW (h:Co w own i g v t):v.Vw.ownBlock≠Bs g/\v.Vx.ownBlock≠Bs g/\v.bs≠g/\v.bp≠g/\v.Vw.ownBlock≠Bs v.bs/\v.Vw.ownBlock≠Bs v.bp/\v.Vx.ownBlock≠Bs v.bs/\v.Vx.ownBlock≠Bs v.bp:=
 ⟨Bh h.ad h.ak (by decide),Bh h.aj h.ak (by decide),h.ae.aB h.ak,h.places.aB h.ak,h.ae.aL h.ad,h.places.aL h.ad,h.ae.aL h.aj,h.places.aL h.aj⟩
def Co.cf (h:Co w own i g v t) {t':Bl} {v':Ko} (a:Ae w' g 78 (Om v' i t')) (c:Fr (fun k=>k=g) w w') (m:v'.Vw=v.Vw) (f:v'.bs=v.bs) (d:v'.bp=v.bp) (l:v'.Vx=v.Vx) (y:t'.ad=t.ad) (x:t'.ae=t.ae) (u:t'.places=t.places) (r:t'.aj=t.aj) :
  Co w' own i g v' t':=by
 obtain⟨q,n2,p,o,_⟩:=h.aW;refine⟨a,?_,?_,?_,?_,by rw[f,d];exact h.ne,h.gt,by rw[m];exact h.wt,by rw[f];exact h.st,by rw[d];exact h.pt,by rw[l];exact h.xt⟩
 ·rw[m,y];exact c.own h.ad (fun b a e=>q (by rw[a,e]))
 ·rw[f,x];exact h.ae.fr c p
 ·rw[d,u];exact h.places.fr c o
 ·rw[l,r];exact c.own h.aj (fun b a e=>n2 (by rw[a,e]))
def Co.setState (h:Co w own i g v t) (s:Int):Co (w.setCell ⟨g,1,B0⟩ (.int .i64 s)) own i g v { t with state:=s }:=
 h.cf (h.ak.aH 1 _) (Fr.a6 g w 1 _) rfl rfl rfl rfl rfl rfl rfl rfl
def Co.cn (h:Co w own i g v t) (s:Int):Co (w.setCell ⟨g,5,B0⟩ (.int .i64 s)) own i g v { t with ag:=s }:=
 h.cf (h.ak.aH 5 _) (Fr.a6 g w 5 _) rfl rfl rfl rfl rfl rfl rfl rfl
def Co.bU (h:Co w own i g v t) (f:Ext own own' w.heap.size) (m:Fr (fun k=>v.Vx.ownBlock=Bs k\/w.heap.size<=k) w w2) (o:w2.ownsRow 0 129 2 V' l'.length (l'.flatMap D7)) (y:∀ b,V'.ownBlock=Bs b->own' b=Bs (.tx i)) :
  Co (w2.setCell ⟨g,8,B0⟩ V') own' i g { v with Vx:=V' } { t with aj:=l' }:=by
 obtain⟨x,n2,u,r,B,A,q,p⟩:=h.aW;have d:∀ {b},b<w.heap.size->v.Vx.ownBlock≠Bs b->¬(v.Vx.ownBlock=Bs b\/w.heap.size<=b):=fun c z hs=>hs.elim z (by omega)
 have l:Ae w2 g 78 (Om v i t):=m.ak h.ak (d h.ak.lt n2);have a:=Fr.a6 g w2 8 V';refine⟨l.aH 8 V',?_,?_,?_,a.own o (fun b c e=>Bh o l (by decide) (by rw[c,e])),h.ne,(f _ h.ak.lt).trans h.gt,fun b c=>(f _ (h.ad.lt b c).2).trans (h.wt b c),h.st.imp (fun e=>(f _ h.ae.lt).trans e) (fun e=>(f _ h.ae.lt).trans e),(f _ h.places.lt).trans h.pt,y⟩
 ·exact a.own (m.own h.ad (fun b c=>d (h.ad.lt b c).2 (fun e=>ES h.ad h.aj (by decide) c e))) (fun b c e=>x (by rw[c,e]))
 ·exact(h.ae.fr m (d h.ae.lt q)).fr a u
 ·exact(h.places.fr m (d h.places.lt p)).fr a r
def Co.cS (h:Co w own i g v t) {l':List Pr} (f:Ext own own' w.heap.size) (m:Fr (fun k=>v.Vw.ownBlock=Bs k\/w.heap.size<=k) w w2) (o:w2.ownsRow 0 45 3 V' l'.length (l'.flatMap CR)) (y:∀ b,V'.ownBlock=Bs b->own' b=Bs (.tx i)) :
  Co (w2.setCell ⟨g,2,B0⟩ V') own' i g { v with Vw:=V' } { t with ad:=l' }:=by
 obtain⟨x,n2,u,r,q,p,B,A⟩:=h.aW;have d:∀ {b},b<w.heap.size->v.Vw.ownBlock≠Bs b->¬(v.Vw.ownBlock=Bs b\/w.heap.size<=b):=fun c z hs=>hs.elim z (by omega)
 have l:Ae w2 g 78 (Om v i t):=m.ak h.ak (d h.ak.lt x);have a:=Fr.a6 g w2 2 V';refine⟨l.aH 2 V',a.own o (fun b c e=>Bh o l (by decide) (by rw[c,e])),?_,?_,?_,h.ne,(f _ h.ak.lt).trans h.gt,y,h.st.imp (fun e=>(f _ h.ae.lt).trans e) (fun e=>(f _ h.ae.lt).trans e),(f _ h.places.lt).trans h.pt,fun b c=>(f _ (h.aj.lt b c).2).trans (h.xt b c)⟩
 ·exact(h.ae.fr m (d h.ae.lt q)).fr a u
 ·exact(h.places.fr m (d h.places.lt p)).fr a r
 ·exact a.own (m.own h.aj (fun b c=>d (h.aj.lt b c).2 (fun e=>ES h.aj h.ad (by decide) c e))) (fun b c e=>n2 (by rw[c,e]))
def Co.cg (h:Co w own i g v t) {d:Int->Option Int} (a:Fr (fun k=>k=v.bs) w w2) (o:Ab BC w2 v.bs 100 (CT d)):Co w2 own i g v { t with ae:=d }:=by
 obtain⟨u,n2,m,r,l,q,f,p⟩:=h.aW;exact⟨a.ak h.ak (fun e=>m e.symm),a.own h.ad (fun b c e=>l (by rw[c,e])),o,h.places.fr a (fun e=>h.ne e.symm),a.own h.aj (fun b c e=>f (by rw[c,e])),h.ne,h.gt,h.wt,h.st,h.pt,h.xt⟩
def Co.cj (h:Co w own i g v t) {d:Int->Option Int} (a:Fr (fun k=>k=v.bp) w w2) (o:Ab BC w2 v.bp 100 (CT d)):Co w2 own i g v { t with places:=d }:=by
 obtain⟨u,n2,r,m,q,l,p,f⟩:=h.aW;exact⟨a.ak h.ak (fun e=>m e.symm),a.own h.ad (fun b c e=>l (by rw[c,e])),h.ae.fr a h.ne,o,a.own h.aj (fun b c e=>f (by rw[c,e])),h.ne,h.gt,h.wt,h.st,h.pt,h.xt⟩
def qcq (f:Int->Option Int) (k e:Int):AU (CT f) k (Bs (.int .i64 e))=CT (AO f k e):=by
 funext j;unfold AU CT AO;split <;> rfl
def BY.bW {base a:Nat} {o:VV} {c:Array O0} {m:Option Nat} {f:Sx->O0} {d:Int} (h:BY w base k g a o z m f K d) (r:Fr S w w') (q:∀ b,Dl m f K b->¬S b) (l:Ae w' g o c) (y:c[a]? = Bs (.map m)) (u:c[a+1]? = Bs (.int .i64 d)) :
  BY w' base k g a o c m f K d:=
 ⟨l,y,u,h.ne,h.map.fr r (fun b l=>q b (.inl l)),fun x p=>(h.rows x p).fr r (fun b l=>q b (.inr ⟨x,p,l⟩)),h.apart,h.small,h.times,h.sorted,h.len,h.cU,h.dj,h.cN,h.lo⟩
def AB.bW {base a:Nat} {m:VV} {d:Array O0} {l:Option Nat} {c:Sx->Ar} (h:AB w base k g a m u l c T) (o:Fr S w w') (q:∀ b,AE l c T b->¬S b) (f:Ae w' g m d) (r:d[a]? = Bs (.map l)) :
  AB w' base k g a m d l c T:=
 ⟨f,r,h.map.fr o (fun b f=>q b (.inl f)),fun x k p=>(h.keys x k p).fr o (fun b f=>q b (.inr ⟨x,by rw[p];simp,f⟩)),h.apart,h.small,h.ne,h.cN,h.cd,VO h.bg o.size⟩
def DP.cf {n:Nat} {v:Nt} {x:Bm} (h:DP w own n s g gn v x) (c:Ae w' g 105 (FG v x')) (d:Fr (fun k=>k=g) w w') (q:x'.ao=x.ao) (l:x'.tab=x.tab) (f:x'.sto=x.sto):DP w' own n s g gn v x':=by
 have a:=h.gt;have p:∀ b,AE v.mt v.dp x.tab b->¬b=g:=fun b c e=>by have:=h.b5 b c;rw[e,a] at this;cases this
 have n2:∀ b,Dl v.ms v.dq x.sto b->¬b=g:=fun b c e=>by have:=h.bF b c;rw[e,a] at this;cases this
 have o:¬v.bd=g:=fun e=>by have:=h.cI;rw[e,a] at this;cases this
 have m:∀ b,v.Vn.ownBlock=Bs b->¬b=g:=fun b c e=>by have:=h.b6 b c;rw[e,a] at this;cases this
 exact⟨d.own h.row m,h.b6,by rw[q];exact h.dd.fr d o,h.cI,by rw[l];exact h.tab.bW d p c rfl,by rw[l];exact h.b5,by rw[f];exact h.sto.bW d n2 c rfl rfl,by rw[f];exact h.bF,a⟩
def DP.bQ {n:Nat} {v:Nt} {x:Bm} (h:DP w own n s g gn v x) (d:Nat):DP (w.setCell ⟨g,7,B0⟩ (.int .i64 d)) own n s g gn v { x with done:=d }:=
 h.cf (h.tab.ak.aH 7 _) (Fr.a6 g w 7 _) rfl rfl rfl
end
def wnV (x:Sx×Int):O0:=.agg #[.string ⟨x.1.toArray⟩,.int .i64 x.2]
def U9:∀ (l:List (Sx×Int)) (j:Nat) (x:Sx×Int),l[j]? = Bs x->∀ i,i<2->(l.flatMap D7)[j*2+i]? = (D7 x)[i]?
 | [],j,p,h,i,a=>by simp at h
 | q::l,0,p,h,i,a=>by
  simp at h;subst h;rw[VM,Wg (by show _<2;omega)];simp
 | q::l,j+1,p,h,i,a=>by
  have d:l[j]? = Bs p:=by simpa using h
  have e:(j+1)*2+i=(j*2+i)+2:=by omega
  have c:(D7 q).length=2:=rfl;rw[e,VM,Wk (by rw[c];omega),c,Xi];exact U9 l j p d i a
def nCells (w:D0) (g o:Nat) (x:Sx×Int):Prop:=w.cell? ⟨g,o,B0⟩=Bs (.string ⟨x.1.toArray⟩)/\w.cell? ⟨g,o+1,B0⟩=Bs (.int .i64 x.2)
def nat {B n:Nat} {l:List (Sx×Int)} (h:Rd w B 2 A n (l.flatMap D7)) (hl:l.length=n) (o:j<n):∃ g a x,A=Bs ⟨g,a,B0⟩/\g<B/\l[j]? = Bs x/\nCells w g (a+j*2) x:=by
 obtain⟨g,a,e,m,f⟩:=h.2 (by omega);have c:l[j]? = Bs l[j]:=L1 (by omega);have d:=U9 l j _ c;exact⟨g,a,l[j],e,m,c,f (j*2) _ (d 0 (by omega)),f (j*2+1) _ (d 1 (by omega))⟩
def DV (F:Nat) (lb:Array O0) (p:Sx×Int->Bool) (g:Option Nat) (w:D0):Prop:=
 ∀ (W:D0) (x:Sx×Int),Fr (fun k=>g=Bs k) w W->VY Tryz.prog F (#[wnV x]++lb) W fun e w'=>e=.returned (.bool (p x))/\VP W.heap.size W w'
def CH (p:Sx×Int->Bool) (L:List (Sx×Int)):Int:=match L.findIdx? p with|some i=>(i:Int)|none=>-1
def Rm (p:Sx×Int->Bool) (L:List (Sx×Int)):decide (0<=CH p L)=L.any p:=by
 unfold CH;rcases h:L.findIdx? p with _|i
 ·rw[Wn] at h;have:L.any p=Jx:=by rw[List.any_eq_false];intro x a;simp[h x a]
  rw[this];rfl
 ·rw[VU] at h;obtain⟨hl,c,_⟩:=h;have:L.any p=VJ:=by rw[XZ];exact⟨L[i],Wv hl,c⟩
  rw[this];simp
def TQ (p:Sx×Int->Bool) (L:List (Sx×Int)):-1<=CH p L/\CH p L<=L.length:=by
 unfold CH;rcases h:L.findIdx? p with _|i
 ·simp only;omega
 ·rw[VU] at h;obtain⟨hl,a,_⟩:=h;simp only;omega
def nIRel (p:Sx×Int->Bool) (L:List (Sx×Int)) (n:Nat) (w:D0) (v:O0) (wr:D0):Prop:=∃ j:Nat,v=.int .i64 j/\j<=n/\(∀ x∈L.take j,p x=Jx)/\VP w.heap.size w wr
def TN {g:Option Nat} (a:VP w.heap.size w W):Fr (fun k=>g=Bs k) w W:=⟨a.os,a.tape,a.output,a.size,fun k c _=>a.block k c⟩
def q7y (F:Nat) (lb:Array O0) (p:Sx×Int->Bool) (N:Option Nat) (A:Option Addr) (n k:Nat) (L:List (Sx×Int)) (w:D0) (eg:∀ args w,(XP F args).run Tryz.prog w=.ok (.enter F args) w)
  (d:DV F lb p N w) (J:Rd w w.heap.size 2 A n (L.flatMap D7)) (hl:L.length=n) (V:n<=100000) :
  VY Tryz.prog 84 #[.slice A n k,.func (.func F) #[] lb] w fun e w'=>e=.returned (.int .i64 (CH p L))/\VP w.heap.size w w':=by
 have Q:=LH J;clear J;have R:=LH d;clear d;go_enter Tryz.func84,Tryz.ntmps84;go_wp2_with fail;go_loopw [8] (nIRel p L n w) (fun v _=>n-(intOf v).toNat)
 case atStart=>exact⟨0,rfl,VN _,(fun x q=>by simp at q),VK _ _⟩
 case round=>
  obtain⟨j,rfl,W,f,c⟩:=hrel;by_cases K:(j:Int)<n
  ·obtain⟨O,U,x,rfl,I,q,Z,Y⟩:=nat (Q.o.below c) hl (j:=j) (by omega);have M:O<wr.heap.size:=VL I c.size;have a:=R.o wr x (TN c);have C:j<L.length:=by omega
   have o:p x=VJ->CH p L=j:=fun d=>by
    have:L.findIdx? p=Bs j:=by
     rw[VU];refine⟨C,?_,fun i X=>?_⟩
     ·rw[<- WR ((L1 C).symm.trans q)] at d;exact d
     ·simp only[X2];exact f _ (by rw[Xw];exact⟨i,by omega,rfl⟩)
    unfold CH;rw[this]
   have h:p x=Jx->∀ y∈L.take (j+1),p y=Jx:=fun d y r=>by
    rw[VX,q] at r;rcases List.mem_append.1 r with r|r
    ·exact f y r
    ·simp at r;rw[r];exact d
   have E:=LH o;clear o;have u:=LH h;clear h;have S:=LH f;clear f;have HX:=LH q;clear q;unfold wnV at a;rcases d:p x with _|_
   ·rw[d] at a;have z:=LH d;clear d;have G:=LH a;clear a;go_wp2_with fail;refine G.o.mono ?_;rintro e w2 ⟨rfl,m⟩;clear G;have B:=LH (c.trans (m.mono c.size));clear m;go_wp2_with fail;go_roundw
    case rel=>exact⟨j+1,rfl,by omega,u.o z.o,B.o⟩
    case measure=>simp[intOf];omega
   ·rw[d] at a;have z:=LH d;clear d;have G:=LH a;clear a;go_wp2_with fail;refine G.o.mono ?_;rintro e w2 ⟨rfl,m⟩;clear G;have B:=LH (c.trans (m.mono c.size));clear m;go_wp2_with fail;go_ret;exact⟨by rw[E.o z.o];rfl,B.o⟩
  ·obtain rfl:j=n:=by omega
   have l:CH p L = -1:=by
    have:L.findIdx? p=B0:=by
     rw[Wn];intro x q;exact f x (by rw[V0 (by omega)];exact q)
    unfold CH;rw[this]
   have T:=LH l;clear l f;go_wp2_with fail;go_ret;rw[T.o];exact⟨rfl,c⟩
def q74 (F:Nat) (lb:Array O0) (p:Sx×Int->Bool) (m:Option Nat) (A:Option Addr) (n k:Nat) (L:List (Sx×Int)) (w:D0) (r:∀ args w,(XP F args).run Tryz.prog w=.ok (.enter F args) w)
  (h:DV F lb p m w) (f:Rd w w.heap.size 2 A n (L.flatMap D7)) (hl:L.length=n) (o:n<=100000) :
  VY Tryz.prog 62 #[.slice A n k,.func (.func F) #[] lb] w fun e w'=>e=.returned (.bool (L.any p))/\VP w.heap.size w w':=by
 have a:=q7y F lb p m A n k L w r h f hl o;have l:=Rm p L;have d:=LH a;clear a h f;have u:=LH l;clear l;have q:=TQ p L;generalize CH p L=z at *;go_enter Tryz.func62,Tryz.ntmps62;go_wp2_with fail;refine d.o.mono ?_;rintro e w2 ⟨rfl,c⟩;go_wp2_with fail;go_ret;rw[<- u.o];exact⟨rfl,c⟩
def MY (w:D0) (g o:Nat) (x:Sx×Int):D0:=(w.setCell ⟨g,o,B0⟩ (.string ⟨x.1.toArray⟩)).setCell ⟨g,o+1,B0⟩ (.int .i64 x.2)
def Rf (w:D0) (g o:Nat) (x:Sx×Int):Fr (fun i=>i=g) w (MY w g o x):=
 ((Fr.refl (fun i=>i=g) w).setCell (p:=⟨g,o,B0⟩) (.inl rfl) _).setCell (p:=⟨g,o+1,B0⟩) (.inl rfl) _
def nset:∀ (M:List (Sx×Int)) (i:Nat) (x:Sx×Int),i<M.length->(((M.flatMap D7).set (i*2) (.string ⟨x.1.toArray⟩)).set (i*2+1) (.int .i64 x.2))=(M.set i x).flatMap D7
 | [],i,x,h=>by simp at h
 | y::M,0,x,_=>by simp[D7]
 | y::M,i+1,x,h=>by
  have a:=nset M i x (by simpa using h);have c:(i+1)*2=i*2+2:=by omega
  rw[c,List.set_cons_succ,VM,VM,<- a];simp[D7,Nat.add_right_comm]
def Oz {base n cap:Nat} {M:List (Sx×Int)} (h:w.ownsRow base 129 2 (.slice (Bs ⟨g,0,B0⟩) n cap) n (M.flatMap D7)) (x:Sx×Int) (a:i<M.length) :
  (MY w g (i*2) x).ownsRow base 129 2 (.slice (Bs ⟨g,0,B0⟩) n cap) n ((M.set i x).flatMap D7):=by
 rw[<- nset M i x a];exact((h.stored _ _).1.stored _ _).1
def ntake' (L:List (Sx×Int)) (i:Nat):(L.flatMap D7).take (i*2)=(L.take i).flatMap D7:=by
 induction L generalizing i with
 | nil=>simp
 | cons x L a=>
  cases i with
  | zero=>simp
  | succ i=>rw[show(i+1)*2=i*2+2 by omega,VM,List.take_succ_cons,VM,<- a];simp[D7]
def Ce (p:Sx×Int->Bool) (L:List (Sx×Int)):List (Sx×Int):=L.filter fun x=>!p x
def MZ (base a n cap:Nat) (p:Sx×Int->Bool) (L:List (Sx×Int)) (w:D0) (u v:O0) (wr:D0):Prop:=
 ∃ (i j:Nat) (M:List (Sx×Int)),u=.int .i64 i/\v=.int .i64 j/\i<j/\j<=n/\M.length=n/\M.take i=Ce p (L.take j)/\M.drop j=L.drop j/\wr.ownsRow base 129 2 (.slice (Bs ⟨a,0,B0⟩) n cap) n (M.flatMap D7)/\Fr (fun k=>Bs a=Bs k) w wr
def Ep (base a cap:Nat) (n:Nat) (l:List (Sx×Int)) (w:D0) (e:WC) (w':D0):Prop:=
 e=.returned (.slice (Bs ⟨a,0,B0⟩) l.length cap)/\w'.ownsRow base 129 2 (.slice (Bs ⟨a,0,B0⟩) l.length cap) l.length (l.flatMap D7)/\Fr (fun k=>Bs a=Bs k) w w'/\l.length<=n
def q9v {p:Sx×Int->Bool} {L:List (Sx×Int)} {x:Sx×Int} (h:L[j]? = Bs x):Ce p (L.take (j+1))=if p x then Ce p (L.take j) else Ce p (L.take j)++[x]:=by
 unfold Ce;rw[VX,h,Yg];rcases a:p x with _|_ <;> simp[a]
def Lm {p:Sx×Int->Bool} {L:List (Sx×Int)} (h:CH p L=i):i<L.length/\L.take i=Ce p (L.take (i+1)):=by
 unfold CH at h;rcases a:L.findIdx? p with _|j
 ·rw[a] at h;simp only at h;omega
 ·rw[a] at h;have e:j=i:=by have m:(j:Int)=i:=h;omega
  subst e;rw[VU] at a;obtain⟨hl,f,d⟩:=a;refine⟨hl,?_⟩;rw[q9v (L1 hl),if_pos f];unfold Ce;rw[List.filter_eq_self.2];intro x c;obtain⟨k,l,rfl⟩:=List.mem_take_iff_getElem.1 c;have:=d k (by omega);simpa using this
def Re {p:Sx×Int->Bool} {L:List (Sx×Int)} (h:CH p L = -1):Ce p L=L:=by
 unfold CH at h;rcases a:L.findIdx? p with _|j
 ·unfold Ce;rw[List.filter_eq_self.2];intro x c;rw[Wn] at a;have:=a x c;simpa using this
 ·rw[a] at h;simp only at h;omega
def Lp (p:Sx×Int->Bool) (L:List (Sx×Int)):CH p L = -1\/∃ i:Nat,CH p L=i:=by
 unfold CH;split
 ·exact .inr ⟨_,rfl⟩
 ·exact .inl rfl
def nzero (w:D0):(zeroValue 129).run Tryz.prog w=.ok (.agg #[.string ⟨#[]⟩,.int .i64 0]) w:=by kernel_rfl
def Ri:Tryz.prog.elem 76=129:=by kernel_rfl
def U7 (w:D0):(sizeOf 129).run Tryz.prog w=.ok 2 w:=by kernel_rfl
def nund:Tryz.prog.underlying 76=Bs (.slice 129):=Tryz.underlying76
def nfrB {B:Nat} {w':D0} (h:VP B w w'):Fr (fun k=>B<=k) w w':=⟨h.os,h.tape,h.output,h.size,fun k _ a=>h.block k (by omega)⟩
def G4 (F:Nat) (lb:Array O0) (p:Sx×Int->Bool) (base o n cap:Nat) (L:List (Sx×Int)) (w:D0) (eg:∀ args w,(XP F args).run Tryz.prog w=.ok (.enter F args) w) (N:DV F lb p (Bs o) w)
  (d:w.ownsRow base 129 2 (.slice (Bs ⟨o,0,B0⟩) n cap) n (L.flatMap D7)) (hl:L.length=n) (hn:n<=100000) :
  VY Tryz.prog 98 #[.slice (Bs ⟨o,0,B0⟩) n cap,.func (.func F) #[] lb] w (Ep base o cap n (Ce p L) w):=by
 have a5:=q7y F lb p (Bs o) (Bs ⟨o,0,B0⟩) n cap L w eg N (Rd.ay d) hl hn;have S:=LH a5;clear a5;have V:=LH d;clear d;have ag:=LH N;clear N;have HL:=LH hl;clear hl;rcases Lp p L with hf|⟨Z,hf⟩
 ·rw[hf] at S;go_enter Tryz.func98,Tryz.ntmps98;go_wp2_with fail;refine S.o.mono ?_;rintro e w1 ⟨rfl,B⟩;have q:Ep base o cap n (Ce p L) w (.returned (.slice (Bs ⟨o,0,B0⟩) n cap)) w1:=by
   rw[Re hf];unfold Ep;rw[HL.o];exact⟨rfl,MR V.o B,TN B,K0 _⟩
  have K:=LH q;clear q;go_wp2_with fail;go_ret;exact K.o
 ·rw[hf] at S;obtain⟨a6,a4⟩:=Lm hf;have a6:Z<n:=by have:=HL.o;omega
  have a2:((Z:Int) == -1)=Jx:=by rw[beq_eq_false_iff_ne];omega
  go_enter Tryz.func98,Tryz.ntmps98;go_wp2_with fail;refine S.o.mono ?_;rintro e w1 ⟨rfl,B⟩;have z:MZ base o n cap p L w (.int .i64 Z) (.int .i64 ((Z:Int)+1)) w1:=⟨Z,Z+1,L,rfl,rfl,by omega,by omega,HL.o,a4,rfl,MR V.o B,TN B⟩
  have ae:=LH z;clear z;clear hf a4;go_wp2_with fail;clear a2 a6 B;go_loopw [5,6] (MZ base o n cap p L w) (fun _ v _=>n-(intOf v).toNat)
  case atStart=>exact ae.o
  case round=>
   obtain⟨i,j,M,rfl,rfl,aj,hj,hM,C,Q,d,I⟩:=hrel;by_cases ai:(j:Int)<n
   ·have hx:M[j]? = L[j]?:=by
     have:=congrArg (fun l=>l[0]?) Q;simpa using this
    obtain⟨g',o',x,hA,al,a0,h0,h1⟩:=nat (Rd.ay d) hM (j:=j) (by omega);simp only[VR,W1,and_true] at hA;obtain⟨rfl,rfl⟩:=hA;rw[Wx] at h0 h1;have a1:L[j]? = Bs x:=hx▸a0;have O:Fr (fun _=>False) wr (wr.alloc (.cells #[.string ⟨x.1.toArray⟩,.int .i64 x.2] 129)):=(Fr.refl _ _).alloc _;have u:=ag.o (wr.alloc (.cells #[.string ⟨x.1.toArray⟩,.int .i64 x.2] 129)) x (I.trans' O (fun _ _ h=>h.elim));unfold wnV at u;have a7:Ae (wr.alloc (.cells #[.string ⟨x.1.toArray⟩,.int .i64 x.2] 129)) wr.heap.size 129 #[.string ⟨x.1.toArray⟩,.int .i64 x.2]:=Ae.new wr _ _;have E:=O.own d (fun _ _ h=>h);have HC:=LH u;clear u;have ad:=LH a7;clear a7;have af:=LH E;clear E;have ab:=LH (I.trans' O (fun _ _ h=>h.elim));clear I O;have a9:=LH C;clear C;have aa:=LH Q;clear Q;have a8:=LH a1;clear a1 hx a0;have HM:=LH hM;clear hM;go_wp2_with fail;refine HC.o.mono ?_;rintro e w2 ⟨rfl,Y⟩;have J:Fr (fun k=>Bs o=Bs k) w w2:=ab.o.trans' (nfrB Y) (fun i hi (h:_<=i)=>by have:=ab.o.size;simp at h this;omega);have a:=MR af.o Y;have R:Ae w2 wr.heap.size 129 #[.string ⟨x.1.toArray⟩,.int .i64 x.2]:=ad.o.below Y ad.o.lt;have ac:=LH J;clear J;rcases N:p x with _|_
    ·have r:=q9v (p:=p) a8.o;rw[N,if_neg (by simp)] at r;have X:i<M.length:=by rw[HM.o];omega
     have q0:=R.cell 0;have q1:=R.cell 1;simp only[Hi,N2,Ft] at q0 q1;obtain⟨g',o',y,hA,_,_,p0,p1⟩:=nat (Rd.ay a) HM.o (j:=i) (by omega);simp only[VR,W1,and_true] at hA;obtain⟨rfl,rfl⟩:=hA;rw[Wx] at p0 p1;have f0:=a.frozenAt (i*2);have f1:=a.frozenAt (i*2+1);have ak:o<w2.heap.size:=(a.lt o rfl).2;have T:=Oz a x X;have f:MZ base o n cap p L w (.int .i64 ((i:Int)+1)) (.int .i64 ((j:Int)+1)) (MY w2 o (i*2) x):=by
      refine⟨i+1,j+1,M.set i x,rfl,rfl,by omega,by omega,by rw[List.length_set];exact HM.o,?_,?_,T,ac.o.trans ((Rf w2 o (i*2) x).mono (fun i _ (e:i=o)=>by rw[e]))⟩
      ·rw[r,<- a9.o,VX,List.take_set,List.getElem?_set_self X,List.set_eq_of_length_le (by rw[WA];omega)];simp
      ·rw[List.drop_set_of_lt (by omega),<- Xk,aa.o,Xk]
     have A:=LH f;clear f T r X;have HP:=LH N;clear N;have an:=LH a;clear a;clear R h0 h1;unfold MY at A;go_wp2_with fail;go_roundw
     ·exact A.o
     ·simp[intOf];omega
    ·have r:=q9v (p:=p) a8.o;rw[N,if_pos rfl] at r;have f:MZ base o n cap p L w (.int .i64 i) (.int .i64 ((j:Int)+1)) w2:=
      ⟨i,j+1,M,rfl,rfl,by omega,by omega,HM.o,by rw[a9.o,r],by rw[<- Xk,aa.o,Xk],a,ac.o⟩
     have A:=LH f;clear f r a;have HP:=LH N;clear N R h0 h1;go_wp2_with fail;go_roundw
     ·exact A.o
     ·simp[intOf];omega
   ·obtain rfl:j=n:=by omega
    have ah:=(Tv d).1;have U:L.take j=L:=V0 (by have:=HL.o;omega);rw[U] at C;have a3:(Ce p L).length=i:=by rw[<- C,WA];omega
    have G:=q4w d (i:=i) (by omega);rw[ntake',C] at G;obtain⟨w2,am,a,J⟩:=q5b 76 (.agg #[.string ⟨#[]⟩,.int .i64 0]) nund nzero (by rfl) (by decide) G (m:=j-i) (c:=cap-i) (by omega);have s1:=q5a (size:=2) 76 (by rw[Ri];exact nund) (fun W=>by rw[Ri];exact U7 W) wr o j cap i (i:Int) rfl (by omega);have s2:=q3v 76 nund Ri U7 w2 o j cap i (i:Int) rfl (by omega);have q:Ep base o cap j (Ce p L) w (.returned (.slice (Bs ⟨o,0,B0⟩) i cap)) w2:=by
     unfold Ep;rw[a3];exact⟨rfl,a,I.trans (J.mono (fun i _ (e:i=o)=>by rw[e])),by omega⟩
    have K:=LH q;clear q a J G d C Q hM I a3 U;go_wp2_with fail;go_ret;exact K.o
def Jg (F:Nat) (lb:Array O0) (p:Sx×Int->Bool) (w:D0) (h:∀ args w,(XP F args).run Tryz.prog w=.ok (.enter F args) w) (f:DV F lb p B0 w) :
  VY Tryz.prog 98 #[.slice B0 0 0,.func (.func F) #[] lb] w fun e w'=>e=.returned (.slice B0 0 0)/\VP w.heap.size w w':=by
 have a:=q7y F lb p B0 B0 0 0 [] w h f (Rd.none_ _ _ _ _) rfl (by omega);rw[show CH p [] = -1 from rfl] at a;have d:=LH a;clear a;go_enter Tryz.func98,Tryz.ntmps98;go_wp2_with fail;refine d.o.mono ?_;rintro e m ⟨rfl,c⟩;have l:=LH c;clear c;go_wp2_with fail;go_ret;exact⟨rfl,l.o⟩
def Jh (F:Nat) (lb:Array O0) (p:Sx×Int->Bool) (base n:Nat) (V:O0) (L:List (Sx×Int)) (w:D0) (l:∀ args w,(XP F args).run Tryz.prog w=.ok (.enter F args) w) (f:DV F lb p V.ownBlock w)
  (a:w.ownsRow base 129 2 V n (L.flatMap D7)) (hl:L.length=n) (o:n<=100000) :
  VY Tryz.prog 98 #[V,.func (.func F) #[] lb] w fun e w'=>
   ∃ A c,e=.returned (.slice A (Ce p L).length c)/\w'.ownsRow base 129 2 (.slice A (Ce p L).length c) (Ce p L).length ((Ce p L).flatMap D7)/\Fr (fun k=>V.ownBlock=Bs k) w w'/\(WM A (Ce p L).length c).ownBlock=V.ownBlock:=by
 rcases a.2 with ⟨rfl,u⟩|⟨g,cap,r,rfl,_⟩
 ·have e:L=[]:=List.eq_nil_of_length_eq_zero (by omega);subst e;refine(Jg F lb p w l f).mono ?_;rintro e w' ⟨rfl,d⟩;exact⟨B0,0,rfl,VZ _ _ _ _,TN d,rfl⟩
 ·refine(G4 F lb p base g n cap L w l f a hl o).mono ?_;rintro e w' ⟨rfl,m,q,_⟩;exact⟨Bs ⟨g,0,B0⟩,cap,rfl,m,q.mono (fun i _ h=>h),rfl⟩
def crV (x:By):O0:=.agg #[.int .i64 x.c.ai,.int .i64 x.c.tx,.int .i64 x.c.ag,.slice x.A x.n x.k]
def Vd:∀ (l:List (By)) (j:Nat) (x:By),l[j]? = Bs x->∀ i,i<4->(l.flatMap DM)[j*4+i]? = (DM x)[i]?
 | [],j,p,h,i,a=>by simp at h
 | q::l,0,p,h,i,a=>by
  simp at h;subst h;rw[VM,Wg (by show _<4;omega)];simp
 | q::l,j+1,p,h,i,a=>by
  have d:l[j]? = Bs p:=by simpa using h
  have e:(j+1)*4+i=(j*4+i)+4:=by omega
  have c:(DM q).length=4:=rfl;rw[e,VM,Wk (by rw[c];omega),c,Xi];exact Vd l j p d i a
def mCells (w:D0) (g o:Nat) (x:By):Prop:=w.cell? ⟨g,o,B0⟩=Bs (.int .i64 x.c.ai)/\w.cell? ⟨g,o+1,B0⟩=Bs (.int .i64 x.c.tx)/\w.cell? ⟨g,o+2,B0⟩=Bs (.int .i64 x.c.ag)/\w.cell? ⟨g,o+3,B0⟩=Bs (.slice x.A x.n x.k)
def mat {B n:Nat} {l:List (By)} (h:Rd w B 4 A n (l.flatMap DM)) (hl:l.length=n) (o:j<n):∃ g a x,A=Bs ⟨g,a,B0⟩/\g<B/\l[j]? = Bs x/\mCells w g (a+j*4) x:=by
 obtain⟨g,a,e,m,d⟩:=h.2 (by omega);have f:l[j]? = Bs l[j]:=L1 (by omega);have c:=Vd l j _ f;exact⟨g,a,l[j],e,m,f,d (j*4) _ (c 0 (by omega)),d (j*4+1) _ (c 1 (by omega)),d (j*4+2) _ (c 2 (by omega)),d (j*4+3) _ (c 3 (by omega))⟩
def Ve (F:Nat) (lb:Array O0) (p:By->Bool) (g:Option Nat) (w:D0):Prop:=
 ∀ (W:D0) (x:By),Fr (fun k=>g=Bs k) w W->VY Tryz.prog F (#[crV x]++lb) W fun e w'=>e=.returned (.bool (p x))/\VP W.heap.size W w'
def Lx (p:By->Bool) (L:List (By)):Int:=match L.findIdx? p with|some i=>(i:Int)|none=>-1
def mIRel (p:By->Bool) (L:List (By)) (n:Nat) (w:D0) (v:O0) (wr:D0):Prop:=∃ j:Nat,v=.int .i64 j/\j<=n/\(∀ x∈L.take j,p x=Jx)/\VP w.heap.size w wr
def mbfr {g:Option Nat} (a:VP w.heap.size w W):Fr (fun k=>g=Bs k) w W:=⟨a.os,a.tape,a.output,a.size,fun k c _=>a.block k c⟩
def Lu (F:Nat) (lb:Array O0) (p:By->Bool) (N:Option Nat) (A:Option Addr) (n k:Nat) (L:List (By)) (w:D0) (eg:∀ args w,(XP F args).run Tryz.prog w=.ok (.enter F args) w)
  (d:Ve F lb p N w) (J:Rd w w.heap.size 4 A n (L.flatMap DM)) (hl:L.length=n) (V:n<=100000) :
  VY Tryz.prog 118 #[.slice A n k,.func (.func F) #[] lb] w fun e w'=>e=.returned (.int .i64 (Lx p L))/\VP w.heap.size w w':=by
 have Q:=LH J;clear J;have R:=LH d;clear d;go_enter Tryz.func118,Tryz.ntmps118;go_wp2_with fail;go_loopw [8] (mIRel p L n w) (fun v _=>n-(intOf v).toNat)
 case atStart=>exact⟨0,rfl,VN _,(fun x q=>by simp at q),VK _ _⟩
 case round=>
  obtain⟨j,rfl,W,f,c⟩:=hrel;by_cases K:(j:Int)<n
  ·obtain⟨O,U,x,rfl,I,q,h0,h1,Z,Y⟩:=mat (Q.o.below c) hl (j:=j) (by omega);have M:O<wr.heap.size:=VL I c.size;have a:=R.o wr x (mbfr c);have C:j<L.length:=by omega
   have o:p x=VJ->Lx p L=j:=fun d=>by
    have:L.findIdx? p=Bs j:=by
     rw[VU];refine⟨C,?_,fun i X=>?_⟩
     ·rw[<- WR ((L1 C).symm.trans q)] at d;exact d
     ·simp only[X2];exact f _ (by rw[Xw];exact⟨i,by omega,rfl⟩)
    unfold Lx;rw[this]
   have h:p x=Jx->∀ y∈L.take (j+1),p y=Jx:=fun d y r=>by
    rw[VX,q] at r;rcases List.mem_append.1 r with r|r
    ·exact f y r
    ·simp at r;rw[r];exact d
   have E:=LH o;clear o;have u:=LH h;clear h;have S:=LH f;clear f;have HX:=LH q;clear q;unfold crV at a;rcases d:p x with _|_
   ·rw[d] at a;have z:=LH d;clear d;have G:=LH a;clear a;go_wp2_with fail;refine G.o.mono ?_;rintro e w2 ⟨rfl,m⟩;clear G;have B:=LH (c.trans (m.mono c.size));clear m;go_wp2_with fail;go_roundw
    case rel=>exact⟨j+1,rfl,by omega,u.o z.o,B.o⟩
    case measure=>simp[intOf];omega
   ·rw[d] at a;have z:=LH d;clear d;have G:=LH a;clear a;go_wp2_with fail;refine G.o.mono ?_;rintro e w2 ⟨rfl,m⟩;clear G;have B:=LH (c.trans (m.mono c.size));clear m;go_wp2_with fail;go_ret;exact⟨by rw[E.o z.o];rfl,B.o⟩
  ·obtain rfl:j=n:=by omega
   have l:Lx p L = -1:=by
    have:L.findIdx? p=B0:=by
     rw[Wn];intro x q;exact f x (by rw[V0 (by omega)];exact q)
    unfold Lx;rw[this]
   have T:=LH l;clear l f;go_wp2_with fail;go_ret;rw[T.o];exact⟨rfl,c⟩
def q9p (l:List Cm) (kind id:Int):Int:=match place l kind id with|some i=>(i:Int)|none=>-1
def qac {α β:Type} (f:α->β) (p:β->Bool):∀ L:List α,(L.map f).findIdx? p=L.findIdx? fun x=>p (f x)
 | []=>rfl
 | x::L=>by rw[WH,List.findIdx?_cons,List.findIdx?_cons,qac f p L]
def Lw (L:List By) (kind id:Int):Lx (fun x=>JC kind id x.c) L=q9p (AM L) kind id:=by
 unfold Lx q9p place AM;rw[qac]
 all_goals (cases List.findIdx? (fun x:By=>JC kind id x.c) L <;> rfl)
def Li (h f:Nat) (kind id:Int) (g:Option Nat) (w:D0) (u:w.cell? ⟨h,0,B0⟩=Bs (.int .i64 kind)) (r:w.cell? ⟨f,0,B0⟩=Bs (.int .i64 id)) (q:g≠Bs h/\g≠Bs f) :
  Ve 119 #[.pointer (Bs ⟨h,0,B0⟩),.pointer (Bs ⟨f,0,B0⟩)] (fun x=>JC kind id x.c) g w:=by
 intro W x d;have c:=Wa w _ u;have a:=Wa w _ r;have C:=(d.cell (p:=⟨h,0,B0⟩) c (fun e=>q.1 e)).trans u;have B:=(d.cell (p:=⟨f,0,B0⟩) a (fun e=>q.2 e)).trans r;have A:h<W.heap.size:=VL c d.size;have z:f<W.heap.size:=VL a d.size;have l:=LH (fun o=>(VK W.heap.size W).alloc (K0 _) o);clear u r c a d q;unfold crV JC;by_cases m:x.c.ai=kind
 ·have y:(x.c.ai == kind)=VJ:=by simpa using m
  show VY _ _ #[_,_,_] _ fun e w'=>e=.returned (.bool (x.c.ai == kind && x.c.tx == id))/\VP W.heap.size W w'
  rw[y,YB];clear m;go_enter Tryz.func119,Tryz.ntmps119;go_wp2_with fail;go_ret;exact⟨rfl,l.o _⟩
 ·have y:(x.c.ai == kind)=Jx:=by simpa using m
  show VY _ _ #[_,_,_] _ fun e w'=>e=.returned (.bool (x.c.ai == kind && x.c.tx == id))/\VP W.heap.size W w'
  rw[y,Bool.false_and];clear m;go_enter Tryz.func119,Tryz.ntmps119;go_wp2_with fail;go_ret;exact⟨rfl,l.o _⟩
def q72 (base n:Nat) (V:O0) (L:List By) (kind id:Int) (w:D0) (d:w.ownsRow base 69 4 V n (L.flatMap DM)) (hl:L.length=n) (r:n<=100000) :
  VY Tryz.prog 93 #[V,.int .i64 kind,.int .i64 id] w fun e w'=>e=.returned (.int .i64 (q9p (AM L) kind id))/\VP w.heap.size w w':=by
 have h:VP w.heap.size w ((w.alloc (.cells #[.int .i64 kind] 3)).alloc (.cells #[.int .i64 id] 3)):=((VK _ _).alloc (K0 _) _).alloc (by simp) _;have q1:((w.alloc (.cells #[.int .i64 kind] 3)).alloc (.cells #[.int .i64 id] 3)).cell? ⟨w.heap.size,0,B0⟩=Bs (.int .i64 kind):=(((Ae.new w 3 #[.int .i64 kind]).alloc _).cell 0)
 have o:((w.alloc (.cells #[.int .i64 kind] 3)).alloc (.cells #[.int .i64 id] 3)).cell? ⟨w.heap.size+1,0,B0⟩=Bs (.int .i64 id):=by
  have:=(Ae.new (w.alloc (.cells #[.int .i64 kind] 3)) 3 #[.int .i64 id]).cell 0;simpa using this
 have a:=MR d h;obtain⟨A,c,rfl,_,u⟩:=AR d;have f:=Lu 119 #[.pointer (Bs ⟨w.heap.size,0,B0⟩),.pointer (Bs ⟨w.heap.size+1,0,B0⟩)] (fun x=>JC kind id x.c) B0 A n c L _ (Pw Tryz.func119 (by kernel_rfl) rfl) (Li w.heap.size (w.heap.size+1) kind id B0 _ q1 o ⟨by simp,by simp⟩) (Rd.ay a) hl r;rw[Lw] at f;have l:=LH f;clear f;have q:=LH h;clear h;clear q1 o d a u;go_enter Tryz.func93,Tryz.ntmps93;go_wp2_with fail;refine l.o.mono ?_;rintro e w2 ⟨rfl,p⟩;have m:=LH (q.o.trans (p.mono q.o.size));clear p;go_wp2_with fail;go_ret;exact⟨rfl,m.o⟩
section
variable {w w':D0} {own own':Ah} {P:Aq} {H:Hs}
def Co.cells {t:Bl} (h:Co w own i g v t):w.cell? ⟨g,0,B0⟩=Bs (.int .i64 i)/\w.cell? ⟨g,1,B0⟩=Bs (.int .i64 t.state)/\w.cell? ⟨g,2,B0⟩=Bs v.Vw/\w.cell? ⟨g,3,B0⟩=Bs (.map (Bs v.bs))/\w.cell? ⟨g,4,B0⟩=Bs (.map (Bs v.bp))/\w.cell? ⟨g,5,B0⟩=Bs (.int .i64 t.ag)/\w.cell? ⟨g,8,B0⟩=Bs v.Vx/\g<w.heap.size:=by
 have o:=h.ak.cell 0;have m:=h.ak.cell 1;have l:=h.ak.cell 2;have f:=h.ak.cell 3;have d:=h.ak.cell 4;have c:=h.ak.cell 5;have a:=h.ak.cell 8;unfold Om at o m l f d c a;simp only[Hi,Ft,N2] at o m l f d c a;exact⟨o,m,l,f,d,c,a,h.ak.lt⟩
def DP.cells {n:Nat} {v:Nt} {x:Bm} (h:DP w own n s g gn v x):w.cell? ⟨g,0,B0⟩=Bs v.Vn/\w.cell? ⟨g,1,B0⟩=Bs (.map (Bs v.bd))/\w.cell? ⟨g,2,B0⟩=Bs (.int .i64 x.aa)/\w.cell? ⟨g,3,B0⟩=Bs (.int .i64 x.size)/\w.cell? ⟨g,7,B0⟩=Bs (.int .i64 x.done)/\g<w.heap.size:=by
 have l:=h.tab.ak.cell 0;have f:=h.tab.ak.cell 1;have d:=h.tab.ak.cell 2;have c:=h.tab.ak.cell 3;have a:=h.tab.ak.cell 7;unfold FG at l f d c a;simp only[Hi,Ft,N2] at l f d c a;exact⟨l,f,d,c,a,h.tab.ak.lt⟩
def stateH (H:Hs) (id:Int):H.state id=if id<1\/H.m<id then 0 else(H.tx id.toNat).state:=rfl
def q4c (h:HI w own P H) (d:H.m<=1000) (id:Int):VY Tryz.prog 11 #[pw P.g,.int .i64 id] w fun e w'=>e=.returned (.int .i64 (H.state id))/\w=w':=by
 have a:=LH (q51 h d id);unfold DW at a;rw[stateH];by_cases b:id<1\/(H.m:Int)<id
 ·rw[if_pos b] at a ⊢;clear h b;unfold pw at *;go_enter Tryz.func11,Tryz.ntmps11;go_wp2_with fail;refine a.o.mono ?_;rintro e w2 ⟨rfl,rfl⟩;go_wp2_with fail;go_ret;exact⟨rfl,rfl⟩
 ·rw[if_neg b] at a ⊢;obtain⟨v,c⟩:=h.tx id.toNat (by omega) (by omega);obtain⟨_,l,_,_,_,_,_,f⟩:=c.cells;clear h b c;unfold pw at *;go_enter Tryz.func11,Tryz.ntmps11;go_wp2_with fail;refine a.o.mono ?_;rintro e w2 ⟨rfl,rfl⟩;go_wp2_with fail;go_ret;exact⟨rfl,rfl⟩
def q7b (h:HI w own P H):VY Tryz.prog 27 #[pw P.g] w fun e w'=>e=.returned (.int .i64 H.net.l.length)/\w=w':=by
 obtain⟨v,h⟩:=h.hs;have a:=LH (Jn _ _ _ _ _ _ _ _ _ _ _ _ h.nt);have hl:H.net.l.length=v.L.length:=by rw[<- h.msgs];simp[AF]
 rw[hl];have c:=h.nt.ak.lt;clear h hl;unfold pw;go_enter Tryz.func27,Tryz.ntmps27;go_wp2_with fail;refine a.o.mono ?_;rintro e w2 ⟨rfl,rfl⟩;go_wp2_with fail;go_ret;exact⟨rfl,rfl⟩
end
def I6:(Tryz.prog.info? 108).map (fun i=>(i.zero,i.size,i.bytes))=Bs (Bs (.pointer B0),1,8):=by kernel_rfl
def DD (P:Aq) (n s:Nat) (x:Bm) (w:D0) (e:WC) (w':D0):Prop:=∃ V,e=.returned V/\w'.ownsRow w.heap.size 108 1 V (x.ah n).length ((x.ah n).map fun j=>pw (P.gn s j))/\VP w.heap.size w w'
def Sn (P:Aq) (n s:Nat) (x:Bm) (w:D0) (c a:O0) (wr:D0):Prop:=∃ i:Nat,a=.int .i64 i/\i<=n/\wr.ownsRow w.heap.size 108 1 c (x.ah i).length ((x.ah i).map fun j=>pw (P.gn s j))/\VP w.heap.size w wr
def Jt (x:Bm) (i:Nat):x.ah (i+1)=if x.ao (x.nd i).id then x.ah i else x.ah i++[i]:=by
 unfold Bm.ah;rw[List.range_succ,Yg];cases h:x.ao (x.nd i).id <;> simp[h]
def U3 (x:Bm) (i:Nat):(x.ah i).length<=i:=by unfold Bm.ah;exact VO (WL _ _) (by simp)
section
variable {w w':D0} {own own':Ah} {P:Aq} {H:Hs}
def Js (h:HI w own P H) (hs:s<H.c) (hn:H.n<=100) (O:∀ j,j<H.n->EW ((H.sh s).nd j).id) :
  VY Tryz.prog 43 #[pw (P.gs s)] w (DD P H.n s (H.sh s) w):=by
 obtain⟨v,K⟩:=h.sh s hs;obtain⟨c0,_,_,_,_,gl⟩:=K.cells;obtain⟨A,c,W,_,_⟩:=AR K.row;rw[W] at c0;have HR:=LH (Rd.ay (W▸K.row));clear W;have HH:=LH h;have X:=LH K;have Y:=LH O;clear h K O;unfold pw at *;go_enter Tryz.func43,Tryz.ntmps43;go_wp2_with fail;go_loopw [3,11] (Sn P H.n s (H.sh s) w) (fun _ u _=>H.n-(intOf u).toNat)
 case atStart=>exact⟨0,rfl,VN _,VZ _ _ _ _,VK _ _⟩
 case round=>
  obtain⟨i,rfl,hi,d,l⟩:=hrel;by_cases a2:(i:Int)<H.n
  ·have m:i<H.n:=by omega
   obtain⟨r,o,u,hA,hr,S,hc⟩:=(HR.o.below l).ck (k:=i) m;rw[V8,List.getElem?_range m] at S;simp only[WK,VR] at S;subst S hA;have a1:r<wr.heap.size:=VL hr l.size;have E:=HH.o.below l;obtain⟨C,V,L,hN,_⟩:=E.nd s i hs m;have HQ:=LH (fun q=>(LP (hN.aC (Ck (VK wr.heap.size wr) q))).mono fun e w' (h:e=_/\wr.drewN q=w')=>(⟨h.1,h.2.symm⟩:e=.returned (.int .i64 ((H.sh s).nd i).id)/\w'=wr.drewN q));have k1:=E.sh s hs;have z:=X.o.aP (q68 own l) (Ext.refl own w.heap.size) (fun _ _ h=>h);obtain⟨_,k1,_,_,_,a3⟩:=z.cells;have U:=fun q=>(show Bq (wr.drewN q) 100 (Bs v.bd) (H.sh s).ao from z.dd).look (Y.o i m)
   have f:=Jt (H.sh s) i;have T:=U3 (H.sh s) i;have Z:=LH l;clear l;have HO:=LH d;clear d;have p:=LH f;clear f;clear E z hN;go_upto_region 5 with (fail)
   go_quiet ((go_at_call 74;exact Calls.quiet_of_same (HQ.o _)));generalize J:wr.drewN _=w5;have B:VP wr.heap.size wr w5:=J▸Ck (VK _ _) _;have Q:=MR HO.o B;have R:=Z.o.trans (B.mono Z.o.size);have I:=LH Q;clear Q;have x:=LH R;clear R B J U k1 HQ HO Z;rcases hd:(H.sh s).ao ((H.sh s).nd i).id with _|_
   ·rw[hd] at p;have a0:=T;go_wp2_with (at_builtin;refine stop ?_)
    refine Df ?_;refine PD w5 _ rfl (.tmp 23) (.tmp 25) 97 rfl w.heap.size 108 (.pointer B0) 1 8 Tryz.underlying97 I6 rfl (by decide) _ _ _ #[.pointer (Bs ⟨P.gn s i,0,B0⟩)] rfl I.o 1 rfl _ rfl rfl (by simp[WB]) (by unfold Wo;omega) (by omega) x.o.size ?_;intro v' w9 M N;have a:Sn P H.n s (H.sh s) w v' (.int .i64 ((i+1:Nat):Int)) w9:=by
     refine⟨i+1,rfl,by omega,?_,x.o.trans (N.below (fun b l=>(I.o.lt b l).1) x.o.size)⟩;rw[p.o,if_neg (by simp),VS,Xd];exact M
    have G:=LH a;clear a M N;go_wp2_with fail;go_roundw
    ·exact G.o
    ·simp[intOf];omega
   ·rw[hd] at p;have a:Sn P H.n s (H.sh s) w u3 (.int .i64 ((i+1:Nat):Int)) w5:=by
     refine⟨i+1,rfl,by omega,?_,x.o⟩;rw[p.o,if_pos rfl];exact I.o
    have G:=LH a;clear a;go_wp2_with fail;go_roundw
    ·exact G.o
    ·simp[intOf];omega
  ·obtain rfl:i=H.n:=by omega
   have y:DD P H.n s (H.sh s) w (.returned u3) wr:=⟨u3,rfl,d,l⟩
   have HF:=LH y;clear y d l;go_wp2_with fail;go_ret;exact HF.o
def C9 (P:Aq) (s:Nat):Option Nat->O0|none=>.pointer B0|some j=>pw (P.gn s j)
def ED (P:Aq) (H:Hs) (s:Nat) (w:D0) (e:WC) (w':D0):Prop:=e=.returned (C9 P s (H.head s))/\VP w.heap.size w w'
def ShRel (l:List Nat) (p:Nat->Bool) (a:D0) (v:O0) (wr:D0):Prop:=∃ i:Nat,v=.int .i64 i/\i<=l.length/\l.find? p=(l.drop i).find? p/\wr=a
def O8 {l:List Nat} (a:l[i]? = Bs j):(l.drop i).find? p=if p j then Bs j else(l.drop (i+1)).find? p:=by
 obtain⟨c,e⟩:=List.getElem?_eq_some_iff.1 a;rw[Xy c,e,List.find?_cons];cases p j <;> rfl
def FA (h:HI w own P H) (hs:s<H.c) (T:H.n<=100) (y:∀ j,j<H.n->EW ((H.sh s).nd j).id) :
  VY Tryz.prog 61 #[pw (P.gs s)] w (ED P H s w):=by
 have I:=LH (Js h hs T y);have W:=U3 (H.sh s) H.n;have p:∀ j,j∈(H.sh s).ah H.n->j<H.n:=fun j N=>by unfold Bm.ah at N;exact List.mem_range.1 (List.mem_filter.1 N).1
 have B:=LH (show H.head s=((H.sh s).ah H.n).find? fun j=>((H.sh s).nd j).head from rfl);have Z:=LH p;have Q:=LH h;unfold ED;unfold DD at I;generalize H.head s=hd at *;generalize (H.sh s).ah H.n=l at *;clear h p y;unfold pw at *;go_enter Tryz.func61,Tryz.ntmps61;go_wp2_with fail;refine I.o.mono ?_;rintro e S ⟨V,rfl,f,x⟩;obtain⟨A,c,rfl,_,_⟩:=AR f;have Y:=LH (Rd.ay f);have R:=LH x;have J:=LH (Q.o.below x);clear f x I Q;go_wp2_with fail;go_loopw [8] (ShRel l (fun j=>((H.sh s).nd j).head) S) (fun v _=>l.length-(intOf v).toNat)
 case atStart=>exact⟨0,rfl,VN _,rfl,rfl⟩
 case round=>
  obtain⟨i,rfl,hi,a,rfl⟩:=hrel;by_cases U:(i:Int)<l.length
  ·have q:i<l.length:=by omega
   obtain⟨r,o,u,X,hr,E,hc⟩:=Y.o.ck (k:=i) q;have K:l[i]? = Bs l[i]:=L1 q;rw[V8,K] at E;simp only[WK,VR] at E;subst E X;have G:=Z.o l[i] (Wv q);obtain⟨C,V,L,O,_⟩:=J.o.nd s l[i] hs G;have z:=LH (qct O);rw[O8 K] at a;have d:=LH a;clear a O;generalize l[i]=j at *;rcases M:((H.sh s).nd j).head with _|_
   ·rw[M] at z d;have m:=LH (d.o.trans (if_neg (by simp)));clear d;go_wp2_with fail;refine z.o.mono ?_;rintro e w2 ⟨rfl,rfl⟩;go_wp2_with fail;go_roundw
    case rel=>exact⟨i+1,rfl,by omega,m.o,rfl⟩
    case measure=>simp[intOf];omega
   ·rw[M] at z d;have m:=LH (B.o.trans (d.o.trans (if_pos rfl)));clear d B;go_wp2_with fail;refine z.o.mono ?_;rintro e w2 ⟨rfl,rfl⟩;go_wp2_with fail;go_ret;exact⟨by rw[m.o];rfl,R.o⟩
  ·obtain rfl:i=l.length:=by omega
   rw[List.drop_length] at a;have m:=LH (B.o.trans a);clear B a;go_wp2_with fail;go_ret;exact⟨by rw[m.o];rfl,R.o⟩
end
def JG (gs:List Ak) (i:Int) (x:Sx):Bool:=gs.any fun a=>decide (a.tx=i) && decide (a.key=x)
def Hs.aJ (H:Hs) (gs:List Ak):Hs:={ H with tx:=fun i=>{ H.tx i with aj:=(H.tx i).aj.filter fun w=>!JG gs i w.1 } }
def CB (x:Sx) (a:Sx×Int):Bool:=decide (a.1=x)
def Hb (c:Nat) (a:Ak) (g:Option Nat) (w:D0) (m:w.cell? ⟨c,1,B0⟩=Bs (.string ⟨a.key.toArray⟩)) (q:g≠Bs c) :
  DV 99 #[.pointer (Bs ⟨c,0,B0⟩)] (CB a.key) g w:=by
 intro W x l;have f:=Wa w _ m;have u:=(l.cell (p:=⟨c,1,B0⟩) f (fun e=>q e)).trans m;have r:c<W.heap.size:=VL f l.size;have h:=LH (fun o=>(VK W.heap.size W).alloc (K0 _) o);clear m f l q;unfold wnV CB;show VY _ _ #[_,_] _ fun e w'=>e=.returned (.bool (decide (x.1=a.key)))/\VP W.heap.size W w'
 by_cases e:x.1=a.key
 ·have d:(x.1 == a.key)=VJ:=by simpa using e
  rw[decide_eq_true e];go_enter Tryz.func99,Tryz.ntmps99;go_wp2_with fail;go_ret;exact⟨rfl,h.o _⟩
 ·have d:(x.1 == a.key)=Jx:=by simpa using e
  rw[decide_eq_false e];go_enter Tryz.func99,Tryz.ntmps99;go_wp2_with fail;go_ret;exact⟨rfl,h.o _⟩
def qbo {a:Ak} (h:gs[j]? = Bs a) (i:Int) (x:Sx):JG (gs.take (j+1)) i x=(JG (gs.take j) i x || (decide (a.tx=i) && decide (a.key=x))):=by
 unfold JG;rw[VX,h,List.any_append];simp
def q8e {H:Hs} {a:Ak} (h:gs[j]? = Bs a) (c:a.tx≠(i:Int)):(H.aJ (gs.take (j+1))).tx i=(H.aJ (gs.take j)).tx i:=by
 unfold Hs.aJ;simp only[qbo h,decide_eq_false c,Bool.false_and,Bool.or_false]
def JL {H:Hs} {a:Ak} (h:gs[j]? = Bs a) (c:a.tx=(i:Int)):(H.aJ (gs.take (j+1))).tx i = { (H.aJ (gs.take j)).tx i with aj:=Ce (CB a.key) ((H.aJ (gs.take j)).tx i).aj }:=by
 unfold Hs.aJ Ce CB;simp only[qbo h,decide_eq_true c,YB,List.filter_filter];congr 1;apply XA;intro w _;by_cases e:w.1=a.key
 ·simp[e]
 ·simp[e];exact fun _ h=>e h.symm
section
variable {w w':D0} {own own':Ah} {P:Aq} {H:Hs}
def Qd (t:Tg):Prop:=∃ i,t=.tx i
def GrP (P:Aq) (own:Ah) (H':Hs) (w:D0) (w':D0):Prop:=∃ own',HI w' own' P H'/\HZ Qd w own w' own'
def Sv (P:Aq) (own:Ah) (H:Hs) (gs:List Ak) (w:D0) (v:O0) (wr:D0):Prop:=∃ j:Nat,v=.int .i64 j/\j<=gs.length/\GrP P own (H.aJ (gs.take j)) w wr
def LU (H:Hs):H.aJ []=H:=by
 have a:∀ l:List (Sx×Int),l.filter (fun _=>VJ)=l:=fun l=>List.filter_eq_self.2 (fun _ _=>rfl)
 unfold Hs.aJ JG;simp[a]
def Py {base e size n:Nat} {xs:List O0} (h:w.ownsRow base e size V n xs) (c:∀ b,V.ownBlock=Bs b->own b=B0) (hs:HZ Z w own w' own'):w'.ownsRow base e size V n xs:=
 hs.fr.own h (fun b d a=>a.owned (c b d))
def R8:∀ (l:List Ak) (j:Nat) (x:Ak),l[j]? = Bs x->∀ i,i<3->(l.flatMap Pt)[j*3+i]? = (Pt x)[i]?
 | [],j,p,h,i,a=>by simp at h
 | q::l,0,p,h,i,a=>by
  simp at h;subst h;rw[VM,Wg (by show _<3;omega)];simp
 | q::l,j+1,p,h,i,a=>by
  have d:l[j]? = Bs p:=by simpa using h
  have e:(j+1)*3+i=(j*3+i)+3:=by omega
  have c:(Pt q).length=3:=rfl;rw[e,VM,Wk (by rw[c];omega),c,Xi];exact R8 l j p d i a
def akAt {B n:Nat} {l:List Ak} (h:Rd w B 3 A n (l.flatMap Pt)) (hl:l.length=n) (o:j<n):∃ g a x,A=Bs ⟨g,a,B0⟩/\g<B/\l[j]? = Bs x/\w.cell? ⟨g,a+j*3,B0⟩=Bs (.int .i64 x.tx)/\w.cell? ⟨g,a+j*3+1,B0⟩=Bs (.string ⟨x.key.toArray⟩)/\w.cell? ⟨g,a+j*3+2,B0⟩=Bs (.int .i64 x.mode):=by
 obtain⟨g,a,e,m,d⟩:=h.2 (by omega);have f:l[j]? = Bs l[j]:=L1 (by omega);have c:=R8 l j _ f;exact⟨g,a,l[j],e,m,f,d (j*3) _ (c 0 (by omega)),d (j*3+1) _ (c 1 (by omega)),d (j*3+2) _ (c 2 (by omega))⟩
def q6o {base:Nat} (h:HI w own P H) (hm:H.m<=1000) (hw:∀ i,1<=i->i<=H.m->(H.tx i).aj.length<=1000) (q:w.ownsRow base 179 3 V gs.length (gs.flatMap Pt)) (u:∀ b,V.ownBlock=Bs b->own b=B0) (a6:gs.length<=100000) :
  VY Tryz.prog 69 #[pw P.g,pw (P.gs s),V] w fun e w'=>e=.returned (.tuple #[])/\GrP P own (H.aJ gs) w w':=by
 have HH:=LH h;have a3:=LH q;have M:=LH u;have HW:=LH hw;obtain⟨A,c,rfl,_,hA⟩:=AR q;clear h q u hw hA;unfold pw;go_enter Tryz.func69,Tryz.ntmps69;go_wp2_with fail;go_loopw [11] (Sv P own H gs w) (fun v _=>gs.length-(intOf v).toNat)
 case atStart=>exact⟨0,rfl,VN _,own,by rw[XM,LU];exact HH.o,HZ.refl _ _ _⟩
 case round=>
  obtain⟨j,rfl,hj,d,hI,hS⟩:=hrel;by_cases a5:(j:Int)<gs.length
  ·obtain⟨r,o,a,rfl,hr,hx,k0,k1,k2⟩:=akAt (Rd.ay (Py a3.o M.o hS)) rfl (j:=j) (by omega);have I:VP wr.heap.size wr (wr.alloc (.cells #[.int .i64 a.tx,.string ⟨a.key.toArray⟩,.int .i64 a.mode] 179)):=(VK _ _).alloc (K0 _) _;have a1:Ae (wr.alloc (.cells #[.int .i64 a.tx,.string ⟨a.key.toArray⟩,.int .i64 a.mode] 179)) wr.heap.size 179 #[.int .i64 a.tx,.string ⟨a.key.toArray⟩,.int .i64 a.mode]:=Ae.new wr _ _;have K:=hI.below I;have Z:=q51 K (show(H.aJ (gs.take j)).m<=1000 from hm) a.tx;have C:=LH K;clear K;have E:=LH a1;clear a1;have a2:=LH (hS.trans (HZ.below d I));clear I;have HX:=LH hx;clear hx;have a4:=LH Z;clear Z;go_upto_region 3 with (fail)
   clear k0 k1 k2;generalize wr.alloc (.cells #[.int .i64 a.tx,.string ⟨a.key.toArray⟩,.int .i64 a.mode] 179)=N at *;have b0:=E.o.cell 0;have b1:=E.o.cell 1;have bl:=E.o.lt;simp only[Hi,Ft,N2] at b0 b1;go_wp2_with fail;refine a4.o.mono ?_;rintro e w2 ⟨rfl,rfl⟩;unfold DW;by_cases l:a.tx<1\/((H.aJ (gs.take j)).m:Int)<a.tx
   ·rw[if_pos l];have f:Sv P own H gs w (.int .i64 ((j+1:Nat):Int)) N:=by
     refine⟨j+1,rfl,by omega,d,?_,a2.o⟩;have:=C.o.cQ (H.aJ (gs.take (j+1))).tx (fun i h1 h2=>q8e HX.o (fun e=>by rw[e] at l;have:i<=(H.aJ (gs.take j)).m:=h2;omega));exact this
    have HR:=LH f;clear f;clear l;go_wp2_with fail;go_roundw
    ·exact HR.o
    ·simp[intOf];omega
   ·rw[if_neg l];obtain⟨i,hi⟩:∃ i:Nat,a.tx=i:=⟨a.tx.toNat,by omega⟩
    have X:1<=i:=by omega
    have W:i<=H.m:=by have h2:¬((H.m:Int)<a.tx):=fun h=>l (.inr h);omega
    obtain⟨v,O⟩:=C.o.tx i X W;obtain⟨_,_,_,_,_,_,c8,gl⟩:=O.cells;have S:v.Vx.ownBlock≠Bs wr.heap.size:=Bh O.aj E.o (by decide);have U:((H.aJ (gs.take j)).tx i).aj.length<=1000:=VO (WL _ _) (HW.o i X W);have hd:=Jh 99 #[.pointer (Bs ⟨wr.heap.size,0,B0⟩)] (CB a.key) 0 _ v.Vx _ N (Pw Tryz.func99 (by kernel_rfl) rfl) (Hb _ a _ N b1 S) O.aj rfl (by omega);have HD:=LH hd;clear hd;obtain⟨A8,a7,J,_,_⟩:=AR O.aj;rw[J] at c8 HD;have x:=LH J;clear J;have m:=LH O;clear O;rw[hi];rw[show((i:Int)).toNat=i from rfl];clear b0 b1 l S U;unfold pw;go_wp2_with fail;refine HD.o.mono ?_;rintro e w2 ⟨A9,c9,rfl,Q,z,R⟩;have B:=z.ak m.o.ak (fun e=>m.o.aW.2.1 (by rw[x.o];exact e));have y8:=B.cell 8;have z8:=B.frozen 8;have yl:=B.lt;unfold Om at y8;simp only[Hi,Ft,N2] at y8;rw[x.o] at y8;have Y:Fr (fun k=>v.Vx.ownBlock=Bs k\/N.heap.size<=k) N w2:=z.mono (fun k _ e=>.inl (by rw[x.o];exact e));have G:=m.o.bU (Ext.refl d _) Y Q (fun b hb=>m.o.xt b (by rw[x.o,<- R];exact hb));have y:Fr (OS d (fun t=>t=.tx i)) N (w2.setCell ⟨P.gt i,8,B0⟩ (.slice A9 (Ce (CB a.key) ((H.aJ (gs.take j)).tx i).aj).length c9)):=
     (z.mono (T:=OS d (fun t=>t=.tx i)) (fun k _ e=>⟨_,m.o.xt k (by rw[x.o];exact e),rfl⟩)).setCell (p:=⟨P.gt i,8,B0⟩) (.inl ⟨_,m.o.gt,rfl⟩) _
    have a0:=C.o.setTx' y (Ext.refl d _) (fun b hb=>VL (C.o.lt b hb) y.size) ⟨_,G⟩;have f:Sv P own H gs w (.int .i64 ((j+1:Nat):Int)) (w2.setCell ⟨P.gt i,8,B0⟩ (.slice A9 (Ce (CB a.key) ((H.aJ (gs.take j)).tx i).aj).length c9)):=by
     refine⟨j+1,rfl,by omega,d,?_,a2.o.trans (⟨Ext.refl d _,y.mono (fun _ _ ⟨t,a,b⟩=>⟨t,a,⟨i,b⟩⟩),fun _ _ h=>h⟩)⟩;have:=a0.cQ (H.aJ (gs.take (j+1))).tx (fun k h1 h2=>by
      show _=Af (H.aJ (gs.take j)).tx i _ k;by_cases e:k=i
      ·subst e;rw[An];exact JL HX.o hi
      ·rw[As e];exact q8e HX.o (fun e2=>e (by omega)))
     exact this
    have HR:=LH f;clear f a0 y G Y Q z R B HD;go_wp2_with fail;go_roundw
    ·exact HR.o
    ·simp[intOf];omega
  ·obtain rfl:j=gs.length:=by omega
   rw[Xe] at hI;have HF:=LH (show GrP P own (H.aJ gs) w wr from⟨d,hI,hS⟩);clear hI hS;go_wp2_with fail
   go_end0
   exact⟨rfl,HF.o⟩
end
open Classical in
noncomputable def DK (own:Ah) (n:Nat) (F:Nat->Prop) (t:Tg):Ah:=fun b=>if b<n then own b else if F b then Bs t else B0
section
variable {w w':D0} {own own':Ah} {P:Aq} {H:Hs} {n:Nat} {F:Nat->Prop} {t:Tg}
def QS:Ext own (DK own n F t) n:=fun b h=>by unfold DK;rw[if_pos h]
def QP {n':Nat} (d:n<=n') (a:∀ b,F b->b<n'):∀ b,DK own n F t b≠B0->b<n':=fun b h=>by
 unfold DK at h;split at h
 ·omega
 ·split at h
  ·rename_i c;exact a b c
  ·exact absurd rfl h
def QQ {b:Nat} (h:own b=Bs t\/n<=b) (c:F b):DK own n F t b=Bs t:=by
 unfold DK;by_cases a:b<n
 ·rw[if_pos a];rcases h with h|h
  ·exact h
  ·omega
 ·rw[if_neg a,if_pos c]
def Pz (a:∀ i,t≠.sm i):∀ b i,DK own n F t b=Bs (.sm i)->own b=Bs (.sm i):=fun b i h=>by
 unfold DK at h;split at h
 ·exact h
 ·split at h
  ·injection h with h;exact absurd h (a i)
  ·cases h
def q9q {b:Nat} (h:n<=b) (a:¬F b):DK own n F t b=B0:=by
 unfold DK;rw[if_neg (by omega),if_neg a]
def DP.retab {v:Nt} {x:Bm} (h:DP w own k s g gn v x) (m:Fr (OS own (fun t=>t=.sb s\/t=.tab s)) w w') (f:Ext own own' w.heap.size) {a:Sx->Ar} 
  (o:AB w' 0 100 g 4 105 (FG { v with mt:=c,dp:=a } { x with tab:=T' }) c a T') (l:∀ b,AE c a T' b->own' b=Bs (.tab s)):DP w' own' k s g gn { v with mt:=c,dp:=a } { x with tab:=T' }:=by
 refine⟨m.own h.row (fun b d hs=>?_),fun b d=>(f b (h.row.lt b d).2).trans (h.b6 b d),h.dd.fr m (fun hs=>?_),(f _ h.dd.lt).trans h.cI,o,l,h.sto.bW m (fun b d hs=>?_) o.ak rfl rfl,fun b d=>(f b (h.sto.aw (.inr d)).2).trans (h.bF b d),(f g h.tab.ak.lt).trans h.gt⟩
 ·rcases hs.tag (h.b6 b d) with e|e <;> cases e
 ·rcases hs.tag h.cI with e|e <;> cases e
 ·rcases hs.tag (h.bF b d) with e|e <;> cases e
def DP.resto {v:Nt} {x:Bm} (h:DP w own k s g gn v x) (o:Fr (OS own (fun t=>t=.sb s\/t=.sto s)) w w') (f:Ext own own' w.heap.size) {a:Sx->O0} {l:Kp}
  (p:BY w' 0 100 g 5 105 (FG { v with ms:=c,dq:=a } { x with sto:=l }) c a l 0) (m:∀ b,Dl c a l b->own' b=Bs (.sto s)):DP w' own' k s g gn { v with ms:=c,dq:=a } { x with sto:=l }:=by
 refine⟨o.own h.row (fun b d hs=>?_),fun b d=>(f b (h.row.lt b d).2).trans (h.b6 b d),h.dd.fr o (fun hs=>?_),(f _ h.dd.lt).trans h.cI,h.tab.bW o (fun b d hs=>?_) p.ak rfl,fun b d=>(f b (h.tab.aw d).2).trans (h.b5 b d),p,m,(f g h.tab.ak.lt).trans h.gt⟩
 ·rcases hs.tag (h.b6 b d) with e|e <;> cases e
 ·rcases hs.tag h.cI with e|e <;> cases e
 ·rcases hs.tag (h.b5 b d) with e|e <;> cases e
def GQ (c:Fr (OS own Z) w w') (h:∀ t,Z t->Z' t):Fr (OS own Z') w w':=c.mono (fun _ _ ⟨t,a,b⟩=>⟨t,a,h t b⟩)
def Ql {mt:Option Nat} {a:Sx->Ar} (f:own g=Bs (.sb s)) (d:∀ b,AE mt a T b->own b=Bs (.tab s)) (h:Fr (VA g mt a T) w w'):Fr (OS own (fun t=>t=.sb s\/t=.tab s)) w w':=
 h.mono (fun b _ c=>c.elim (fun e=>⟨_,by rw[e];exact f,.inl rfl⟩) (fun c=>⟨_,d b c,.inr rfl⟩))
def sto_fr {ms:Option Nat} {a:Sx->O0} (f:own g=Bs (.sb s)) (d:∀ b,Dl ms a K b->own b=Bs (.sto s)) (h:Fr (EY g ms a K) w w'):Fr (OS own (fun t=>t=.sb s\/t=.sto s)) w w':=
 h.mono (fun b _ c=>c.elim (fun e=>⟨_,by rw[e];exact f,.inl rfl⟩) (fun c=>⟨_,d b c,.inr rfl⟩))
def q6h:∀ (ws left:List (Int×Int)) (h:Int->Option Int),(Do h left ws).2.2.Sublist ws
 | [],left,h=>by rw[q32];exact XC _
 | w::ws,left,h=>by
  rcases a:Ai h w.1 w.2 left with _|_
  ·rw[q7u a];exact(q6h ws _ h).cons _
  ·rw[q6g a];exact(q6h ws _ _).cons_cons _
def EA.len {k:Kx} (h:EA k):k.ws.length<=61:=by
 have a:(k.ws.map (·.1)).length<=Dq.length:=by
  refine WI ?_ (fun t d=>?_)
  ·rw[List.Nodup,W8];exact h.sort.imp (fun h e=>by omega)
  ·obtain⟨v,c,rfl⟩:=List.mem_map.1 d;have:=h.wait v c;exact Px (by omega) this.2
 rw[We,Tu] at a;exact a
def qbn {T:Tb} (a:Da T) (tx:Int):∀ ks:List Sx,(ks.flatMap (KZ T tx)).length<=ks.length*61
 | []=>by simp
 | x::ks=>by
  have c:=qbn a tx ks;have l:(KZ T tx x).length<=61:=by
   unfold KZ;cases e:T x with
   | none=>simp
   | some k=>
    have h:=(q6h (AC k.ws tx) [] (Be k.h tx B0)).length_le;have f:(AC k.ws tx).length<=k.ws.length:=WL _ _;have d:=(a x k e).2.len;show((B5 k tx).2.map _).length<=61;rw[We];show(Do (Be k.h tx B0) [] (AC k.ws tx)).2.2.length<=61;omega
  rw[VM,VS,Wl];omega
def ON (a:Da T) {ks:List Sx} (h:Gv T ks):ks.length<=4:=by
 have:ks.length<=names.length:=WI (h.1.imp (fun h e=>by subst e;exact List.lt_irrefl _ h)) (fun x c=>by
  cases e:T x with
  | none=>exact absurd e ((h.2 x).1 c)
  | some k=>exact(a x k e).1)
 exact this
open Classical in
def O3 {ks:List Sx} (h:Gv T ks) (i:Nat) (y:Sx):JG (ks.flatMap (KZ T tx)) i y=VJ↔decide (JM T tx i y)=VJ:=by
 unfold JG;rw[XZ,decide_eq_true_eq];unfold JM;constructor
 ·rintro ⟨a,c,f⟩;simp only[Wj,decide_eq_true_eq] at f;obtain⟨x,q,c⟩:=List.mem_flatMap.1 c;unfold KZ at c;cases e:T x with
  | none=>rw[e] at c;cases c
  | some k=>
   rw[e] at c;obtain⟨g,p,rfl⟩:=List.mem_map.1 c;obtain⟨m,l⟩:=f
   dsimp only at m l
   subst l;exact⟨k,g.2,e,by rw[<- m];exact p⟩
 ·rintro ⟨k,d,e,o⟩;refine⟨⟨i,y,d⟩,List.mem_flatMap.2 ⟨y,(h.2 y).2 (by rw[e];simp),?_⟩,by simp⟩;unfold KZ;rw[e];exact List.mem_map.2 ⟨(↑i,d),o,rfl⟩
open Classical in
def LS {ks:List Sx} (h:Gv T ks) (H':Hs):H'.aJ (ks.flatMap (KZ T tx))=H'.granted T tx:=by
 have a:∀ i:Nat,(H'.tx i).aj.filter (fun w=>!JG (ks.flatMap (KZ T tx)) i w.1)=(H'.tx i).aj.filter (fun w=>!decide (JM T tx i w.1)):=fun i=>by
  apply XA;intro w _;congr 1;rw[XU];exact O3 h i w.1
 unfold Hs.aJ Hs.granted;simp only[a]
def HRelP (P:Aq) (H:Hs) (own:Ah) (s:Nat) (tx:Int) (w:D0) (e:WC) (w':D0):Prop:=
 ∃ (V:O0) (gs:List Ak) (own':Ah),e=.returned V/\w'.ownsRow (w.heap.size+1) 179 3 V gs.length (gs.flatMap Pt)/\(∀ b,V.ownBlock=Bs b->own' b=B0)/\gs.length<=1000/\
  (∀ H':Hs,H'.aJ gs=H'.granted (H.sh s).tab tx)/\HI w' own' P (H.ar s { H.sh s with tab:=Bj (H.sh s).tab tx })/\HZ (CZ s) w own w' own'
def q5g (h:HI w own P H) (hs:s<H.c) (tx:Int) (q:Cq tx) (p:Da (H.sh s).tab) :
  VY Tryz.prog 70 #[.pointer (Bs ⟨P.gs s,4,B0⟩),.int .i64 tx] w (HRelP P H own s tx w):=by
 obtain⟨v,l⟩:=h.sh s hs;refine(IY 0 100 (P.gs s) 4 _ _ v.mt v.dp (H.sh s).tab tx w l.tab q (by omega) (by decide)).mono ?_;rintro e w' ⟨V,ks,d,rfl,m,a,C,y,z⟩;have o:=Ql l.gt l.b5 z;have B:=C.tight (p.rel tx);have f:∀ b,AE v.mt d (Bj (H.sh s).tab tx) b->own b=Bs (.tab s)\/w.heap.size<=b:=fun b c=>(y b c).imp (l.b5 b) id
 have A:Ext own (DK own w.heap.size (AE v.mt d (Bj (H.sh s).tab tx)) (.tab s)) w.heap.size:=QS;have u:=l.retab o A B (fun b c=>QQ (f b c) c);have x:=QP (own:=own) (t:=.tab s) o.size (fun b c=>(C.aw c).2);refine⟨V,_,_,rfl,a,fun b c=>q9q (VO (Nat.le_succ _) (a.lt b c).1) (fun E=>(C.bM a (by decide) (by decide) (by decide) c).2 E),?_,LS m,
  h.setSh' rfl (GQ o (fun t r=>r.elim .inl (fun e=>.inr (.inr (.inr (.inl e)))))) A x ⟨_,u⟩,⟨A,GQ o (fun t r=>r.elim .inl (fun e=>.inr (.inr (.inr (.inl e))))),(by first|exact Pz (by simp)|exact fun _ _ h=>h)⟩⟩
 have G:=qbn p tx ks;have E:=ON p m;omega
def TV {mode:Int} {x:Sx} {l:List Int} (h:Dm T ⟨tx,x,mode⟩ ok l o T') (m:Br mode) (f:x.length<=20):T'=Am T tx x mode:=by
 unfold Am;cases h with
 | arg h=>exact absurd m h
 | long _ h=>exact absurd f (by simpa using h)
 | twice _ _ a=>rw[if_pos a]
 | got _ _ a d=>rw[if_neg (by rw[a];simp),if_pos d]
 | full _ _ a d c=>rw[if_neg (by rw[a];simp),if_neg (by rw[d];simp),if_pos c]
 | waits _ _ a d c=>rw[if_neg (by rw[a];simp),if_neg (by rw[d];simp),if_neg c]
def HLockP (P:Aq) (H:Hs) (own:Ah) (s:Nat) (a:Ak) (w:D0) (e:WC) (w':D0):Prop:=
 ∃ (ok:Bool) (l:List Int) (d:Int) (A:Option Addr) (c:Nat) (own':Ah),e=.returned (.tuple #[.bool ok,.slice A l.length c,CD d])/\Dm (H.sh s).tab a ok l d (Am (H.sh s).tab a.tx a.key a.mode)/\
  HI w' own' P (H.ar s { H.sh s with tab:=Am (H.sh s).tab a.tx a.key a.mode })/\HZ (CZ s) w own w' own'/\Rd w' w'.heap.size 1 A l.length (l.map (Wp .i64))/\(∀ b o,A=Bs ⟨b,o,B0⟩->0<l.length->own' b=B0)
def Rs (base n g c:Nat) (l:VV) (o:Array O0) (m:Option Nat) (d:Sx->Ar) (T:Tb) (s:ByteArray) (tx mode:Int) (w:D0) (hI:AB w base n g c l o m d T) (a:Br mode) (hl:(sx s).length<=20) (f:Cq tx) (q:n<1000000)
  (h:(Ac T (sx s)).ws.Pairwise (·.1 < ·.1)) :
  VY Tryz.prog 64 #[.pointer (Bs ⟨g,c,B0⟩),.int .i64 tx,.string s,.int .i64 mode] w (UU base n g c l o m d T ⟨tx,sx s,mode⟩ w):=by
 rcases p:Ch (Ac T (sx s)).ws tx with _|_
 ·rcases r:Ai (Ac T (sx s)).h tx mode (Ac T (sx s)).ws with _|_
  ·exact G8 base n g c l o m d T s tx mode w hI a hl f q p r h
  ·exact Rr base n g c l o m d T s tx mode w hI a hl f q p r
 ·exact Ly base n g c l o m d T s tx mode w hI a hl f q p
def qa6 (h:HI w own P H) (hs:s<H.c) (tx mode:Int) (x:ByteArray) (u:1<=tx/\tx<=60) (r:sx x∈names) (M:Br mode) (K:Da (H.sh s).tab) :
  VY Tryz.prog 64 #[.pointer (Bs ⟨P.gs s,4,B0⟩),.int .i64 tx,.string x,.int .i64 mode] w (HLockP P H own s ⟨tx,sx x,mode⟩ w):=by
 obtain⟨v,p⟩:=h.sh s hs;refine(Rs 0 100 (P.gs s) 4 _ _ v.mt v.dp (H.sh s).tab x tx mode w p.tab M (Ea r) (FH (by omega) (by omega)) (by omega) (K.at_ (sx x)).sort).mono ?_;rintro e w' ⟨ok,l,R,T',A,c,d,a,rfl,hP,N,E,G,B,O⟩;obtain rfl:=TV hP M (Ea r);have q:=Ql p.gt p.b5 G;have J:AB w' 0 100 (P.gs s) 4 105 (FG { v with mt:=d,dp:=a } { H.sh s with tab:=Am (H.sh s).tab tx (sx x) mode }) d a (Am (H.sh s).tab tx (sx x) mode):=N.tight (K.lock u r mode);have f:∀ b,AE d a (Am (H.sh s).tab tx (sx x) mode) b->own b=Bs (.tab s)\/w.heap.size<=b:=fun b m=>(E b m).imp (p.b5 b) id
 have I:Ext own (DK own w.heap.size (AE d a (Am (H.sh s).tab tx (sx x) mode)) (.tab s)) w.heap.size:=QS;have z:=p.retab q I J (fun b m=>QQ (f b m) m);have C:=QP (own:=own) (t:=.tab s) q.size (fun b m=>(N.aw m).2);exact⟨ok,l,R,A,c,_,rfl,hP,h.setSh' rfl (GQ q (fun t y=>y.elim .inl (fun e=>.inr (.inr (.inr (.inl e)))))) I C ⟨_,z⟩,⟨I,GQ q (fun t y=>y.elim .inl (fun e=>.inr (.inr (.inr (.inl e))))),(by first|exact Pz (by simp)|exact fun _ _ h=>h)⟩,B,fun b o e Q=>q9q (O b o e Q).1 (O b o e Q).2⟩
def HPutP (P:Aq) (H:Hs) (own:Ah) (s:Nat) (t:Int) (p:Pr) (w:D0) (e:WC) (w':D0):Prop:=
 ∃ (a:Int) (own':Ah),e=.returned (CD a)/\HI w' own' P (H.ar s { H.sh s with sto:=(Cv (H.sh s).sto 0 ⟨sx p.key,sx p.val,p.gone,t⟩).2 })/\HZ (CZ s) w own w' own'
def RD (h:HI w own P H) (hs:s<H.c) (t:Int) (p:Pr) (m:0<=t/\t<=60) (K:Sc p) (I:Db (H.sh s).sto) :
  VY Tryz.prog 82 #[.pointer (Bs ⟨P.gs s,5,B0⟩),.int .i64 t,.agg #[.string p.key,.string p.val,.bool p.gone]] w (HPutP P H own s t p w):=by
 obtain⟨v,o⟩:=h.sh s hs;refine(TD 0 100 (P.gs s) 5 _ _ v.ms v.dq (H.sh s).sto 0 p.key p.val p.gone t w o.sto (by omega)).mono ?_;rintro e w' ⟨rfl,d,a,q,B,A⟩;have u:=sto_fr o.gt o.bF B;have G:BY w' 0 100 (P.gs s) 5 105 (FG { v with ms:=d,dq:=a } { H.sh s with sto:=(Cv (H.sh s).sto 0 ⟨sx p.key,sx p.val,p.gone,t⟩).2 }) d a (Cv (H.sh s).sto 0 ⟨sx p.key,sx p.val,p.gone,t⟩).2 0:=q.tight (I.put (r:=⟨sx p.key,sx p.val,p.gone,t⟩) K.1 m.1 m.2);have f:∀ b,Dl d a (Cv (H.sh s).sto 0 ⟨sx p.key,sx p.val,p.gone,t⟩).2 b->own b=Bs (.sto s)\/w.heap.size<=b:=fun b c=>by
  rcases A b (.inr c) with (rfl|l)|l
  ·exact absurd rfl (by
    rcases c with c|⟨x,J,c⟩
    ·have:=q.map;rw[c] at this;exact Ab.aB (C:=kV) this q.ak
    ·exact fun _=>q.cr J c)
  ·exact .inl (o.bF b l)
  ·exact .inr l
 have E:Ext own (DK own w.heap.size (Dl d a (Cv (H.sh s).sto 0 ⟨sx p.key,sx p.val,p.gone,t⟩).2) (.sto s)) w.heap.size:=QS;have y:=o.resto u E G (fun b c=>QQ (f b c) c);have z:=QP (own:=own) (t:=.sto s) u.size (fun b c=>(q.aw (.inr c)).2);exact⟨_,_,rfl,h.setSh' rfl (GQ u (fun t m=>m.elim .inl (fun e=>.inr (.inr (.inr (.inr e)))))) E z ⟨_,y⟩,⟨E,GQ u (fun t m=>m.elim .inl (fun e=>.inr (.inr (.inr (.inr e))))),(by first|exact Pz (by simp)|exact fun _ _ h=>h)⟩⟩
end
def Cl (H:Hs) (s:Nat) (x:Bm):(H.ar s x).sh s=x:=An _ _ _
def q6e (H:Hs) (s:Nat) (x y:Bm):(H.ar s x).ar s y=H.ar s y:=by unfold Hs.ar;rw[S7]
def q7o (H:Hs) (s:Nat):H.ar s (H.sh s)=H:=by unfold Hs.ar;rw[qc1]
structure BE (H:Hs) (s:Nat):Prop where
 m:H.m<=60
 wn:∀ i,1<=i->i<=H.m->(H.tx i).aj.length<=1000
 tab:Da (H.sh s).tab
 sto:Db (H.sh s).sto
def BE.bV {H:Hs} (h:BE H s) (a:Da T):BE (H.ar s { H.sh s with tab:=T }) s:=⟨h.m,h.wn,by rw[Cl];exact a,by rw[Cl];exact h.sto⟩
def BE.cD {H:Hs} (h:BE H s) (a:Db K):BE (H.ar s { H.sh s with sto:=K }) s:=⟨h.m,h.wn,by rw[Cl];exact h.tab,by rw[Cl];exact a⟩
def BE.bQ {H:Hs} (h:BE H s) (d:Nat):BE (H.ar s { H.sh s with done:=d }) s:=⟨h.m,h.wn,by rw[Cl];exact h.tab,by rw[Cl];exact h.sto⟩
def BE.granted {H:Hs} {s:Nat} (h:BE H s) (T:Tb) (tx:Int):BE (H.granted T tx) s:=⟨h.m,fun i c a=>VO (WL _ _) (h.wn i c a),h.tab,h.sto⟩
def BE.rel {H:Hs} {s:Nat} (h:BE H s) (tx:Int):BE (H.rel s tx) s:=(h.bV (h.tab.rel tx)).granted _ _
def Lg (T:Tb) (tx:Int) {p:Pr} (h:ps[j]? = Bs p):Cx T tx (ps.take (j+1))=Am (Cx T tx (ps.take j)) tx (sx p.key) 2:=by
 unfold Cx;rw[VX,h,WQ];rfl
def Lb (K:Kp) (t:Int) {p:Pr} (h:ps[j]? = Bs p):CM K t (ps.take (j+1))=(Cv (CM K t (ps.take j)) 0 ⟨sx p.key,sx p.val,p.gone,t⟩).2:=by
 unfold CM;rw[VX,h,WQ];rfl
def Ma (K:Kp) (c:Cm) {l:List Cm} {a:Cm} (h:l[j]? = Bs a):Bk K (l.take (j+1)) c=if a.ai=2/\a.tx=c.tx then CM (Bk K (l.take j) c) c.ag a.ad else Bk K (l.take j) c:=by
 unfold Bk;rw[VX,h,WQ];rfl
noncomputable def Hs.taken (H:Hs) (s:Nat) (l:List Cm) (i:Nat) (c:Cm):Hs:=(H.aE s l i c).ar s { (H.aE s l i c).sh s with done:=i+1 }
def q5v {H:Hs} {l:List Cm} {c:Cm} (a:(H.sh s).done=i) (d:l[i]? = Bs c):Hs.aO s l (k+1) H=Hs.aO s l k (H.taken s l i c):=by
 show(match l[(H.sh s).done]? with|none=>H|some c=>Hs.aO s l k ((H.aE s l (H.sh s).done c).ar s { (H.aE s l (H.sh s).done c).sh s with done:=(H.sh s).done+1 }))=_;rw[a,d];rfl
def BE.aE {H:Hs} {s i:Nat} {l:List Cm} {c:Cm} (h:BE H s) (d:DO c) (hl:∀ a∈l,DO a):BE (H.aE s l i c) s:=by
 unfold Hs.aE;split
 ·exact h.bV (Da.prep d.tx _ h.tab d.ps)
 ·split
  ·exact(h.cD (Db.comm d _ h.sto (fun a f=>hl a (Wy f)))).rel _
  ·split
   ·exact h.rel _
   ·exact h
def BE.taken {H:Hs} {s i:Nat} {l:List Cm} {c:Cm} (h:BE H s) (d:DO c) (hl:∀ a∈l,DO a):BE (H.taken s l i c) s:=(h.aE d hl).bQ _
structure Bz (H H':Hs) (s:Nat):Prop where
 n:H'.n=H.n
 c:H'.c=H.c
 m:H'.m=H.m
 net:H'.net=H.net
 ag:H'.ag=H.ag
 sh:∀ k,k≠s->H'.sh k=H.sh k
 nd:(H'.sh s).nd=(H.sh s).nd
 ao:(H'.sh s).ao=(H.sh s).ao
 aa:(H'.sh s).aa=(H.sh s).aa
 size:(H'.sh s).size=(H.sh s).size
 tx:∀ i,(H'.tx i).state=(H.tx i).state/\(H'.tx i).ad=(H.tx i).ad/\(H'.tx i).ae=(H.tx i).ae/\(H'.tx i).places=(H.tx i).places/\(H'.tx i).ag=(H.tx i).ag
 aj:∀ i,∀ a∈(H'.tx i).aj,a∈(H.tx i).aj
def Bz.refl (H:Hs) (s:Nat):Bz H H s:=⟨rfl,rfl,rfl,rfl,rfl,fun _ _=>rfl,rfl,rfl,rfl,rfl,fun _=>⟨rfl,rfl,rfl,rfl,rfl⟩,fun _ _ h=>h⟩
def Bz.trans {A B C:Hs} {s:Nat} (h:Bz A B s) (k:Bz B C s):Bz A C s:=
 ⟨k.n.trans h.n,k.c.trans h.c,k.m.trans h.m,k.net.trans h.net,k.ag.trans h.ag,fun i c=>(k.sh i c).trans (h.sh i c),k.nd.trans h.nd,k.ao.trans h.ao,k.aa.trans h.aa,k.size.trans h.size,
  fun i=>⟨(k.tx i).1.trans (h.tx i).1,(k.tx i).2.1.trans (h.tx i).2.1,(k.tx i).2.2.1.trans (h.tx i).2.2.1,(k.tx i).2.2.2.1.trans (h.tx i).2.2.2.1,(k.tx i).2.2.2.2.trans (h.tx i).2.2.2.2⟩,fun i a d=>h.aj i a (k.aj i a d)⟩
def Bz.ar {H:Hs} {s:Nat} {x:Bm} (l:x.nd=(H.sh s).nd) (f:x.ao=(H.sh s).ao) (d:x.aa=(H.sh s).aa) (c:x.size=(H.sh s).size):Bz H (H.ar s x) s:=
 ⟨rfl,rfl,rfl,rfl,rfl,fun _ a=>As a _,by rw[Cl];exact l,by rw[Cl];exact f,by rw[Cl];exact d,by rw[Cl];exact c,fun _=>⟨rfl,rfl,rfl,rfl,rfl⟩,fun _ _ h=>h⟩
def Bz.granted (H:Hs) (s:Nat) (T:Tb) (tx:Int):Bz H (H.granted T tx) s:=
 ⟨rfl,rfl,rfl,rfl,rfl,fun _ _=>rfl,rfl,rfl,rfl,rfl,fun _=>⟨rfl,rfl,rfl,rfl,rfl⟩,fun _ _ h=>(List.mem_filter.1 h).1⟩
def Bz.rel (H:Hs) (s:Nat) (tx:Int):Bz H (H.rel s tx) s:=(Bz.ar (x:={ H.sh s with tab:=Bj (H.sh s).tab tx }) rfl rfl rfl rfl).trans (Bz.granted _ _ _ _)
def IZ (H:Hs) (s:Nat) (tx:Int):((H.rel s tx).sh s).done=(H.sh s).done:=by
 show((H.ar s _).sh s).done=_;rw[Cl]
def Bz.aE (H:Hs) (s i:Nat) (l:List Cm) (c:Cm):Bz H (H.aE s l i c) s:=by
 unfold Hs.aE;split
 ·exact Bz.ar rfl rfl rfl rfl
 ·split
  ·exact(Bz.ar (x:={ H.sh s with sto:=Bk (H.sh s).sto (l.take i) c }) rfl rfl rfl rfl).trans (Bz.rel _ _ _)
  ·split
   ·exact Bz.rel _ _ _
   ·exact Bz.refl _ _
def Bz.taken (H:Hs) (s i:Nat) (l:List Cm) (c:Cm):Bz H (H.taken s l i c) s:=(Bz.aE H s i l c).trans (Bz.ar (x:={ (H.aE s l i c).sh s with done:=i+1 }) rfl rfl rfl rfl)
def Bz.aO {s:Nat} {l:List Cm} : ∀ (k:Nat) (H:Hs),Bz H (Hs.aO s l k H) s
 | 0,H=>Bz.refl _ _
 | k+1,H=>by
  unfold Hs.aO;split
  ·exact Bz.refl _ _
  ·exact(Bz.taken H s _ l _).trans (Bz.aO k _)
def Bz.take (H:Hs) (s:Nat):Bz H (H.take s) s:=by
 unfold Hs.take;split
 ·exact Bz.refl _ _
 ·exact Bz.aO _ _
def BE.aO {s:Nat} {l:List Cm} (hl:∀ a∈l,DO a):∀ (k:Nat) (H:Hs),BE H s->BE (Hs.aO s l k H) s
 | 0,H,h=>h
 | k+1,H,h=>by
  unfold Hs.aO;split
  ·exact h
  ·rename_i c d;exact BE.aO hl k _ ((h.aE (hl c (S2 d)) hl).bQ _)
structure Gn (m:Ms):Prop where
 fr:0<=m.from_/\m.from_<=60
 tw:0<=m.a4/\m.a4<=60
 cmd:m.ai=3->DO m.cmd
 br:m.cmd.ad.length<=20
structure EX (t:Bl):Prop where
 br:t.ad.length<=20
 ps:∀ p∈t.ad,Sc p
 sh:∀ k e,t.ae k=Bs e->(k=0\/k=1)/\True
 pl:∀ k e,t.places k=Bs e->k=0\/k=1
 wn:∀ a∈t.aj,a.1∈names
 wnd:(t.aj.map (·.1)).Nodup
structure Cb (s j:Nat) (d:Nd):Prop where
 id:d.id=10*s+j
 nodes:∀ x∈d.nodes,0<=x/\x<=60
 log:∀ a∈d.log,DO a
def D6 (H:Hs):Nat:=((Wh 1 H.m).filter fun i=>decide ((H.tx i).ag≠0)).length
structure Wf (H:Hs):Prop where
 n4:H.n<=4
 c3:H.c<=3
 bz:H.m<=60
 nd:∀ s j,s<H.c->j<H.n->Cb s j ((H.sh s).nd j)
 tab:∀ s,s<H.c->Da (H.sh s).tab
 sto:∀ s,s<H.c->Db (H.sh s).sto
 ao:∀ s,s<H.c->∀ i,(H.sh s).ao i=VJ->0<=i/\i<=60
 net:∀ m∈H.net.l,Gn m
 down:∀ i,H.net.ao i=VJ->0<=i/\i<=60
 tx:∀ i,1<=i->i<=H.m->EX (H.tx i)
 tm:H.ag=D6 H
 cR:∀ i,1<=i->i<=H.m->0<=(H.tx i).ag/\(H.tx i).ag<=H.ag
def Te (H:Hs):D6 H<=H.m:=by
 unfold D6;exact VO (WL _ _) (by simp)
def EX.bD {t:Bl} (h:EX t):t.aj.length<=4:=by
 have c:(t.aj.map (·.1)).length<=names.length:=WI h.wnd (fun x d=>by
  obtain⟨a,f,rfl⟩:=List.mem_map.1 d;exact h.wn a f)
 rw[We] at c;exact c
section
variable {H H':Hs}
def Wf.bk (h:Wf H):0<=H.ag/\H.ag<=60:=by have:=h.tm;have:=Te H;have:=h.bz;omega
def Wf.idOk (h:Wf H) (hs:s<H.c) (a:j<H.n):EW ((H.sh s).nd j).id:=by
 have:=(h.nd s j hs a).id;have:=h.c3;have:=h.n4;exact FH (by omega) (by omega)
def Wf.da (h:Wf H) (hs:s<H.c):BE H s:=⟨h.bz,fun i c a=>by have:=(h.tx i c a).bD;omega,h.tab s hs,h.sto s hs⟩
def EX.sub {t t':Bl} (h:EX t) (d:t'.ad=t.ad) (m:t'.ae=t.ae) (l:t'.places=t.places) (c:t'.aj.Sublist t.aj):EX t':=
 ⟨by rw[d];exact h.br,by rw[d];exact h.ps,by rw[m];exact h.sh,by rw[l];exact h.pl,fun a f=>h.wn a (c.subset f),h.wnd.sublist (c.map _)⟩
def NW (c:H'.m=H.m) (a:∀ i,(H'.tx i).ag=(H.tx i).ag):D6 H'=D6 H:=by
 unfold D6;rw[c];congr 1;apply XA;intro i _;rw[a]
def Wf.of (h:Wf H) (z:H'.n=H.n) (p:H'.c=H.c) (q:H'.m=H.m) (y:H'.ag=H.ag) (u:∀ s j,s<H.c->j<H.n->Cb s j ((H'.sh s).nd j)) (f:∀ s,s<H.c->Da (H'.sh s).tab) (l:∀ s,s<H.c->Db (H'.sh s).sto)
  (c:∀ s,s<H.c->(H'.sh s).ao=(H.sh s).ao) (o:∀ m∈H'.net.l,Gn m) (a:H'.net.ao=H.net.ao) (r:∀ i,1<=i->i<=H.m->EX (H'.tx i)) (d:∀ i,(H'.tx i).ag=(H.tx i).ag):Wf H':=
 ⟨by rw[z];exact h.n4,by rw[p];exact h.c3,by rw[q];exact h.bz,by rw[p,z];exact u,by rw[p];exact f,by rw[p];exact l,by rw[p];exact fun s hs i x=>h.ao s hs i (by rw[<- c s hs];exact x),o,
  fun i x=>h.down i (by rw[<- a];exact x),by rw[q];exact r,by rw[y,NW q d];exact h.tm,by rw[q,y];exact fun i B A=>by rw[d];exact h.cR i B A⟩
def Fb {s:Nat} {l:List Cm} : ∀ (k:Nat) (H:Hs) (i:Nat),((Hs.aO s l k H).tx i).aj.Sublist (H.tx i).aj
 | 0,H,i=>XC _
 | k+1,H,i=>by
  unfold Hs.aO;split
  ·exact XC _
  ·rename_i c a;refine(Fb k _ i).trans ?_;show(((H.aE s l (H.sh s).done c)).tx i).aj.Sublist _;unfold Hs.aE;split
   ·exact XC _
   ·split
    ·exact Ya
    ·split
     ·exact Ya
     ·exact XC _
def KI (H:Hs) (s i:Nat):((H.take s).tx i).aj.Sublist (H.tx i).aj:=by
 unfold Hs.take;split
 ·exact XC _
 ·exact Fb _ _ _
def Wf.take (h:Wf H) {s:Nat} (hs:s<H.c):Wf (H.take s):=by
 have c:=Bz.take H s;have f:BE (H.take s) s:=by
  unfold Hs.take;split
  ·exact h.da hs
  ·rename_i j l;refine BE.aO (fun a o=>?_) _ _ (h.da hs);have m:j<H.n:=by
    have:=Xx l;unfold Bm.ah at this;exact List.mem_range.1 (List.mem_filter.1 this).1
   exact(h.nd s j hs m).log a o
 refine h.of c.n c.c c.m c.ag (fun k j d l=>?_) (fun k d=>?_) (fun k d=>?_) (fun k d=>?_) (by rw[c.net];exact h.net) (by rw[c.net]) (fun i q p=>(h.tx i q p).sub (c.tx i).2.1 (c.tx i).2.2.1 (c.tx i).2.2.2.1 (KI H s i)) (fun i=>(c.tx i).2.2.2.2)
 ·by_cases e:k=s
  ·rw[e,c.nd];exact h.nd s j hs l
  ·rw[c.sh k e];exact h.nd k j d l
 ·by_cases e:k=s
  ·rw[e];exact f.tab
  ·rw[c.sh k e];exact h.tab k d
 ·by_cases e:k=s
  ·rw[e];exact f.sto
  ·rw[c.sh k e];exact h.sto k d
 ·by_cases e:k=s
  ·rw[e,c.ao]
  ·rw[c.sh k e]
def qba:∀ (ms:List Ms) (s:AW) (m:Ms),m∈(Em s ms).l->m∈s.l\/m∈ms
 | [],s,m,h=>.inl h
 | x::ms,s,m,h=>by
  rcases qba ms (AN s x) m h with h|h
  ·unfold AN at h;split at h
   ·exact .inl h
   ·rcases List.mem_append.1 h with h|h
    ·exact .inl h
    ·rw[VW] at h;subst h;exact .inr (VH ..)
  ·exact .inr (VI _ h)
def Wf.send (h:Wf H) {ms:List Ms} (c:∀ m∈ms,Gn m):Wf (H.send ms):=
 h.of rfl rfl rfl rfl h.nd h.tab h.sto (fun _ _=>rfl) (fun m a=>(qba ms H.net m a).elim (h.net m) (c m)) (q31 ms H.net) h.tx (fun _=>rfl)
def Wf.aq (h:Wf H) {s j:Nat} {d:Nd} (l:Cb s j d):Wf (H.aq s j d):=by
 refine h.of rfl rfl rfl rfl (fun k i a c=>?_) (fun k a=>?_) (fun k a=>?_) (fun k a=>?_) h.net rfl h.tx (fun _=>rfl)
 ·show Cb k i ((Af H.sh s { H.sh s with nd:=Af (H.sh s).nd j d } k).nd i);by_cases e:k=s
  ·subst e;rw[An];show Cb k i (Af (H.sh k).nd j d i);by_cases f:i=j
   ·subst f;rw[An];exact l
   ·rw[As f];exact h.nd k i a c
  ·rw[As e];exact h.nd k i a c
 ·show Da (Af H.sh s { H.sh s with nd:=Af (H.sh s).nd j d } k).tab;by_cases e:k=s
  ·subst e;rw[An];exact h.tab k a
  ·rw[As e];exact h.tab k a
 ·show Db (Af H.sh s { H.sh s with nd:=Af (H.sh s).nd j d } k).sto;by_cases e:k=s
  ·subst e;rw[An];exact h.sto k a
  ·rw[As e];exact h.sto k a
 ·show(Af H.sh s { H.sh s with nd:=Af (H.sh s).nd j d } k).ao=_;by_cases e:k=s
  ·subst e;rw[An]
  ·rw[As e]
def UH (h:Cb s j d) (b:Int):0<=d.a4 b/\d.a4 b<=60:=by
 unfold Nd.a4;cases e:d.nodes[(d.at_+b).toNat]? with
 | none=>simp
 | some x=>exact h.nodes x (S2 e)
def Cb.cV (h:Cb s j d) (hs:s<3) (a:j<4):0<=d.id/\d.id<=60:=by have:=h.id;omega
def GC (h:Cb s j d) (hs:s<3) (c:j<4) (kind b k:Int) (a:kind≠3):Gn (d.msg kind b k):=⟨h.cV hs c,UH h b,fun e=>absurd e a,by show Vo.ad.length<=20;decide⟩
def qat (h:Cb s j d) (hs:s<3) (f:j<4) (a:k<d.log.length):Gn (d.forward k):=by
 have c:DO ((d.log[k]?).getD Vo):=by rw[L1 a];exact h.log _ (Wv a)
 exact⟨h.cV hs f,UH h 1,fun _=>c,c.br⟩
def q8z (h:Cb s j d) (hs:s<3) (c:j<4):Cb s j d.tick.1/\∀ m∈d.tick.2,Gn m:=by
 unfold Nd.tick;split
 ·exact⟨h,fun m a=>by cases a⟩
 ·split
  ·refine⟨⟨h.id,h.nodes,h.log⟩,fun m a=>?_⟩;split at a
   ·rw[List.mem_singleton.1 a];exact GC h hs c _ _ _ (by decide)
   ·cases a
  ·exact⟨h,fun m a=>by rw[List.mem_singleton.1 a];exact GC h hs c _ _ _ (by decide)⟩
def Gy (h:Cb s j d) {c:Cm} (f:DO c):Cb s j (d.push c):=⟨h.id,h.nodes,fun a l=>(List.mem_append.1 l).elim (h.log a) (fun h=>by rw[List.mem_singleton.1 h];exact f)⟩
def MH (h:Cb s j d) (hs:s<3) (f:j<4) {c:Cm} (a:DO c):Cb s j (d.grow c).1/\∀ m∈(d.grow c).2,Gn m:=by
 unfold Nd.grow;split
 ·exact q8z (Gy h a) hs f
 ·exact⟨Gy h a,fun m l=>by rw[List.mem_singleton.1 l];exact qat (Gy h a) hs f (by show _<(d.log++[c]).length;simp)⟩
def PQ (h:Cb s j d) (hs:s<3) (f:j<4) {c:Cm} (l:DO c) (b:Bool):Cb s j (d.add c b).1.1/\∀ m∈(d.add c b).1.2,Gn m:=by
 unfold Nd.add;split
 ·exact⟨h,fun m a=>by cases a⟩
 ·split
  ·exact⟨h,fun m a=>by cases a⟩
  ·exact MH h hs f l
def MF (h:Cb s j d) (hs:s<3) (c:j<4) (f:Gn m):Cb s j (d.step m).1/\∀ x∈(d.step m).2,Gn x:=by
 rw[qc8];split
 ·exact⟨h,fun x a=>by cases a⟩
 ·split
  ·exact⟨h,fun x a=>by rw[List.mem_singleton.1 a];exact GC h hs c _ _ _ (by decide)⟩
  ·split
   ·refine⟨h,fun x a=>?_⟩;obtain⟨k,l,rfl⟩:=List.mem_map.1 a;rw[Xz] at l;exact qat h hs c (by omega)
   ·split
    ·rename_i o;exact MH h hs c (f.cmd o.1)
    ·split
     ·refine⟨⟨h.id,h.nodes,h.log⟩,fun x a=>?_⟩;split at a
      ·rw[List.mem_singleton.1 a];exact GC h hs c _ _ _ (by decide)
      ·cases a
     ·exact⟨h,fun x a=>by cases a⟩
def MG (h:Cb s j d) (e:Int) {c:List Int} (f:∀ x∈c,0<=x/\x<=60):Cb s j (d.join e c):=by
 unfold Nd.join;split
 ·exact⟨h.id,f,fun a l=>by cases l⟩
 ·exact⟨h.id,f,h.log⟩
def KS (H:Hs) (s j:Nat):H.aq s j ((H.sh s).nd j)=H:=by
 unfold Hs.aq Hs.ar;rw[qc1];show({ H with sh:=Af H.sh s (H.sh s) } : Hs)=H;rw[qc1]
def Wf.add (h:Wf H) {s j:Nat} (hs:s<H.c) (a:j<H.n) {c:Cm} (d:DO c) (b:Bool):Wf (H.add s j c b).2:=by
 have l:s<3:=by have:=h.c3;omega
 have f:j<4:=by have:=h.n4;omega
 unfold Hs.add;split
 ·exact h
 ·obtain⟨o,m⟩:=PQ (h.nd s j hs a) l f d b;exact((h.aq o).send m).take hs
end
def CK (s:Nat) (t:Tg):Prop:=CZ s t\/Qd t
def KL (H:Hs) (s i:Nat) (l:List Cm) (c:Cm):((H.aE s l i c).sh s).done=(H.sh s).done:=by
 unfold Hs.aE;split
 ·rw[Cl]
 ·split
  ·rw[IZ,Cl]
  ·split
   ·rw[IZ]
   ·rfl
def cund:Tryz.prog.underlying 66=Bs (.slice 69):=Tryz.underlying66
def celem:Tryz.prog.elem 66=69:=by kernel_rfl
def csize (w:D0):(sizeOf 69).run Tryz.prog w=.ok 4 w:=by kernel_rfl
def Gp (P:Aq) (own:Ah) (s:Nat) (a:Hs) (w2:D0) (wr:D0):Prop:=∃ own',HI wr own' P a/\HZ (CK s) w2 own wr own'
def Vv (P:Aq) (own:Ah) (H:Hs) (s:Nat) (l:List Cm) (w2:D0) (wr:D0):Prop:=
 ∃ (i:Nat) (a:Hs),Gp P own s a w2 wr/\BE a s/\Bz H a s/\(a.sh s).done=i/\Hs.aO s l (l.length-(H.sh s).done) H=Hs.aO s l (l.length-i) a
def Nq (P:Aq) (own:Ah) (H:Hs) (s:Nat) (w:D0) (e:WC) (w':D0):Prop:=e=.returned (.tuple #[])/\∃ own',HI w' own' P (H.take s)/\HZ (CK s) w own w' own'
def Sg (P:Aq) (s:Nat) (c:Hs) (x:By) (d:D0) (a:Ah) (v:O0) (wr:D0):Prop:=
 ∃ (p:Nat) (own':Ah),v=.int .i64 p/\p<=x.n/\HI wr own' P (c.ar s { c.sh s with tab:=Cx (c.sh s).tab x.c.tx (x.c.ad.take p) })/\HZ (CK s) d a wr own'
def Ki (P:Aq) (s:Nat) (c:Hs) (x:By) (l:List Cm) (i:Nat) (d:D0) (a:Ah) (v:O0) (wr:D0):Prop:=
 ∃ (q:Nat) (own':Ah),v=.int .i64 q/\q<=i/\HI wr own' P (c.ar s { c.sh s with sto:=Bk (c.sh s).sto (l.take q) x.c })/\HZ (CK s) d a wr own'
def Sf (P:Aq) (s:Nat) (c:Hs) (f:Kp) (x y:By) (d:D0) (a:Ah) (v:O0) (wr:D0):Prop:=
 ∃ (p:Nat) (own':Ah),v=.int .i64 p/\p<=y.n/\HI wr own' P (c.ar s { c.sh s with sto:=CM f x.c.ag (y.c.ad.take p) })/\HZ (CK s) d a wr own'
section
variable {w w':D0} {own own':Ah} {P:Aq} {H:Hs}
def HZ.b9 {t:VV} {a:Array O0} (c:HZ Z w own w' own') (f:Ae w g t a) (d:own g=B0):Ae w' g t a:=c.fr.ak f (fun h=>h.owned d)
def HI.free (h:HI w own P H) {b:Nat} (a:w.heap.size<=b):own b=B0:=by
 cases e:own b with
 | none=>rfl
 | some t=>have:=h.lt b (by rw[e];simp);omega
def Qh (h:HI w own P H) (hs:s<H.c) (hn:H.n<=100) (bt:∀ j,j<H.n->EW ((H.sh s).nd j).id) (bp:BE H s) (bl:∀ j,j<H.n->∀ a∈((H.sh s).nd j).log,DO a) :
  VY Tryz.prog 52 #[pw P.g,pw (P.gs s)] w (Nq P own H s w):=by
 have a2:=LH (FA h hs hn bt);have ag:H.take s=match H.head s with|none=>H|some j=>Hs.aO s ((H.sh s).nd j).log (((H.sh s).nd j).log.length-(H.sh s).done) H:=rfl
 have br:∀ j,H.head s=Bs j->j<H.n:=fun j e=>by
  have:=Xx e;unfold Bm.ah at this;exact List.mem_range.1 (List.mem_filter.1 this).1
 have HH:=LH h;have c9:=LH bp;have bI:=LH bl;clear h bt bp bl;rcases hh:H.head s with _|j
 ·rw[hh] at ag;unfold ED at a2;rw[hh] at a2;have aO:=LH ag;clear ag hh;unfold pw C9 at *;go_enter Tryz.func52,Tryz.ntmps52;go_wp2_with fail;refine a2.o.mono ?_;rintro e w1 ⟨rfl,a8⟩;have m:Nq P own H s w (.returned (.tuple #[])) w1:=⟨rfl,own,by rw[aO.o];exact HH.o.below a8,HZ.below own a8⟩
  have HF:=LH m;clear m a8;go_wp2_with fail;refine bodyPost_ret (results_none rfl _ _ _) rfl ?_;exact HF.o
 ·have hj:=br j hh;rw[hh] at ag;unfold ED at a2;rw[hh] at a2;have aO:=LH ag;clear ag br hh;unfold C9 at a2;unfold pw at *;go_enter Tryz.func52,Tryz.ntmps52;go_wp2_with fail;refine a2.o.mono ?_;rintro e w1 ⟨rfl,a8⟩;have ba:=HH.o.below a8;obtain⟨C,V,L,b8,bA⟩:=ba.nd s j hs hj;have bQ:=LH (qa0 b8);have bg:=LH a8;have cc:=LH bA;have bO:=LH b8;have be:=LH ba;clear a8 bA b8 ba a2;go_wp2_with fail;refine bQ.o.mono ?_;rintro e w2 ⟨A5,k5,rfl,a6,aL,au⟩;have bB:=be.o.below aL;have aM:=bO.o.aC aL;have aU:=aM.log;have cv:=aM.len;have bW:L.length<=k5:=by obtain⟨_,_,e5,h5,_⟩:=AR a6;injection e5 with _ _ e5;omega
  have aG:=LH (fun b hb=>be.o.free (au b hb));have aZ:=LH a6;have cg:=LH bB;have cd:=LH aM;have ck:=LH (bg.o.trans (aL.mono bg.o.size));have aB:=LH (fun a (ha:a∈AM L)=>bI.o j hj a (by rw[<- aU];exact ha));rw[<- aU] at aO;have ca:=LH (fun W c (hz:HZ (CK s) w2 own W c)=>cd.o.fr hz.fr (fun b hb bS=>by
   have:=bS.tag (cc.o b hb);rcases this with (h|h|h|h|h)|⟨i,h⟩ <;> cases h))
  have bd:=LH (fun W c (hz:HZ (CK s) w2 own W c)=>Py aZ.o aG.o hz);clear a6 aL au bB aM bQ bO be bg bI aG aZ;have cm:(AM L).length=L.length:=by simp[AM]
  go_wp2_with fail;go_loopw [6] (fun _ wr=>Vv P own H s (AM L) w2 wr) (fun _ wr=>L.length-(intOf ((wr.cell? ⟨P.gs s,7,B0⟩).getD undef)).toNat)
  case atStart=>exact⟨(H.sh s).done,H,⟨own,cg.o,HZ.refl _ _ _⟩,c9.o,Bz.refl _ _,rfl,rfl⟩
  case round=>
   obtain⟨i,z,⟨c,ai,a9⟩,ar,ad,aK,Z⟩:=hrel;have a5:s<z.c:=by rw[ad.c];exact hs
   obtain⟨v,hv⟩:=ai.sh s a5;obtain⟨_,_,_,_,c7,gl⟩:=hv.cells;rw[aK] at c7;by_cases bU:i<L.length
   ·have d1:decide ((i:Int)<(L.length:Int))=VJ:=decide_eq_true (by omega);obtain⟨gz,kz,bX,_,_⟩:=Lk (bd.o _ _ a9) (by omega);injection bX with hA5 _ hk5;subst hA5 hk5;obtain⟨cx,ol,x,bD,aV,hx,l0,l1,l2,l3⟩:=rd4 (Rd.ay (bd.o _ _ a9)) rfl bU;simp only[VR,W1,and_true] at bD;obtain⟨rfl,rfl⟩:=bD;rw[Wx] at l0 l1 l2 l3;have HX:=LH hx;have b3:(AM L)[i]? = Bs x.c:=by rw[AM,V8,hx];rfl
    have c2:=LH b3;have N:=LH (aB.o x.c (S2 b3));have bx:Ae (wr.alloc (.cells #[.int .i64 x.c.ai,.int .i64 x.c.tx,.int .i64 x.c.ag,.slice x.A x.n x.k] 69)) wr.heap.size 69 #[.int .i64 x.c.ai,.int .i64 x.c.tx,.int .i64 x.c.ag,.slice x.A x.n x.k]:=Ae.new wr _ _;have b7:VP wr.heap.size wr (wr.alloc (.cells #[.int .i64 x.c.ai,.int .i64 x.c.tx,.int .i64 x.c.ag,.slice x.A x.n x.k] 69)):=(VK _ _).alloc (K0 _) _;have aW:c wr.heap.size=B0:=ai.free (K0 _);have aE:=LH (ai.below b7);have aj:=LH (a9.trans (HZ.below c b7));have ae:=LH aW;have Y:=LH bx;have O:=LH ar;have bL:=LH ad;have bf:=LH aK;have bJ:=LH Z;have bR:w2.heap.size<=wr.heap.size:=a9.fr.size;have C7:=LH c7;clear hx b3 bx b7 aW ar ad aK Z ai a9 hv;go_upto_block 1 with (fail)
    clear c7;go_cut [] (fun wx=>Gp P own s (z.aE s (AM L) i x.c) w2 wx)
    case first=>
     have c7:=C7.o;go_upto_region 6 with (fail)
     clear l0 l1 l2 l3 c7 aV d1;generalize bv:wr.alloc (.cells #[.int .i64 x.c.ai,.int .i64 x.c.tx,.int .i64 x.c.ag,.slice x.A x.n x.k] 69)=J at *;generalize cn:wr.heap.size=X at *;have ac:=LH (fun W own' (hz:HZ (CK s) J c W own')=>hz.b9 Y.o ae.o);have aP:=LH (fun W own' (hz:HZ (CK s) J c W own')=>ca.o W own' (aj.o.trans hz));clear bv;have q0:=Y.o.cell 0;have q1:=Y.o.cell 1;have q2:=Y.o.cell 2;have q3:=Y.o.cell 3;simp only[Hi,Ft,N2] at q0 q1 q2 q3;have ql:=Y.o.lt;clear C7;by_cases k2:x.c.ai=2
     ·rw[k2] at q0;have aC:=LH (show z.aE s (AM L) i x.c=z.ar s { z.sh s with tab:=Cx (z.sh s).tab x.c.tx x.c.ad } by unfold Hs.aE;rw[if_pos k2]);have ao:Sg P s z x J c (.int .i64 (0:Nat)) J:=⟨0,c,rfl,VN _,by rw[XM];show HI J c P (z.ar s { z.sh s with tab:=(z.sh s).tab });rw[q7o];exact aE.o,HZ.refl _ _ _⟩
      have bc:=LH ao;clear ao;have b2:=(aP.o _ _ (HZ.refl _ _ _)).own x (S2 HX.o);have cu:x.c.ad.length=x.n:=b2.2.1;have ct:x.n<=100000:=b2.2.2;clear b2;go_wp2_with fail;go_loopw [47] (Sg P s z x J c) (fun v _=>x.n-(intOf v).toNat)
      case atStart=>exact bc.o
      case round=>
       obtain⟨p,l,rfl,hp,A,u⟩:=hrel;by_cases b5:(p:Int)<x.n
       ·have bj:=((aP.o _ _ u).own x (S2 HX.o)).reads;obtain⟨gp,op,E,hA,b6,ah,p0,p1,p2⟩:=bj.at_ (k:=p) (by omega);have bM:=LH ah;have cf:=LH A;have bY:=LH u;have dl:decide ((p:Int)<(x.n:Int))=VJ:=decide_eq_true (by omega);have aX:=(ac.o _ _ u).lt;have bo:Ae (wr.alloc (.cells #[.string E.key,.string E.val,.bool E.gone] 45)) wr.heap.size 45 #[.string E.key,.string E.val,.bool E.gone]:=Ae.new wr _ _;have ak:=LH bo;have Q:=(VK wr.heap.size wr).alloc (K0 _) (.cells #[.string E.key,.string E.val,.bool E.gone] 45);have aQ:=LH ((ac.o _ _ u).below Q aX);have ab:=LH (A.below Q);have c8:=LH (A.free (K0 _));have ch:=LH (show l X=B0 from(u.ext X Y.o.lt).trans ae.o);have a1:=LH (u.trans (HZ.below l Q));clear bj ah A u bo cf bY Q aX;go_upto_region 11 with (fail)
        clear p0 p1 p2 b6 dl hA;generalize wr.alloc (.cells #[.string E.key,.string E.val,.bool E.gone] 45)=w6 at *;generalize wr.heap.size=pb at *;have aT:=O.o.bV (T:=Cx (z.sh s).tab x.c.tx (x.c.ad.take p)) (Da.prep N.o.tx _ O.o.tab (fun q hq=>N.o.ps q (Wy hq)));have ay:=ab.o.below (VK w6.heap.size w6).drew;have bq:=qa6 ay (show s<_ from a5) x.c.tx 2 E.key N.o.tx (N.o.ps E (S2 bM.o)).1 (.inr rfl) aT.tab;have bP:=LH bq;have r1:w6.drew.cell? ⟨X,1,B0⟩=Bs (.int .i64 x.c.tx):=aQ.o.cell 1;have r2:w6.drew.cell? ⟨pb,0,B0⟩=Bs (.string E.key):=ak.o.cell 0;have aA:=LH (a1.o.trans (HZ.below l (VK w6.heap.size w6).drew));clear bq ay aT ab a1;refine nW ?_;refine CF (fun W=>W.cell? ⟨X,1,B0⟩=Bs (.int .i64 x.c.tx)/\W.cell? ⟨pb,0,B0⟩=Bs (.string E.key)) 12 (fun _ _ _ _ _ h=>h) (fun f=>?_);have d:=Wm r1 r2;refine nD 0 [1,2,7,8,9,10,11] f d ?_;refine nD 1 [2,7,8,9,10,11] f d ?_;refine nD 2 [7,8,9,10,11] f d ?_;refine nD 3 [4,7,8,9,10,11] f d ?_;refine nA 4 [7,8,9,10,11] rfl rfl f d (fun w' a4=>by obtain⟨h1,h2⟩:=a4;go_simp;rfl) ?_;refine nD 5 [6,7,8,9,10,11] f d ?_;refine nA 6 [7,8,9,10,11] rfl rfl f d (fun w' a4=>by obtain⟨h1,h2⟩:=a4;go_simp;rfl) ?_;clear d r1 r2;refine nG 7 (fun KK hK=>?_);go_simp;refine bP.o.mono ?_;rintro e w7 ⟨cq,l7,cz,A7,bF,R,rfl,_,I,B,_,_⟩;rw[q6e,Cl] at I;have ap:Sg P s z x J c (.int .i64 ((p+1:Nat):Int)) w7:=⟨p+1,R,rfl,by omega,by rw[Lg _ _ bM.o];exact I,aA.o.trans (B.mono (fun t ht=>.inl ht))⟩
        have c4:=LH ap;have d:=Wm ((B.b9 (show Ae w6.drew X _ _ from aQ.o) ch.o).cell 1) ((B.b9 (show Ae w6.drew pb _ _ from ak.o) c8.o).cell 0);clear ap I B bP;go_simp;refine hK _ _ (fun _=>d) ?_;clear hK KK;refine nD 8 [9,10,11] f d ?_;refine nD 9 [] f d ?_;refine nD 10 [] f d ?_;refine nD 11 [] f d ?_;clear d;refine nX ?_;clear f;go_wp2_with fail;go_roundw
        ·exact c4.o
        ·simp[intOf];omega
       ·have dl:decide ((p:Int)<(x.n:Int))=Jx:=decide_eq_false (by omega);rw[V0 (by omega)] at A;have m:Gp P own s (z.aE s (AM L) i x.c) w2 wr:=⟨l,by rw[aC.o];exact A,aj.o.trans u⟩
        have HF:=LH m;clear m A u;go_wp2_with fail;go_meet;exact HF.o
     ·have e2:(x.c.ai == 2)=Jx:=by simpa using k2
      by_cases k3:x.c.ai=3
      ·have aC:=LH (show z.aE s (AM L) i x.c=(z.ar s { z.sh s with sto:=Bk (z.sh s).sto ((AM L).take i) x.c }).rel s x.c.tx by unfold Hs.aE;rw[if_neg k2,if_pos k3]);rw[k3] at q0;clear k2 e2;have ao:Ki P s z x (AM L) i J c (.int .i64 (0:Nat)) J:=⟨0,c,rfl,VN _,by rw[XM];show HI J c P (z.ar s { z.sh s with sto:=(z.sh s).sto });rw[q7o];exact aE.o,HZ.refl _ _ _⟩
       have bc:=LH ao;clear ao;obtain⟨v3,bm⟩:=aE.o.sh s a5;obtain⟨_,_,_,_,bE,cw⟩:=bm.cells;rw[bf.o] at bE;have s1:=q3v 66 cund celem csize J gz L.length k5 i (i:Int) rfl (by omega);clear bm;go_wp2_with fail;clear q0 q1 q2 q3 bE s1;go_loopw [73] (Ki P s z x (AM L) i J c) (fun v _=>i-(intOf v).toNat)
       case atStart=>exact bc.o
       case round=>
        obtain⟨q,l,rfl,hq,A,u⟩:=hrel;have aQ:=LH (ac.o _ _ u);by_cases bn:(q:Int)<i
        ·have bT:q<L.length:=by omega
         have dl:decide ((q:Int)<(i:Int))=VJ:=decide_eq_true bn;obtain⟨gy,oy,y,bC,bV,hy,y0,y1,y2,y3⟩:=rd4 (Rd.ay (bd.o _ _ (aj.o.trans u))) rfl bT;simp only[VR,W1,and_true] at bC;obtain⟨rfl,rfl⟩:=bC;rw[Wx] at y0 y1 y2 y3;have HY:=LH hy;have b1:(AM L)[q]? = Bs y.c:=by rw[AM,V8,hy];rfl
         have aN:=LH (Ma (z.sh s).sto x.c b1);have bH:=LH (aB.o y.c (S2 b1));have Q:=(VK wr.heap.size wr).alloc (K0 _) (.cells #[.int .i64 y.c.ai,.int .i64 y.c.tx,.int .i64 y.c.ag,.slice y.A y.n y.k] 69);have c0:=LH (Ae.new wr 69 #[.int .i64 y.c.ai,.int .i64 y.c.tx,.int .i64 y.c.ag,.slice y.A y.n y.k]);have cC:=LH (A.free (K0 _));have ab:=LH (A.below Q);have a1:=LH (u.trans (HZ.below l Q));clear Q A u hy b1 aQ;go_upto_region 17 with (fail)
         clear y0 y1 y2 y3 bV dl;generalize wr.alloc (.cells #[.int .i64 y.c.ai,.int .i64 y.c.tx,.int .i64 y.c.ag,.slice y.A y.n y.k] 69)=w6 at *;generalize wr.heap.size=yb at *;have am:=c0.o;have q0:=am.cell 0;have q1:=am.cell 1;have q3:=am.cell 3;simp only[Hi,Ft,N2] at q0 q1 q3;have cp:=am.lt;have av:=ac.o _ _ a1.o;have c1:=av.cell 1;simp only[Hi,Ft,N2] at c1;have cA:=av.lt;clear am av;by_cases a3:y.c.ai=2
         ·rw[a3] at q0;by_cases af:y.c.tx=x.c.tx
          ·have et:(y.c.tx == x.c.tx)=VJ:=by simpa using af
           have bZ:=LH (aN.o.trans (if_pos ⟨a3,af⟩));clear aN a3 af;have aS:=O.o.cD (K:=Bk (z.sh s).sto ((AM L).take q) x.c) (Db.comm N.o _ O.o.sto (fun a ha=>aB.o a (Wy ha)));have ce:=LH (show Db (Bk (z.sh s).sto ((AM L).take q) x.c) by have:=aS.sto;rw[Cl] at this;exact this);have bK:=LH (show Sf P s z (Bk (z.sh s).sto ((AM L).take q) x.c) x y J c (.int .i64 (0:Nat)) w6 from⟨0,l,rfl,VN _,ab.o,a1.o⟩);have b0:=(aP.o _ _ a1.o).own y (S2 HY.o);have cs:y.c.ad.length=y.n:=b0.2.1;have cr:y.n<=100000:=b0.2.2;clear b0 aS ab;go_wp2_with fail;clear q0 q1 q3 c1 et;go_loopw [90] (Sf P s z (Bk (z.sh s).sto ((AM L).take q) x.c) x y J c) (fun v _=>y.n-(intOf v).toNat)
           case atStart=>exact bK.o
           case round=>
            obtain⟨p,R,rfl,hp,I,B⟩:=hrel;by_cases b5:(p:Int)<y.n
            ·have dl:decide ((p:Int)<(y.n:Int))=VJ:=decide_eq_true b5;have bi:=((aP.o _ _ B).own y (S2 HY.o)).reads;obtain⟨gp,op,E,hA,b6,ah,p0,p1,p2⟩:=bi.at_ (k:=p) (by omega);have c6:=LH (Lb (Bk (z.sh s).sto ((AM L).take q) x.c) x.c.ag ah);have c3:=LH (bH.o.ps E (S2 ah));have Q:=(VK wr.heap.size wr).alloc (K0 _) (.cells #[.string E.key,.string E.val,.bool E.gone] 45);have ak:=LH (Ae.new wr 45 #[.string E.key,.string E.val,.bool E.gone]);have bk:Db (CM (Bk (z.sh s).sto ((AM L).take q) x.c) x.c.ag (y.c.ad.take p)):=Db.puts N.o.ag.1 N.o.ag.2 _ ce.o (fun r hr=>bH.o.ps r (Wy hr));have aR:=RD ((I.below Q).below (VK _ _).drew) (show s<_ from a5) x.c.ag E N.o.ag c3.o (by rw[Cl];exact bk);have bN:=LH aR;have bG:=LH ((B.trans (HZ.below R Q)).trans (HZ.below R (VK _ _).drew));have aY:=(ac.o _ _ bG.o)
             have ci:=LH aY;clear bi ah Q bk aR I B aY;go_upto_region 21 with (fail)
             clear p0 p1 p2 b6 dl hA;generalize wr.alloc (.cells #[.string E.key,.string E.val,.bool E.gone] 45)=w8 at *;generalize wr.heap.size=pb at *;have r1:w8.drew.cell? ⟨X,2,B0⟩=Bs (.int .i64 x.c.ag):=ci.o.cell 2;have r2:w8.drew.cell? ⟨pb,0,B0⟩=Bs (.string E.key):=ak.o.cell 0;have r3:w8.drew.cell? ⟨pb,1,B0⟩=Bs (.string E.val):=ak.o.cell 1;have r4:w8.drew.cell? ⟨pb,2,B0⟩=Bs (.bool E.gone):=ak.o.cell 2;refine nW ?_;refine CF (fun W=>W.cell? ⟨X,2,B0⟩=Bs (.int .i64 x.c.ag)/\W.cell? ⟨pb,0,B0⟩=Bs (.string E.key)/\W.cell? ⟨pb,1,B0⟩=Bs (.string E.val)/\W.cell? ⟨pb,2,B0⟩=Bs (.bool E.gone)) 6 (fun _ _ _ _ _ h=>h) (fun f=>?_);have d:=Wm r1 (Wm r2 (Wm r3 r4));refine nD 0 [1,2,6] f d ?_;refine nD 1 [2,6] f d ?_;refine nD 2 [6] f d ?_;refine nD 3 [4,6] f d ?_;refine nA 4 [6] rfl rfl f d (fun w' a4=>by obtain⟨h1,h2,h3,h4⟩:=a4;go_simp;rfl) ?_;refine nA 5 [6] rfl rfl f d (fun w' a4=>by obtain⟨h1,h2,h3,h4⟩:=a4;go_simp;rfl) ?_;clear d r1 r2 r3 r4;refine nG 6 (fun KK hK=>?_);go_simp;refine bN.o.mono ?_;rintro e w9 ⟨cy,bh,rfl,b9,bz⟩;rw[q6e,Cl] at b9;have aa:=LH (show Sf P s z (Bk (z.sh s).sto ((AM L).take q) x.c) x y J c (.int .i64 ((p+1:Nat):Int)) w9 from⟨p+1,bh,rfl,by omega,by rw[c6.o];exact b9,bG.o.trans (bz.mono (fun t ht=>.inl ht))⟩);clear b9 bz bN;go_simp;refine hK _ _ nZ ?_;clear hK KK;refine nX ?_;clear f;go_wp2_with fail;go_roundw
             ·exact aa.o
             ·simp[intOf];omega
            ·have dl:decide ((p:Int)<(y.n:Int))=Jx:=decide_eq_false b5;rw[show y.c.ad.take p=y.c.ad from V0 (by omega)] at I;have aa:=LH (show Ki P s z x (AM L) i J c (.int .i64 ((q+1:Nat):Int)) wr from⟨q+1,R,rfl,by omega,by rw[bZ.o];exact I,B⟩);clear I B;go_wp2_with fail;go_roundw
             ·exact aa.o
             ·simp[intOf];omega
          ·have et:(y.c.tx == x.c.tx)=Jx:=by simpa using af
           have aa:=LH (show Ki P s z x (AM L) i J c (.int .i64 ((q+1:Nat):Int)) w6 from⟨q+1,l,rfl,by omega,by rw[aN.o,if_neg (fun h=>af h.2)];exact ab.o,a1.o⟩);clear a3 af;go_wp2_with fail;go_roundw
           ·exact aa.o
           ·simp[intOf];omega
         ·have ek:(y.c.ai == 2)=Jx:=by simpa using a3
          have aa:=LH (show Ki P s z x (AM L) i J c (.int .i64 ((q+1:Nat):Int)) w6 from⟨q+1,l,rfl,by omega,by rw[aN.o,if_neg (fun h=>a3 h.1)];exact ab.o,a1.o⟩);clear a3;go_wp2_with fail;go_roundw
          ·exact aa.o
          ·simp[intOf];omega
        ·have dl:decide ((q:Int)<(i:Int))=Jx:=decide_eq_false bn;obtain rfl:q=i:=by omega
         have U:=LH (O.o.cD (K:=Bk (z.sh s).sto ((AM L).take q) x.c) (Db.comm N.o _ O.o.sto (fun a ha=>aB.o a (Wy ha))));go_wp2_with fail;have S:=ac.o _ _ u;have r1:wr.drew.cell? ⟨X,1,B0⟩=Bs (.int .i64 x.c.tx):=S.cell 1;have aD:=LH (q5g (A.below (VK wr.heap.size wr).drew) (show s<_ from a5) x.c.tx (FH (by have:=N.o.tx;omega) (by have:=N.o.tx;omega)) U.o.tab);have bb:=LH ((aj.o.trans u).trans (HZ.below l (VK wr.heap.size wr).drew));have aI:=LH S;have aH:=LH (show l X=B0 from(u.ext X Y.o.lt).trans ae.o);clear A u S;refine nW ?_;refine CF (fun W=>W.cell? ⟨X,1,B0⟩=Bs (.int .i64 x.c.tx)) 8 (fun _ _ _ _ _ h=>h) (fun f=>?_);have d:=r1;refine nD 0 [8] f d ?_;refine nD 1 [8] f d ?_;refine nD 2 [3,4,7,8] f d ?_;refine nD 3 [4,7,8] f d ?_;refine nD 4 [7,8] f d ?_;refine nD 5 [6,7,8] f d ?_;refine nD 6 [7,8] f d ?_;clear d r1;refine nG 7 (fun KK hK=>?_);go_simp;refine aD.o.mono ?_;rintro e w7 ⟨V7,gs,R,rfl,G,M,bu,a0,I,B⟩;obtain⟨A7,bF,rfl,_,_⟩:=AR G;have a7:=q6o (s:=s) I (VO U.o.m (by omega)) (fun a h1 h2=>U.o.wn a h1 h2) G M (by omega);rw[a0] at a7;have aF:=LH a7;have aA:=LH (bb.o.trans (B.mono (fun t ht=>.inl ht)));have az:w7.cell? ⟨X,1,B0⟩=Bs (.int .i64 x.c.tx):=(B.b9 (show Ae wr.drew X _ _ from aI.o) aH.o).cell 1;clear a7 G M I a0 B aD;go_simp;refine hK _ _ (fun _=>az) ?_;clear hK KK az;refine nG 8 (fun KK hK=>?_);go_simp;refine aF.o.mono ?_;rintro e w8 ⟨rfl,al,ax,aw⟩;go_simp;refine hK _ _ nZ ?_;clear hK KK;refine nX ?_;clear f aF;have m:Gp P own s ((z.ar s { z.sh s with sto:=Bk (z.sh s).sto ((AM L).take q) x.c }).rel s x.c.tx) w2 w8:=⟨al,ax,aA.o.trans (aw.mono (fun t ht=>.inr ht))⟩
         rw[<- aC.o] at m;have HF:=LH m;clear m ax aw;go_wp2_with fail;go_meet;exact HF.o
      ·have e3:(x.c.ai == 3)=Jx:=by simpa using k3
       by_cases k4:x.c.ai=4
       ·have aC:=LH (show z.aE s (AM L) i x.c=z.rel s x.c.tx by unfold Hs.aE;rw[if_neg k2,if_neg k3,if_pos k4]);rw[k4] at q0;clear k2 e2 k3 e3;obtain⟨l,A,u⟩:∃ o,HI J o P z/\HZ (CK s) J c J o:=⟨c,aE.o,HZ.refl _ _ _⟩
        have U:=O;obtain⟨co,cl⟩:∃ W,W=J:=⟨J,rfl⟩
        go_wp2_with fail;have S:=ac.o _ _ u;have r1:J.drew.cell? ⟨X,1,B0⟩=Bs (.int .i64 x.c.tx):=S.cell 1;have aD:=LH (q5g (A.below (VK J.heap.size J).drew) (show s<_ from a5) x.c.tx (FH (by have:=N.o.tx;omega) (by have:=N.o.tx;omega)) U.o.tab);have bb:=LH ((aj.o.trans u).trans (HZ.below l (VK J.heap.size J).drew));have aI:=LH S;have aH:=LH (show l X=B0 from(u.ext X Y.o.lt).trans ae.o);clear A u S;refine nW ?_;refine CF (fun W=>W.cell? ⟨X,1,B0⟩=Bs (.int .i64 x.c.tx)) 8 (fun _ _ _ _ _ h=>h) (fun f=>?_);have d:=r1;refine nD 0 [8] f d ?_;refine nD 1 [8] f d ?_;refine nD 2 [3,4,7,8] f d ?_;refine nD 3 [4,7,8] f d ?_;refine nD 4 [7,8] f d ?_;refine nD 5 [6,7,8] f d ?_;refine nD 6 [7,8] f d ?_;clear d r1;refine nG 7 (fun KK hK=>?_);go_simp;refine aD.o.mono ?_;rintro e w7 ⟨V7,gs,R,rfl,G,M,bu,a0,I,B⟩;obtain⟨A7,bF,rfl,_,_⟩:=AR G;have a7:=q6o (s:=s) I (VO U.o.m (by omega)) (fun a h1 h2=>U.o.wn a h1 h2) G M (by omega);rw[a0] at a7;have aF:=LH a7;have aA:=LH (bb.o.trans (B.mono (fun t ht=>.inl ht)));have az:w7.cell? ⟨X,1,B0⟩=Bs (.int .i64 x.c.tx):=(B.b9 (show Ae J.drew X _ _ from aI.o) aH.o).cell 1;clear a7 G M I a0 B aD;go_simp;refine hK _ _ (fun _=>az) ?_;clear hK KK az;refine nG 8 (fun KK hK=>?_);go_simp;refine aF.o.mono ?_;rintro e w8 ⟨rfl,al,ax,aw⟩;go_simp;refine hK _ _ nZ ?_;clear hK KK;refine nX ?_;clear f aF;have m:Gp P own s (z.rel s x.c.tx) w2 w8:=⟨al,ax,aA.o.trans (aw.mono (fun t ht=>.inr ht))⟩
        rw[<- aC.o] at m;have HF:=LH m;clear m ax aw;go_wp2_with fail;go_meet;exact HF.o
       ·have e4:(x.c.ai == 4)=Jx:=by simpa using k4
        have m:Gp P own s (z.aE s (AM L) i x.c) w2 J:=⟨c,by unfold Hs.aE;rw[if_neg k2,if_neg k3,if_neg k4];exact aE.o,aj.o⟩
        have HF:=LH m;clear m k2 k3 k4;go_wp2_with fail;go_meet;exact HF.o
    case rest=>
     obtain⟨l,A,u⟩:=hcut;rename D0=>w5
     obtain⟨v5,an⟩:=A.sh s (by rw[(Bz.aE z s i (AM L) x.c).c];exact a5);obtain⟨_,_,_,_,k7,kl⟩:=an.cells;have z7:=an.tab.ak.frozen 7;rw[KL,bf.o] at k7;have b4:=an.bQ (i+1);have aJ:Fr (OS l (CZ s)) w5 (w5.setCell ⟨P.gs s,7,B0⟩ (.int .i64 ((i+1:Nat):Int))):=(Fr.a6 (P.gs s) w5 7 _).mono (fun b _ e=>⟨_,by rw[e];exact an.gt,.inl rfl⟩);have ay:=A.setSh' (x':={ (z.aE s (AM L) i x.c).sh s with done:=i+1 }) rfl aJ (Ext.refl l _) (fun b hb=>VL (A.lt b hb) aJ.size) ⟨_,b4⟩;have aq:Vv P own H s (AM L) w2 (w5.setCell ⟨P.gs s,7,B0⟩ (.int .i64 ((i+1:Nat):Int))):=by
      refine⟨i+1,z.taken s (AM L) i x.c,⟨l,ay,u.trans ⟨Ext.refl l _,aJ.mono (fun _ _ ⟨t,a,b⟩=>⟨t,a,.inl b⟩),fun _ _ h=>h⟩⟩,O.o.taken N.o aB.o,bL.o.trans (Bz.taken _ _ _ _ _),by unfold Hs.taken;rw[Cl],?_⟩;rw[bJ.o,show(AM L).length-i=((AM L).length-(i+1))+1 by omega];exact q5v bf.o c2.o
     have bw:=b4.cells.2.2.2.2.1;have c5:=LH aq;have cj:=LH bw;clear aq bw ay aJ b4 an A u l0 l1 l2 l3 d1 aV;go_wp2_with fail;go_roundw
     case rel=>exact c5.o
     case measure=>
      rw[show(((w5.setCell ⟨P.gs s,7,B0⟩ (.int .i64 ((i:Int)+1))).cell? ⟨P.gs s,7,B0⟩).getD undef)=.int .i64 ((i:Int)+1) from congrArg (fun o=>o.getD undef) cj.o,C7.o];simp[intOf];omega
   ·have d1:decide ((i:Int)<(L.length:Int))=Jx:=decide_eq_false (by omega);rw[show(AM L).length-i=0 by omega] at Z;have m:Nq P own H s w (.returned (.tuple #[])) wr:=⟨rfl,c,by rw[aO.o,Z];exact ai,(HZ.below own ck.o).trans a9⟩
    have HF:=LH m;clear m ai a9 Z hv ar ad aK;go_wp2_with fail
    go_end0
    exact HF.o
def Rj (s j:Nat) (t:Tg):Prop:=t=.nd s j
def QI (t:Tg):Prop:=t=.hs\/t=.net
def HI.node (h:HI w own P H) {d:O0} {L f:List By} {y:Nd} (p:∀ b,CC (P.gn s j) C V L b->own b=Bs (.nd s j))
  (r:BI w' 0 (P.gn s j) l d f y) (u:Fr (CC (P.gn s j) C V L) w w') (o:∀ q,CC (P.gn s j) l d f q->CC (P.gn s j) C V L q\/w.heap.size<=q) :
  ∃ own',HI w' own' P (H.aq s j y)/\HZ (Rj s j) w own w' own'/\∀ b,w.heap.size<=b->own' b=B0\/own' b=Bs (.nd s j):=by
 have c:Fr (OS own (Rj s j)) w w':=u.mono (fun b _ a=>⟨_,p b a,rfl⟩);have x:Ext own (DK own w.heap.size (CC (P.gn s j) l d f) (.nd s j)) w.heap.size:=QS;have m:=QP (own:=own) (t:=.nd s j) u.size (fun b a=>(r.aw a).2);refine⟨_,h.setNd' c x m ⟨l,d,f,r,fun b a=>QQ ((o b a).imp (p b) id) a⟩,⟨x,c,(by first|exact Pz (by simp)|exact fun _ _ h=>h)⟩,fun b a=>?_⟩;unfold DK;rw[if_neg (by omega)];split
 ·exact .inr rfl
 ·exact .inl rfl
def Nx (P:Aq) (H:Hs) (own:Ah) (s j:Nat) (a:Nd) (ms:List Ms) (w:D0) (V:O0) (w':D0):Prop:=
 BA w.heap.size ms V w'/\∃ own',HI w' own' P (H.aq s j a)/\HZ (Rj s j) w own w' own'/\∀ b,w.heap.size<=b->own' b=B0\/own' b=Bs (.nd s j)
def OY (h:HI w own P H) (hs:s<H.c) (p:j<H.n) (m:Ms) (A:Option Addr) (n k:Nat) (r:FE w w.heap.size A n m.cmd.ad) (o:A=B0->k=0) (l:n<=100000) :
  VY Tryz.prog 51 #[pw (P.gn s j),.agg #[.int .i64 m.ai,.int .i64 m.from_,.int .i64 m.a4,.int .i64 m.aa,.int .i64 m.n,.int .i64 m.cmd.ai,.int .i64 m.cmd.tx,.int .i64 m.cmd.ag,.slice A n k]] w
   fun e w'=>∃ V,e=.returned V/\Nx P H own s j (((H.sh s).nd j).step m).1 (((H.sh s).nd j).step m).2 w V w':=by
 obtain⟨C,V,L,u,d⟩:=h.nd s j hs p;refine(Qw u m A n k r o l).mono ?_;rintro e w' ⟨x,y,z,rfl,f,a,q,c⟩;exact⟨x,rfl,f,h.node d a q c⟩
def OX (h:HI w own P H) (hs:s<H.c) (l:j<H.n) :
  VY Tryz.prog 55 #[pw (P.gn s j)] w fun e w'=>∃ V,e=.returned V/\Nx P H own s j ((H.sh s).nd j).tick.1 ((H.sh s).nd j).tick.2 w V w':=by
 obtain⟨C,V,L,o,c⟩:=h.nd s j hs l;refine(q8g o).mono ?_;rintro e w' ⟨p,rfl,f,a,m⟩;exact⟨p,rfl,f,h.node c a (m.mono (fun b _ e=>.inl e)) (fun q d=>.inl d)⟩
def O2 (h:HI w own P H) (hs:s<H.c) (o:j<H.n) (x:By) (q:FE w w.heap.size x.A x.n x.c.ad) (m:x.A=B0->x.k=0) (l:x.n<=100000) :
  VY Tryz.prog 120 #[pw (P.gn s j),.agg #[.int .i64 x.c.ai,.int .i64 x.c.tx,.int .i64 x.c.ag,.slice x.A x.n x.k]] w
   fun e w'=>∃ V b,e=.returned (.tuple #[.int .i64 (((H.sh s).nd j).add x.c b).2.1,V,Hg (((H.sh s).nd j).add x.c b).2.2])/\Nx P H own s j (((H.sh s).nd j).add x.c b).1.1 (((H.sh s).nd j).add x.c b).1.2 w V w':=by
 obtain⟨C,V,L,r,d⟩:=h.nd s j hs o;refine(Ut r x q m l).mono ?_;rintro e w' ⟨u,y,z,b,rfl,f,a,p,c⟩;exact⟨u,b,rfl,f,h.node d a p c⟩
def JJ (h:HI w own P H) (hs:s<H.c) (u:j<H.n) (e:Int) (a:List Int) (A:Option Addr) (k:Nat) (B:w.ownsRow 0 3 1 (.slice A a.length k) a.length (a.map (Wp .i64))) (z:((H.sh s).nd j).aa<e) (f:a.length<=6) (d:a.Nodup) (c:∀ x∈a,EW x) (m:((H.sh s).nd j).id∈a) :
  VY Tryz.prog 75 #[pw (P.gn s j),.agg #[.int .i64 e,.slice A a.length k]] w
   fun p w'=>∃ V,p=.returned (.tuple #[V,.nilIface])/\Nx P H own s j (((H.sh s).nd j).join e a).tick.1 (((H.sh s).nd j).join e a).tick.2 w V w':=by
 obtain⟨C,V,L,E,q⟩:=h.nd s j hs u;refine(Mi E e a A k B z f d c m).mono ?_;rintro p w' ⟨G,K,I,J,rfl,r,l,y,o⟩;exact⟨G,rfl,r,h.node q l y o⟩
def Gz (h:Gn m):EW m.from_/\EW m.a4:=⟨FH (by have:=h.fr;omega) (by have:=h.fr;omega),FH (by have:=h.tw;omega) (by have:=h.tw;omega)⟩
def Eh.cL {c m:Nat} {net net':AW} {time:Int} {v:Kr} (h:Eh w own P c m net time v) (q:Fr (OS own QI) w w') (p:Ext own own' w.heap.size) (l:v'.Vr=v.Vr) (f:v'.Vt=v.Vt)
  (u:AJ w' 0 P.g 0 92 (Oi v' time) v'.Vn v'.D 100 v'.L net'.ao v'.lost) (r:AF v'.L=net'.l) (o:∀ b,E7 v' b->own' b=Bs .net) (d:∀ x∈v'.L,x.n<=100000):Eh w' own' P c m net' time v':=by
 refine⟨u,r,o,d,?_,fun b a=>?_,?_,fun b a=>?_,(p _ h.nt.ak.lt).trans h.gt⟩
 ·rw[l];exact q.own h.shr (fun b a hs=>by rcases hs.tag (h.bx b a) with e|e <;> cases e)
 ·rw[l] at a;exact(p b (h.shr.lt b a).2).trans (h.bx b a)
 ·rw[f];exact q.own h.txr (fun b a hs=>by rcases hs.tag (h.bu b a) with e|e <;> cases e)
 ·rw[f] at a;exact(p b (h.txr.lt b a).2).trans (h.bu b a)
def G1 {c m:Nat} {net:AW} {time:Int} {v:Kr} (h:Eh w own P c m net time v) (d:Fr (BO P.g v.Vn v.D) w w'):Fr (OS own QI) w w':=
 d.mono (fun b _ a=>by
  rcases a with rfl|a|a
  ·exact⟨_,h.gt,.inl rfl⟩
  ·exact⟨_,h.bc b (.inl a.symm),.inr rfl⟩
  ·exact⟨_,h.bc b (.inr (.inl a.symm)),.inr rfl⟩)
def HSendP (P:Aq) (H:Hs) (own:Ah) (ms:List Ms) (w:D0) (e:WC) (w':D0):Prop:=
 ∃ d own',e=.returned (.int .i64 d)/\HI w' own' P (H.send ms)/\HZ QI w own w' own'
def q7a (h:HI w own P H) {B:Nat} (Y:BA B ms V w) (T:∀ b,B<=b->own b≠Bs .hs/\own b≠Bs .net) (r:∀ m∈ms,Gn m) (N:Wf H) (G:ms.length<=100000) :
  VY Tryz.prog 50 #[pw P.g,V] w (HSendP P H own ms w):=by
 obtain⟨v,o⟩:=h.hs;obtain⟨A,k,M,rfl,l,u,hM⟩:=Y;have hl:ms.length=M.length:=by rw[<- u];simp[AF]
 have z:∀ b,B<=b->¬BO P.g v.Vn v.D b:=fun b a C=>by
  rcases C with rfl|C|C
  ·exact(T _ a).1 o.gt
  ·exact(T _ a).2 (o.bc b (.inl C.symm))
  ·exact(T _ a).2 (o.bc b (.inr (.inl C.symm)))
 have hR:My w (BO P.g v.Vn v.D) A ms.length M:=by
  refine⟨hl.symm,by rw[hl] at l ⊢;exact Rd.ay l,fun g K e h0=>z g ?_,fun x f=>⟨⟨(hM x f).1.2,Rd.ay (hM x f).1.1⟩,fun g K e h0=>z g ?_⟩⟩
  ·exact(l.lt g (by rw[e];rfl)).1
  ·exact((hM x f).1.1.lt g (by rw[e];rfl)).1
 refine(IX 0 P.g 0 100 ms.length k _ _ v.Vn v.D v.L H.net.ao v.lost A M w o.nt hR G (fun x f=>?_)).mono ?_
 ·have E:x.m∈ms:=by rw[<- u];exact List.mem_map.2 ⟨x,f,rfl⟩
  refine⟨(Gz (r _ E)).1,(Gz (r _ E)).2,(hM x f).2,fun e=>?_⟩;rcases(hM x f).1.1.2 with ⟨c,_⟩|⟨_,_,_,c,_⟩
  ·injection c
  ·rw[e] at c;cases c
 ·rintro e w' ⟨V',L',lost',d,rfl,Q,U,hs,hF,Z⟩;have J:=G1 o hF;have e2:H.net=⟨AF v.L,H.net.ao⟩:=by rw[o.msgs]
  have p:(H.send ms).net=⟨AF L',H.net.ao⟩:=by
   show Em H.net ms=_;rw[e2];rw[<- u];exact hs
  have S:Ext own (DK own w.heap.size (E7 { v with Vn:=V',L:=L',lost:=lost' }) .net) w.heap.size:=QS;have I:AJ w' 0 P.g 0 92 (Oi { v with Vn:=V',L:=L',lost:=lost' } H.ag) V' v.D 100 L' H.net.ao lost':=U;have R:∀ b,E7 { v with Vn:=V',L:=L',lost:=lost' } b->own b=Bs .net\/w.heap.size<=b:=fun b a=>by
   rcases a with a|a|⟨x,f,a⟩
   ·rcases Z with c|⟨q,c,W⟩
    ·exact .inl (o.bc b (.inl (by rw[<- c];exact a)))
    ·have y:V'.ownBlock=Bs b:=a;rw[c] at y;injection y with y;exact .inr (by omega)
   ·exact .inl (o.bc b (.inr (.inl a)))
   ·rcases Q x f with c|c
    ·exact .inl (o.bc b (.inr (.inr ⟨x,c,a⟩)))
    ·exact .inr (c b a)
  have O:=o.cL (net':=(H.send ms).net) (v':={ v with Vn:=V',L:=L',lost:=lost' }) J S rfl rfl (by rw[p];exact I) (by rw[p]) (fun b a=>QQ (R b a) a) (fun x f=>?_)
  ·refine⟨d,_,rfl,?_,⟨S,J,(by first|exact Pz (by simp)|exact fun _ _ h=>h)⟩⟩;have:=h.setHs' (net':=(H.send ms).net) (time':=H.ag) (GQ J (fun t X=>X.elim .inl (fun e=>.inr (.inl e)))) S (QP J.size (fun b a=>I.aw a)) ⟨_,O⟩;exact this
  ·have c:x.m∈(H.send ms).net.l:=by rw[p];exact List.mem_map.2 ⟨x,f,rfl⟩
   have W:=((N.send r).net x.m c).br;rw[(U.own x f).2] at W;omega
end
def Mt (s:Nat) (t:Tg):Prop:=(∃ j,t=.nd s j)\/QI t\/CK s t
def qd3 {c:Cm} (h:(d.add c b).2.2≠0):(d.add c b).1.1=d:=by
 unfold Nd.add at h ⊢;split
 ·rfl
 ·rename_i f;rw[if_neg f] at h;split
  ·rfl
  ·rename_i a;rw[if_neg a] at h;exact absurd rfl h
section
variable {w w':D0} {own own':Ah} {P:Aq} {H:Hs}
def qa5 (h:HI w own P H) (a:Wf H) (hs:s<H.c):VY Tryz.prog 52 #[pw P.g,pw (P.gs s)] w (Nq P own H s w):=
 Qh h hs (by have:=a.n4;omega) (fun j c=>a.idOk hs c) (a.da hs) (fun j c=>(a.nd s j hs c).log)
def q7c (h:HI w own P H) (a:Wf H) (hs:s<H.c):VY Tryz.prog 61 #[pw (P.gs s)] w (ED P H s w):=
 FA h hs (by have:=a.n4;omega) (fun j c=>a.idOk hs c)
def St (P:Aq) (H:Hs) (own:Ah) (s j:Nat) (c:Cm) (w:D0) (e:WC) (w':D0):Prop:=
 ∃ b own',e=.returned (.int .i64 (H.add s j c b).1)/\HI w' own' P (H.add s j c b).2/\HZ (Mt s) w own w' own'
def q8r (h:HI w own P H) (S:Wf H) (hs:s<H.c) (hj:j<H.n) (x:By) (U:FE w w.heap.size x.A x.n x.c.ad) (hk:x.A=B0->x.k=0) (hn:x.n<=100000) (hc:DO x.c) :
  VY Tryz.prog 94 #[pw P.g,pw (P.gs s),pw (P.gn s j),.agg #[.int .i64 x.c.ai,.int .i64 x.c.tx,.int .i64 x.c.ag,.slice x.A x.n x.k]] w (St P H own s j x.c w):=by
 have l:VP w.heap.size w (w.alloc (.cells #[.int .i64 x.c.ai,.int .i64 x.c.tx,.int .i64 x.c.ag,.slice x.A x.n x.k] 69)):=(VK _ _).alloc (K0 _) _;have f:Ae (w.alloc (.cells #[.int .i64 x.c.ai,.int .i64 x.c.tx,.int .i64 x.c.ag,.slice x.A x.n x.k] 69)) w.heap.size 69 #[.int .i64 x.c.ai,.int .i64 x.c.tx,.int .i64 x.c.ag,.slice x.A x.n x.k]:=Ae.new w _ _;have a3:=LH (h.below l);have HA:=LH (O2 (h.below l) hs hj x ⟨U.1,(U.2.below l).more l.size⟩ hk hn);have O:=LH (HZ.below (Z:=Mt s) own l);have q0:=f.cell 0;have q1:=f.cell 1;have q2:=f.cell 2;have q3:=f.cell 3;have ql:=f.lt;simp only[Hi,Ft,N2] at q0 q1 q2 q3;clear h l f U;unfold pw at *;go_enter Tryz.func94,Tryz.ntmps94;go_upto_region 1 with (fail)
 generalize (w.alloc _)=w1 at *;generalize w.heap.size=cb at *;go_wp2_with fail;refine HA.o.mono ?_;rintro e w2 ⟨V,b,rfl,T,E,o,r,u⟩;clear q0 q1 q2 q3 ql HA;by_cases d:(((H.sh s).nd j).add x.c b).2.2=0
 ·have a:H.add s j x.c b=((((H.sh s).nd j).add x.c b).2.1,(((H.aq s j (((H.sh s).nd j).add x.c b).1.1).send (((H.sh s).nd j).add x.c b).1.2)).take s):=by
   unfold Hs.add;rw[if_neg (by rw[d];simp)]
  have R:=LH a;have p:=PQ (S.nd s j hs hj) (show s<3 by have:=S.c3;omega) (show j<4 by have:=S.n4;omega) hc b;have m:=S.aq p.1;have y:(((H.sh s).nd j).add x.c b).1.2.length<=100000:=by
   obtain⟨A,k,M,e,a1,a2,_⟩:=T;unfold Nd.add;split
   ·simp
   ·split
    ·simp
    ·unfold Nd.grow Nd.tick;split
     ·split
      ·simp
      ·split
       ·split <;> simp
       ·simp
     ·simp
  have G:=q7a o T (fun q hq=>by rcases u q hq with e|e <;> (rw[e];simp)) p.2 m y;have B:=LH G;have X:=LH (O.o.trans (r.mono (fun t z=>.inl ⟨j,z⟩)));have Y:=LH (m.send p.2);unfold Hg;rw[d,if_pos rfl];obtain⟨A,k,M,rfl,_⟩:=T;unfold pw at B;clear a p m G y u o r d;go_wp2_with fail;refine B.o.mono ?_;rintro e w3 ⟨d3,a0,rfl,N,J⟩;have Q:=LH (qa5 N Y.o (show s<_ from hs));have W:=LH (X.o.trans (J.mono (fun t z=>.inr (.inl z))));unfold pw at Q;clear N J B;go_wp2_with fail;refine Q.o.mono ?_;rintro e w4 ⟨rfl,C,K,I⟩;have c:St P H own s j x.c w (.returned (.int .i64 (((H.sh s).nd j).add x.c b).2.1)) w4:=⟨b,C,by rw[R.o],by rw[R.o];exact K,W.o.trans (I.mono (fun t z=>.inr (.inr z)))⟩
  have HF:=LH c;clear c K I;go_wp2_with fail;go_ret;exact HF.o
 ·have a:H.add s j x.c b=(-1,H):=by unfold Hs.add;rw[if_pos d]
  rw[qd3 d,KS] at o;have c:St P H own s j x.c w (.returned (.int .i64 (-1))) w2:=⟨b,E,by rw[a],by rw[a];exact o,O.o.trans (r.mono (fun t z=>.inl ⟨j,z⟩))⟩
  have HF:=LH c;unfold Hg;rw[if_neg d];clear c o r T a d;go_wp2_with fail;go_ret;exact HF.o
end
def F8:(Tryz.prog.info? 3).map (fun i=>(i.zero,i.size,i.bytes))=Bs (Bs (.int .i64 0),1,8):=by kernel_rfl
def Bl.bn (t:Bl):List Int:=t.af.map fun k:Nat=>(k:Int)
def Dy {t:Bl} : k∈t.af↔(k=0\/k=1)/\t.ae k≠B0:=by
 unfold Bl.af;rw[List.mem_filter];simp only[X4,XX,or_false,Option.isSome_iff_ne_none]
def BR {t:Bl} (h:k∈t.af):k<2:=by rcases(Dy.1 h).1 with rfl|rfl <;> omega
def qaf (t:Bl):t.af.length<=2:=WL _ _
def Pe {t:Bl} (c:∀ k e,t.ae k=Bs e->(k=0\/k=1)/\True) {l:List Int} (d:l.Nodup) (f:∀ o,o∈l↔t.ae o≠B0):Dw l=t.bn:=by
 refine KO (IS d) ?_ (fun a=>?_)
 ·unfold Bl.bn Bl.af;rw[W8];refine X6 _ ?_;simp
 ·rw[FW,f a];unfold Bl.bn;rw[List.mem_map];constructor
  ·intro h;obtain⟨e,p⟩:=Option.ne_none_iff_exists'.1 h;rcases(c a e p).1 with rfl|rfl
   ·exact⟨0,Dy.2 ⟨.inl rfl,h⟩,rfl⟩
   ·exact⟨1,Dy.2 ⟨.inr rfl,h⟩,rfl⟩
  ·rintro ⟨k,m,rfl⟩;exact(Dy.1 m).2
def EN (t:Bl) (w:D0) (e:WC) (w':D0):Prop:=∃ V,e=.returned V/\w'.ownsRow w.heap.size 3 1 V t.af.length (t.bn.map (Wp .i64))/\VP w.heap.size w w'
def CmRel (W:D0) (f:Int->Option Int) (c r:Nat) (v:O0) (wr:D0):Prop:=
 ∃ (left:Int->Bool) (a:Nat) (l:List Int),DE BC wr c r 100 (CT f) left a/\l.length+a<=100/\wr.ownsRow (W.heap.size+1) 3 1 v l.length (l.map (Wp .i64))/\l.Nodup/\
  (∀ o,o∈l↔left o=Jx/\f o≠B0)/\VP W.heap.size W wr/\W.heap.size+1<=wr.heap.size
section
variable {w w':D0} {own own':Ah} {P:Aq} {H:Hs}
open Classical in
def qag (h:HI w own P H) (wf:Wf H) (h1:1<=i) (hi:i<=H.m):VY Tryz.prog 68 #[pw (P.gt i)] w (EN (H.tx i) w):=by
 obtain⟨v,hv⟩:=h.tx i h1 hi;obtain⟨_,_,_,c3,_,_,_,gl⟩:=hv.cells;have ad:=LH hv.ae;have a8:=LH (wf.tx i h1 hi).sh;have aq:=LH hv.ae.lt;have a3:(H.tx i).bn.length=(H.tx i).af.length:=by unfold Bl.bn;simp
 have ar:=LH a3;generalize H.tx i=t at *;clear h wf hv a3;unfold pw;go_enter Tryz.func68,Tryz.ntmps68;go_wp2_with (at_range;refine q2u rfl _ 61 3 rfl Tryz.underlying61 rfl ad.o ?_;intro w0 a6 G ah BD)
 try go_frame
 go_loopw [3] (fun v wr=>CmRel w t.ae _ w.heap.size v wr) (fun _ wr=>wr.rangeLeft v.bs w.heap.size)
 case atStart=>exact⟨_,a6,[],G,(by simpa using G.dx),VZ _ _ _ _,List.nodup_nil,(fun o=>by
  simp only[XX,false_iff];rintro ⟨h1,h2⟩;obtain⟨e,he⟩:=Option.ne_none_iff_exists'.1 h2;simp[CT,he] at h1),ah.bb,by omega⟩
 case round=>
  obtain⟨left,ax,l,U,a2,I,W,J,a4,S⟩:=hrel;have aa:=LH U;clear U;have d:=LH I;clear I;have ac:=LH W;clear W;have z:=LH J;clear J;have A:=LH a4;clear a4;have Q:=LH a2;clear a2;have ak:=LH S;clear S;go_wp2_with (at_next;refine q3c rfl _ rfl rfl aa.o ?_ ?_)
  ·intro ag;have C:=Fy (w.heap.size+1) l.length _ l wr d.o rfl (by have:=Q.o;omega);have a7:=LH C;clear C;obtain⟨A2,c2,aj,_,aw⟩:=AR d.o;subst aj;go_wp2_with fail;refine a7.o.mono ?_;rintro e w9 ⟨rfl,f,a1⟩;have O:=Pe a8.o ac.o (fun o=>by
    rw[z.o o];exact⟨fun h=>h.2,fun h=>⟨ag o (by
     obtain⟨e,he⟩:=Option.ne_none_iff_exists'.1 h;rcases(a8.o o e he).1 with rfl|rfl <;> exact FH (by omega) (by omega)),h⟩⟩)
   have x:l.length=t.af.length:=by rw[<- ar.o,<- O];exact(List.length_mergeSort l).symm
   rw[O,x] at f;have K:EN t w (.returned (.slice A2 l.length c2)) w9:=⟨_,rfl,by rw[x];exact K8 f (by omega),A.o.trans (a1.below (fun i hi=>by have:=(d.o.lt i hi).1;omega) (by have:=A.o.size;omega))⟩
   have HF:=LH K;clear K a1 f x O;go_wp2_with fail;go_ret;exact HF.o
  ·intro o v9 w3 M av Z c E a0 N T ai;obtain⟨m,hm,rfl⟩:∃ m,t.ae o=Bs m/\v9=.int .i64 m:=by
    unfold CT at c;cases e:t.ae o with
    | none=>rw[e] at c;cases c
    | some m=>rw[e] at c;injection c with c;exact⟨m,rfl,c.symm⟩
   have a5:VP w.heap.size w w3:=A.o.trans (N.below (fun i (hi:i=_)=>by omega) (by have:=A.o.size;omega));have u:=N.own d.o (fun b R (e:b=_)=>by have:=(d.o.lt b R).1;omega);have au:=LH a5;clear a5;have ab:=LH u;clear u;have ao:=LH hm;clear hm;have a9:=LH E;clear E c;have ap:=LH Z;clear Z;rw[show BC.val o=Wp .i64 o from rfl] at ai ⊢;have ae:=LH a0;clear a0 N;have al:=LH T;clear T;have af:l.length<=100:=by have:=Q.o;omega
   go_wp2_with (at_builtin;refine stop ?_)
   refine Df ?_;have B:w.heap.size+1<=w3.heap.size:=by have:=ak.o;have:=al.o;omega
   refine PD w3 _ rfl (.tmp 14) (.tmp 16) 26 rfl (w.heap.size+1) 3 (.int .i64 0) 1 8 Tryz.underlying26 F8 rfl (by decide) _ _ _ #[.int .i64 o] rfl ab.o 1 rfl _ rfl rfl (by simp[WB]) (by unfold Wo;omega) (by omega) B ?_;intro v' w8 V Y;have y:VP (w.heap.size+1) w3 w8:=Y.below (fun b R=>(ab.o.lt b R).1) B;have q:DE BC w8 v.bs w.heap.size 100 (CT t.ae) _ M:=a9.o.bw (y.block _ (by have:=aq.o;omega)) (y.block _ (by omega));have r:CmRel w t.ae v.bs w.heap.size v' w8:=by
    refine⟨_,M,l++[o],q,by have:=Q.o;have:=ae.o;simp;omega,by simpa using V,?_,fun p=>?_,au.o.trans (y.mono (by omega)),by have:=y.size;omega⟩
    ·refine List.nodup_append.2 ⟨ac.o,by simp,fun a ha b R=>?_⟩;simp at R;subst R;rintro rfl;have:=((z.o a).1 ha).1;rw[ap.o] at this;cases this
    ·rw[List.mem_append,z.o p,VW];by_cases e:p=o
     ·subst e;simp[ao.o]
     ·simp[e]
   have X:w8.rangeLeft v.bs w.heap.size<wr.rangeLeft v.bs w.heap.size:=by rw[q.left_eq,aa.o.left_eq];exact ae.o
   have am:=LH r;have an:=LH X;clear r X q y V Y;go_wp2_with fail;go_roundw
   case rel=>exact am.o
   case measure=>exact an.o
end
def El (l:List UInt8):Nat:=(l.map fun b=>b.toNat).sum
def q6l (x:Sx):Aa x=El x % 2:=rfl
def NZ {l:List UInt8} {b:UInt8} (h:l[i]? = Bs b):El (l.take (i+1))=El (l.take i)+b.toNat:=by
 unfold El;rw[VX,h];simp
def Tk (l:List UInt8):El l<=l.length*255:=by
 induction l with
 | nil=>simp[El]
 | cons b l a=>
  have e:El (b::l)=b.toNat+El l:=by simp[El]
  have:=b.toNat_lt;rw[e,Wl];omega
def PM {n:Nat} (h:n<=1000000):wrap64 (n:Int)=n:=Xf _ ⟨by omega,by omega⟩
def PN {a b:Nat} (h:a<=1000000) (c:b<=1000000):wrap64 ((a:Int)+b)=((a+b:Nat):Int):=by rw[Xf _ ⟨by omega,by omega⟩];rfl
def UI (b:UInt8):b.toNat<=1000000:=by have:=b.toNat_lt;omega
def sum_le {a n:Nat} (h:a<=n*255) (c:n<=1000):a<=1000000:=by omega
def SmRel (x:ByteArray) (w:D0) (c a:O0) (wr:D0):Prop:=∃ i:Nat,a=.int .i64 i/\i<=x.size/\c=.int .i64 (El ((sx x).take i))/\wr=w
section
variable {w w':D0} {own own':Ah} {P:Aq} {H:Hs}
def FB (h:HI w own P H) (y:H.c=3) (x:ByteArray) (G:x.size<=1000):VY Tryz.prog 60 #[pw P.g,.string x] w fun e w'=>e=.returned (.int .i64 (Aa (sx x)))/\w'=w:=by
 obtain⟨v,o⟩:=h.hs;obtain⟨_,C,_,_,J⟩:=o.cells;obtain⟨A,c,r,_,_⟩:=AR o.shr;rw[r,y] at C;clear h o r;unfold pw;go_enter Tryz.func60,Tryz.ntmps60;go_wp2_with fail;go_loopw [5,9] (SmRel x w) (fun _ u _=>x.size-(intOf u).toNat)
 case atStart=>exact⟨0,rfl,VN _,rfl,rfl⟩
 case round=>
  obtain⟨i,rfl,I,rfl,rfl⟩:=hrel;have d:(sx x).length=x.size:=by rw[KY]
  have a:=Tk ((sx x).take i);have p:((sx x).take i).length<=1000:=by simp;omega
  by_cases q:i<x.size
  ·have B:decide ((i:Int)<(x.size:Int))=VJ:=decide_eq_true (by omega);go_wp2_with fail;have z:(sx x)[i]? = Bs x[i]:=by
    unfold sx;rw[Array.getElem?_toList];exact Array.getElem?_eq_getElem q
   have m:=PM (UI x[i]);have l:=PN (sum_le a p) (UI x[i]);go_roundw
   case rel=>
    rw[m,l];exact⟨i+1,rfl,by omega,by rw[NZ z],rfl⟩
   case measure=>simp[intOf];omega
  ·have B:decide ((i:Int)<(x.size:Int))=Jx:=decide_eq_false (by omega);rw[V0 (by omega)] at a ⊢;have f:((El (sx x):Nat):Int).tmod 2=((Aa (sx x):Nat):Int):=by rw[q6l];rfl
   have E:=LH f;rw[d] at a;clear f d;go_wp2_with fail;go_ret;exact⟨by rw[q6l];rfl,rfl⟩
def I5:(Tryz.prog.info? 45).map (fun i=>(i.zero,i.size,i.bytes))=Bs (Bs (.agg #[.string ⟨#[]⟩,.string ⟨#[]⟩,.bool Jx]),3,40):=by kernel_rfl
def Ij (k:Nat) (l:List Pr):List Pr:=l.filter fun p=>Aa (sx p.key) == k
def Q8 {l:List Pr} {p:Pr} (h:l[j]? = Bs p):Ij k (l.take (j+1))=if Aa (sx p.key) == k then Ij k (l.take j)++[p] else Ij k (l.take j):=by
 unfold Ij;rw[VX,h,Yg];cases e:(Aa (sx p.key) == k) <;> simp[e]
def Si (k:Nat) (l:List Pr) (w:D0) (c a:O0) (wr:D0):Prop:=
 ∃ j:Nat,a=.int .i64 j/\j<=l.length/\wr.ownsRow w.heap.size 45 3 c (Ij k (l.take j)).length ((Ij k (l.take j)).flatMap CR)/\VP w.heap.size w wr
def OfP (k:Nat) (l:List Pr) (w:D0) (e:WC) (w':D0):Prop:=
 ∃ A c,e=.returned (.slice A (Ij k l).length c)/\w'.ownsRow w.heap.size 45 3 (.slice A (Ij k l).length c) (Ij k l).length ((Ij k l).flatMap CR)/\VP w.heap.size w w'/\(A=B0->c=0)
def I8 {base e size n:Nat} {xs:List O0} (h:w.ownsRow base e size (.slice A n k) n xs):A=B0->k=0:=fun c=>by
 rcases h.2 with ⟨a,_⟩|⟨g,cap,d,a,_⟩
 ·injection a
 ·rw[c] at a;cases a
def of_any (h:HI w own P H) (O:Wf H) (hc:H.c=3) (V:1<=i) (R:i<=H.m):VY Tryz.prog 95 #[pw P.g,pw (P.gt i),.int .i64 k] w (OfP k (H.tx i).ad w):=by
 obtain⟨v,N⟩:=h.tx i V R;obtain⟨_,_,c2,_,_,_,_,gl⟩:=N.cells;obtain⟨A,c,U,_,_⟩:=AR N.ad;rw[U] at c2;have HR:=LH (Rd.ay (U▸N.ad));have HW:=LH (O.tx i V R).ps;have a0:=(O.tx i V R).br;have HH:=LH h;generalize (H.tx i).ad=l at *;clear h O N U;unfold pw;go_enter Tryz.func95,Tryz.ntmps95;go_wp2_with fail;go_loopw [7,15] (Si k l w) (fun _ u _=>l.length-(intOf u).toNat)
 case atStart=>exact⟨0,rfl,VN _,VZ _ _ _ _,VK _ _⟩
 case round=>
  obtain⟨j,rfl,hj,a,d⟩:=hrel;by_cases a1:(j:Int)<l.length
  ·obtain⟨gp,op,p,rfl,T,r,p0,p1,p2⟩:=FE.at_ (w:=wr) (B:=w.heap.size) (A:=A) (n:=l.length) (l:=l) (k:=j) ⟨rfl,HR.o.below d⟩ (by omega);have S:gp<wr.heap.size:=VL T d.size;have f:=(VK wr.heap.size wr).alloc (K0 _) (.cells #[.string p.key,.string p.val,.bool p.gone] 45);have o:=LH (Ae.new wr 45 #[.string p.key,.string p.val,.bool p.gone]);have C:=HW.o p (S2 r);have G:=FB (HH.o.below (d.trans (f.mono d.size))) hc p.key (by have:=Ea C.1;rw[KY];omega);have M:=LH G;have m:=LH (Q8 (k:=k) r);have W:=LH (MR a f);have X:=LH (d.trans (f.mono d.size));have a2:(Ij k (l.take j)).length<=20:=VO (WL _ _) (by simp;omega);have Q:=q6l (sx p.key);have q:=LH (show((Aa (sx p.key):Nat):Int)=k↔Aa (sx p.key)=k by omega);clear C r a d f G Q;unfold pw at M;go_upto_region 5 with (fail)
   clear p0 p1 p2 S;generalize wr.alloc (.cells #[.string p.key,.string p.val,.bool p.gone] 45)=w3 at *;generalize wr.heap.size=pb at *;have Z:=o.o.cell 0;have q1:=o.o.cell 1;have Y:=o.o.cell 2;have ql:=o.o.lt;simp only[Hi,Ft,N2] at Z q1 Y;go_wp2_with (at_builtin;refine stop ?_)
   refine M.o.mono ?_;rintro e w4 ⟨rfl,rfl⟩;by_cases z:Aa (sx p.key)=k
   ·have dk:(((Aa (sx p.key):Nat):Int) == (k:Int))=VJ:=by rw[beq_iff_eq];exact q.o.2 z
    have x:=LH (m.o.trans (if_pos (by rw[beq_iff_eq];exact z)));clear z m q;go_wp2_with (at_builtin;refine stop ?_)
    refine Df ?_;have E:=X.o.size;refine PD w4 _ rfl (.tmp 25) (.tmp 27) 67 rfl w.heap.size 45 _ 3 40 Tryz.underlying67 I5 rfl (by decide) _ _ _ #[.string p.key,.string p.val,.bool p.gone] rfl W.o 1 rfl _ rfl rfl (by simp[WB]) (by unfold Wo;omega) (by omega) E ?_;intro v' w8 I J;have y:=LH (show Si k l w v' (.int .i64 ((j+1:Nat):Int)) w8 from⟨j+1,rfl,by omega,by rw[x.o,VS,List.flatMap_append];simpa [CR] using I,X.o.trans (J.below (fun b d=>(W.o.lt b d).1) E)⟩);clear I J dk Z q1 Y ql;go_wp2_with fail;go_roundw
    ·exact y.o
    ·simp[intOf];omega
   ·have dk:(((Aa (sx p.key):Nat):Int) == (k:Int))=Jx:=by rw[beq_eq_false_iff_ne];exact fun e=>z (q.o.1 e)
    have x:=LH (m.o.trans (if_neg (by rw[beq_iff_eq];exact z)));have y:=LH (show Si k l w u7 (.int .i64 ((j+1:Nat):Int)) w4 from⟨j+1,rfl,by omega,by rw[x.o];exact W.o,X.o⟩);clear z m q;go_wp2_with fail;go_roundw
    ·exact y.o
    ·simp[intOf];omega
  ·obtain rfl:j=l.length:=by omega
   rw[Xe] at a;obtain⟨A2,K,rfl,_,_⟩:=AR a;have HF:=LH (show OfP k l w (.returned (.slice A2 (Ij k l).length K)) wr from⟨A2,K,rfl,a,d,I8 a⟩);clear a d;go_wp2_with fail;go_ret;exact HF.o
end
def Fu {t:Tg} (h:CZ s t):BM t:=by rcases h with h|h|h|h|h <;> subst h <;> exact⟨by simp,by simp,fun _=>by simp⟩
def Qy {t:Tg} (h:Qd t):BM t:=by obtain⟨i,h⟩:=h;subst h;exact⟨by simp,by simp,fun _=>by simp⟩
def Di {t:Tg} (h:t=.tx i):BM t:=by subst h;exact⟨by simp,by simp,fun _=>by simp⟩
def st_hs {t:Tg} (h:t=.hs):BM t:=by subst h;exact⟨by simp,by simp,fun _=>by simp⟩
def UR {t:Tg} (h:QI t):BM t:=by rcases h with h|h <;> subst h <;> exact⟨by simp,by simp,fun _=>by simp⟩
def MO {t:Tg} (h:t=.nd s j):BM t:=by subst h;exact⟨by simp,by simp,fun _=>by simp⟩
def Qz {t:Tg} (h:CK s t):BM t:=h.elim Fu Qy
def GL {t:Tg} (h:Mt s t):BM t:=by
 rcases h with ⟨j,h⟩|h|h
 ·exact MO h
 ·exact UR h
 ·exact Qz h
def BZ (P:Aq) (own:Ah) (H':Hs) (w w':D0):Prop:=∃ own',HI w' own' P H'/\Ay w own w' own'
def Rl (d:Nd) (c:Cm) (b:Bool):(d.add c b).1=(d.add c Jx).1/\(d.add c b).2.2=(d.add c Jx).2.2:=by
 unfold Nd.add;split
 ·exact⟨rfl,rfl⟩
 ·split <;> exact⟨rfl,rfl⟩
def Nm (H:Hs) (s j:Nat) (c:Cm) (b:Bool):(H.add s j c b).2=(H.add s j c Jx).2:=by
 obtain⟨d,a⟩:=Rl ((H.sh s).nd j) c b;unfold Hs.add;rw[d,a];split <;> rfl
def tellC (H:Hs) (i:Nat) (kind:Int):Cm:=⟨kind,i,if kind=3 then(H.tx i).ag else 0,[]⟩
def I1 {H:Hs} {kind:Int} (h:H.head k=B0):H.ax i kind k=H:=by unfold Hs.ax;rw[h]
def Ie {H:Hs} {kind:Int} (h:H.head k=Bs j):H.ax i kind k=if place ((H.sh k).nd j).log kind i=B0/\place ((H.sh k).nd j).log 2 i≠B0 then(H.add k j (tellC H i kind) Jx).2 else H:=by unfold Hs.ax;rw[h];rfl
def q4v {l:List Cm} {kind id:Int} (h:place l kind id=B0):q9p l kind id = -1:=by unfold q9p;rw[h]
def q4u {l:List Cm} {kind id:Int} {p:Nat} (h:place l kind id=Bs p):q9p l kind id=p:=by unfold q9p;rw[h]
def UT {H:Hs} (h:H.head s=Bs j):j<H.n:=by
 have:=Xx h;unfold Bm.ah at this;exact List.mem_range.1 (List.mem_filter.1 this).1
def C0 (H:Hs) (s j:Nat) (c:Cm) (b:Bool):(H.add s j c b).2.n=H.n/\(H.add s j c b).2.c=H.c/\(H.add s j c b).2.m=H.m/\(H.add s j c b).2.ag=H.ag/\∀ i,((H.add s j c b).2.tx i).state=(H.tx i).state/\((H.add s j c b).2.tx i).ad=(H.tx i).ad/\((H.add s j c b).2.tx i).ae=(H.tx i).ae/\((H.add s j c b).2.tx i).places=(H.tx i).places/\((H.add s j c b).2.tx i).ag=(H.tx i).ag:=by
 unfold Hs.add;split
 ·exact⟨rfl,rfl,rfl,rfl,fun _=>⟨rfl,rfl,rfl,rfl,rfl⟩⟩
 ·have hs:=Bz.take ((H.aq s j (((H.sh s).nd j).add c b).1.1).send (((H.sh s).nd j).add c b).1.2) s;exact⟨hs.n,hs.c,hs.m,hs.ag,hs.tx⟩
def DF (H:Hs) (i:Nat) (kind:Int) (k:Nat):(H.ax i kind k).n=H.n/\(H.ax i kind k).c=H.c/\(H.ax i kind k).m=H.m/\(H.ax i kind k).ag=H.ag/\∀ a,((H.ax i kind k).tx a).state=(H.tx a).state/\((H.ax i kind k).tx a).ad=(H.tx a).ad/\((H.ax i kind k).tx a).ae=(H.tx a).ae/\((H.ax i kind k).tx a).places=(H.tx a).places/\((H.ax i kind k).tx a).ag=(H.tx a).ag:=by
 cases h:H.head k with
 | none=>rw[I1 h];exact⟨rfl,rfl,rfl,rfl,fun _=>⟨rfl,rfl,rfl,rfl,rfl⟩⟩
 | some j=>
  rw[Ie h];split
  ·exact C0 _ _ _ _ _
  ·exact⟨rfl,rfl,rfl,rfl,fun _=>⟨rfl,rfl,rfl,rfl,rfl⟩⟩
def Wf.c5 {H:Hs} (h:Wf H) (f:1<=i) (c:i<=H.m) (kind:Int):DO (tellC H i kind):=by
 have:=h.bz;have l:=h.cR i f c;have d:=h.bk;refine⟨⟨by show(1:Int)<=(i:Int);omega,by show(i:Int)<=60;omega⟩,?_,by show 0<=20;omega,fun p a=>by cases a⟩;show 0<=(if kind=3 then(H.tx i).ag else 0)/\(if kind=3 then(H.tx i).ag else 0)<=60;split <;> omega
def Wf.ax {H:Hs} (h:Wf H) {i k:Nat} (d:1<=i) (c:i<=H.m) (a:k<H.c) (kind:Int):Wf (H.ax i kind k):=by
 cases e:H.head k with
 | none=>rw[I1 e];exact h
 | some j=>
  rw[Ie e];split
  ·exact h.add a (UT e) (h.c5 d c kind) Jx
  ·exact h
noncomputable def telld (H:Hs) (i:Nat) (kind:Int) (ks:List Nat):Hs:=ks.foldl (Hs.ax i kind) H
def SP (i:Nat) (kind:Int):∀ (ks:List Nat) (H:Hs),(telld H i kind ks).n=H.n/\(telld H i kind ks).c=H.c/\(telld H i kind ks).m=H.m/\(telld H i kind ks).ag=H.ag/\∀ a,((telld H i kind ks).tx a).state=(H.tx a).state/\((telld H i kind ks).tx a).ad=(H.tx a).ad/\((telld H i kind ks).tx a).ae=(H.tx a).ae/\((telld H i kind ks).tx a).places=(H.tx a).places/\((telld H i kind ks).tx a).ag=(H.tx a).ag
 | [],H=>⟨rfl,rfl,rfl,rfl,fun _=>⟨rfl,rfl,rfl,rfl,rfl⟩⟩
 | k::ks,H=>by
  obtain⟨r,q,p,o,d⟩:=DF H i kind k;obtain⟨m,l,h,f,c⟩:=SP i kind ks (H.ax i kind k);exact⟨m.trans r,l.trans q,h.trans p,f.trans o,fun a=>⟨(c a).1.trans (d a).1,(c a).2.1.trans (d a).2.1,(c a).2.2.1.trans (d a).2.2.1,(c a).2.2.2.1.trans (d a).2.2.2.1,(c a).2.2.2.2.trans (d a).2.2.2.2⟩⟩
def Wf.aN {i:Nat} {kind:Int} (a:1<=i):∀ (ks:List Nat) {H:Hs},Wf H->i<=H.m->(∀ k∈ks,k<H.c)->Wf (telld H i kind ks)
 | [],_,h,_,_=>h
 | k::ks,H,h,hi,hk=>by
  obtain⟨_,f,d,_⟩:=DF H i kind k;exact Wf.aN a ks (h.ax a hi (hk k (VH ..)) kind) (by rw[d];exact hi) (fun q c=>by rw[f];exact hk q (VI _ c))
def KF {H:Hs} {q:Nat} {kind:Int} (h:ks[q]? = Bs k):telld H i kind (ks.take (q+1))=(telld H i kind (ks.take q)).ax i kind k:=by
 unfold telld;rw[VX,h,WQ];rfl
def Gq (P:Aq) (own:Ah) (H:Hs) (i:Nat) (kind:Int) (ks:List Nat) (a:D0) (v:O0) (wr:D0):Prop:=∃ q:Nat,v=.int .i64 q/\q<=ks.length/\BZ P own (telld H i kind (ks.take q)) a wr
section
variable {w w':D0} {own own':Ah} {P:Aq} {H:Hs}
def GY {base n:Nat} (h:w.ownsRow base 3 1 V n ((ks.map fun k:Nat=>(k:Int)).map (Wp .i64))) (f:k<n) (o:n=ks.length):∃ g c,V=.slice (Bs ⟨g,0,B0⟩) n c/\g<w.heap.size/\∃ x:Nat,ks[k]? = Bs x/\w.cell? ⟨g,k,B0⟩=Bs (.int .i64 x):=by
 obtain⟨g,c,e,l,u,a,m⟩:=SK h f;have d:ks[k]? = Bs ks[k]:=L1 (by omega);rw[V8,V8,d] at a;simp only[WK,VR] at a;exact⟨g,c,e,l,ks[k],d,by rw[m,<- a]⟩
def q6u {kind:Int} (h:HI w own P H) (wf:Wf H) (hc:H.c=3) (h1:1<=i) (hi:i<=H.m):VY Tryz.prog 67 #[pw P.g,pw (P.gt i),.int .i64 kind] w fun e w'=>e=.returned (.tuple #[])/\BZ P own (H.aS i kind) w w':=by
 have aw:=LH (qag h wf h1 hi);have HH:=LH h;have aQ:=LH wf;have aR:=LH (show H.aS i kind=telld H i kind (H.tx i).af from rfl);have aI:=LH (fun k (hk:k∈(H.tx i).af)=>BR hk);have b0:=qaf (H.tx i);unfold EN Bl.bn at aw;generalize (H.tx i).af=ks at *;clear h wf;unfold pw at *;go_enter Tryz.func67,Tryz.ntmps67;go_wp2_with fail;refine aw.o.mono ?_;rintro e w1 ⟨V,rfl,M,ah⟩;obtain⟨A,c,rfl,_,_⟩:=AR M;have aH:=LH M;have aT:=LH ah;have aS:=LH (HH.o.below ah);have av:=LH (fun b (hb:(WM A ks.length c).ownBlock=Bs b)=>HH.o.free (M.lt b hb).1);clear M ah aw HH;go_wp2_with fail;go_loopw [15] (Gq P own H i kind ks w1) (fun v _=>ks.length-(intOf v).toNat)
 case atStart=>exact⟨0,rfl,VN _,own,aS.o,HZ.refl _ _ _⟩
 case round=>
  obtain⟨q,rfl,hq,d,J,a1⟩:=hrel;by_cases aX:(q:Int)<ks.length
  ·obtain⟨r,c',hV,hr,k,hk,aM⟩:=GY (Py aH.o av.o a1) (k:=q) (by omega) rfl;injection hV with hA _ hcp;subst hA hcp;have aZ:=aI.o k (S2 hk);have a3:=LH (KF (H:=H) (i:=i) (kind:=kind) hk);have ae:=SP i kind (ks.take q) H;have T:Wf (telld H i kind (ks.take q)):=aQ.o.aN h1 _ hi (fun a ha=>by have:=aI.o a (Wy ha);omega);have aN:(telld H i kind (ks.take q)).c=3:=ae.2.1.trans hc;have aW:(telld H i kind (ks.take q)).m=H.m:=ae.2.2.1;generalize telld H i kind (ks.take q)=H2 at *;obtain⟨vh,ad⟩:=J.hs;obtain⟨_,c3,_,_,gl⟩:=ad.cells;obtain⟨r3,k3,aD,aV,aC⟩:=ad.bZ (s:=k) (by omega);rw[aD,aN] at c3;have aY:(k:Int)<3:=by omega
   have ar:=LH (q7c J T (s:=k) (by omega));unfold pw at aC ar;have aL:=LH J;have aF:=LH a1;have Q:=LH T;clear J a1 T hk ad aD ae;go_wp2_with fail;refine ar.o.mono ?_;rintro e w3 ⟨rfl,ag⟩;have a6:=LH (aL.o.below ag);have al:=LH (aF.o.trans (HZ.below d ag));clear aM c3 aC gl aL aF ar ag;rcases a8:H2.head k with _|j
   ·have x:=LH (show Gq P own H i kind ks w1 (.int .i64 ((q+1:Nat):Int)) w3 from⟨q+1,rfl,by omega,d,by rw[a3.o,I1 a8];exact a6.o,al.o⟩);unfold C9;go_wp2_with fail;go_roundw
    ·exact x.o
    ·simp[intOf];omega
   ·have af:=UT a8;obtain⟨C,V2,L,hN,aP⟩:=a6.o.nd k j (by omega) af;have aJ:=LH (qa0 hN);have ay:=hN.log;have b1:=hN.len;obtain⟨vt,ax⟩:=a6.o.tx i h1 (by omega);obtain⟨d0,_,_,_,_,d5,_,dl⟩:=ax.cells;have HT:=LH (Ie (i:=i) (kind:=kind) a8);rw[<- ay] at HT;clear hN aP ax a8;unfold C9 pw;go_wp2_with fail;refine aJ.o.mono ?_;rintro e w4 ⟨A5,k5,rfl,E,R,_⟩;have aq:=LH (a6.o.below R);have ak:=LH (al.o.trans (HZ.below d R));have aB:=(R.cell (p:=⟨P.gt i,0,B0⟩) dl).trans d0;have a9:=VL dl R.size;have aA:=(R.cell (p:=⟨P.gt i,5,B0⟩) dl).trans d5;have a5:=LH (q72 0 _ _ L kind i w4 E rfl (by omega));have an:=LH E;clear d0 d5 dl E R aJ a6 al;rcases X:place (AM L) kind i with _|p1
    ·rw[q4v X] at a5;go_wp2_with fail;refine a5.o.mono ?_;rintro e w5 ⟨rfl,G⟩;have ap:=LH (aq.o.below G);have aj:=LH (ak.o.trans (HZ.below d G));have ac:=(G.cell (p:=⟨P.gt i,0,B0⟩) a9).trans aB;have ab:=(G.cell (p:=⟨P.gt i,5,B0⟩) a9).trans aA;have O:=VL a9 G.size;have a4:=LH (q72 0 _ _ L 2 i w5 (MR an.o G) rfl (by omega));clear G aq ak aB aA a9 a5;rcases U:place (AM L) 2 i with _|p2
     ·rw[q4v U] at a4;have am:=LH (HT.o.trans (if_neg (fun h=>h.2 U)));go_wp2_with fail;refine a4.o.mono ?_;rintro e z ⟨rfl,f⟩;have x:=LH (show Gq P own H i kind ks w1 (.int .i64 ((q+1:Nat):Int)) z from⟨q+1,rfl,by omega,d,by rw[a3.o,am.o];exact ap.o.below f,aj.o.trans (HZ.below d f)⟩);clear f;go_wp2_with fail;go_roundw
      ·exact x.o
      ·simp[intOf];omega
     ·rw[q4u U] at a4;have aG:=LH (HT.o.trans (if_pos ⟨X,by rw[U];simp⟩));go_wp2_with fail;refine a4.o.mono ?_;rintro e z ⟨rfl,f⟩;have aK:=LH (ap.o.below f);have aE:=LH (aj.o.trans (HZ.below d f));have aU:=(f.cell (p:=⟨P.gt i,0,B0⟩) O).trans ac;have aa:=(f.cell (p:=⟨P.gt i,5,B0⟩) O).trans ab;have N:=VL O f.size;clear f ap aj ac ab O a4 X U;by_cases Y:kind=3
      ·
       have l:tellC H2 i kind=⟨kind,i,(H2.tx i).ag,[]⟩:=by unfold tellC;rw[if_pos Y]
       have B:=Q.o.c5 h1 (show i<=H2.m by omega) kind;rw[l] at B;have a2:=aG;rw[l] at a2;have a7:=LH (fun W (hW:HI W d P H2)=>q8r hW Q.o (show k<H2.c by omega) af ⟨⟨kind,i,(H2.tx i).ag,[]⟩,B0,0,0⟩ ⟨rfl,Rd.none_ W W.heap.size 3 B0⟩ (fun _=>rfl) (VN _) B);have u:=(VK z.heap.size z).alloc (K0 _) (.cells #[.int .i64 kind,.int .i64 i,.int .i64 (H2.tx i).ag,.slice B0 0 0] 69);have Z:=Ae.new z 69 #[.int .i64 kind,.int .i64 i,.int .i64 (H2.tx i).ag,.slice B0 0 0];have m:=u;have y:=Z;have ao:=LH (aK.o.below m);have ai:=LH (aE.o.trans (HZ.below d m));have o:=LH y;have t0:=(u.cell (p:=⟨P.gt i,5,B0⟩) N).trans aa;have aO:z.heap.size<(z.alloc (.cells #[.int .i64 kind,.int .i64 i,.int .i64 (H2.tx i).ag,.slice B0 0 0] 69)).heap.size:=by simp
       have az:=VL N u.size;subst Y;have K:=a7.o _ ao.o;unfold pw at K;have au:=LH K;clear K l B u Z m y a7;go_upto_region 11 with (fail)
       clear t0;generalize (z.alloc _)=w7 at *;have c0:=o.o.cell 0;have c1:=o.o.cell 1;have c2:=o.o.cell 2;have c3:=o.o.cell 3;have cl:=o.o.lt;simp only[Hi,Ft,N2] at c0 c1 c2 c3;go_wp2_with fail;refine au.o.mono ?_;rintro e w8 ⟨b8,S,rfl,I,a0⟩;rw[Nm] at I;have x:=LH (show Gq P own H i 3 ks w1 (.int .i64 ((q+1:Nat):Int)) w8 from⟨q+1,rfl,by omega,S,by rw[a3.o,a2.o];exact I,ai.o.trans (a0.mono (fun _ h=>GL h))⟩);clear I a0 c0 c1 c2 c3 cl;go_wp2_with fail;go_roundw
       ·exact x.o
       ·simp[intOf];omega
      ·
       have l:tellC H2 i kind=⟨kind,i,0,[]⟩:=by unfold tellC;rw[if_neg Y]
       have B:=Q.o.c5 h1 (show i<=H2.m by omega) kind;rw[l] at B;have a2:=aG;rw[l] at a2;have a7:=LH (fun W (hW:HI W d P H2)=>q8r hW Q.o (show k<H2.c by omega) af ⟨⟨kind,i,0,[]⟩,B0,0,0⟩ ⟨rfl,Rd.none_ W W.heap.size 3 B0⟩ (fun _=>rfl) (VN _) B);have u:=(VK z.heap.size z).alloc (K0 _) (.cells #[.int .i64 kind,.int .i64 i,.int .i64 0,.slice B0 0 0] 69);have Z:=Ae.new z 69 #[.int .i64 kind,.int .i64 i,.int .i64 0,.slice B0 0 0];have m:=u;have y:=Z;have ao:=LH (aK.o.below m);have ai:=LH (aE.o.trans (HZ.below d m));have o:=LH y;have t0:=(u.cell (p:=⟨P.gt i,5,B0⟩) N).trans aa;have aO:z.heap.size<(z.alloc (.cells #[.int .i64 kind,.int .i64 i,.int .i64 0,.slice B0 0 0] 69)).heap.size:=by simp
       have az:=VL N u.size;have dk:(kind == 3)=Jx:=by simpa using Y
       clear Y;have K:=a7.o _ ao.o;unfold pw at K;have au:=LH K;clear K l B u Z m y a7;go_upto_region 11 with (fail)
       clear t0;generalize (z.alloc _)=w7 at *;have c0:=o.o.cell 0;have c1:=o.o.cell 1;have c2:=o.o.cell 2;have c3:=o.o.cell 3;have cl:=o.o.lt;simp only[Hi,Ft,N2] at c0 c1 c2 c3;go_wp2_with fail;refine au.o.mono ?_;rintro e w8 ⟨b8,S,rfl,I,a0⟩;rw[Nm] at I;have x:=LH (show Gq P own H i kind ks w1 (.int .i64 ((q+1:Nat):Int)) w8 from⟨q+1,rfl,by omega,S,by rw[a3.o,a2.o];exact I,ai.o.trans (a0.mono (fun _ h=>GL h))⟩);clear I a0 c0 c1 c2 c3 cl;go_wp2_with fail;go_roundw
       ·exact x.o
       ·simp[intOf];omega
    ·rw[q4u X] at a5;have am:=LH (HT.o.trans (if_neg (fun h=>by rw[X] at h;cases h.1)));go_wp2_with fail;refine a5.o.mono ?_;rintro e z ⟨rfl,f⟩;have x:=LH (show Gq P own H i kind ks w1 (.int .i64 ((q+1:Nat):Int)) z from⟨q+1,rfl,by omega,d,by rw[a3.o,am.o];exact aq.o.below f,ak.o.trans (HZ.below d f)⟩);clear f;go_wp2_with fail;go_roundw
     ·exact x.o
     ·simp[intOf];omega
  ·obtain rfl:q=ks.length:=by omega
   rw[Xe] at J;have HF:=LH (show BZ P own (H.aS i kind) w wr from⟨d,by rw[aR.o];exact J,(HZ.below own aT.o).trans a1⟩);clear J a1;go_wp2_with fail
   go_end0
   exact⟨rfl,HF.o⟩
end
def SL (H:Hs) (i:Nat) (t:Bl):(H.au i t).tx i=t:=An _ _ _
def Wf.au {H:Hs} (h:Wf H) {i:Nat} {t:Bl} (a:EX t) (c:t.ag=(H.tx i).ag):Wf (H.au i t):=by
 refine h.of rfl rfl rfl rfl h.nd h.tab h.sto (fun _ _=>rfl) h.net rfl (fun k f d=>?_) (fun k=>?_)
 ·show EX (Af H.tx i t k);by_cases e:k=i
  ·subst e;rw[An];exact a
  ·rw[As e];exact h.tx k f d
 ·show(Af H.tx i t k).ag=_;by_cases e:k=i
  ·subst e;rw[An];exact c
  ·rw[As e]
def Wf.rel {H:Hs} (h:Wf H) {s:Nat} (hs:s<H.c) (tx:Int):Wf (H.rel s tx):=by
 have a:=Bz.rel H s tx;have d:=(h.da hs).rel tx;refine h.of a.n a.c a.m a.ag (fun k j c f=>?_) (fun k c=>?_) (fun k c=>?_) (fun k c=>?_) (by rw[a.net];exact h.net) (by rw[a.net]) (fun i m l=>(h.tx i m l).sub rfl rfl rfl Ya) (fun i=>(a.tx i).2.2.2.2)
 ·by_cases e:k=s
  ·rw[e,a.nd];exact h.nd s j hs f
  ·rw[a.sh k e];exact h.nd k j c f
 ·by_cases e:k=s
  ·rw[e];exact d.tab
  ·rw[a.sh k e];exact h.tab k c
 ·by_cases e:k=s
  ·rw[e];exact d.sto
  ·rw[a.sh k e];exact h.sto k c
 ·by_cases e:k=s
  ·rw[e,a.ao]
  ·rw[a.sh k e]
noncomputable def reld (H:Hs) (i:Nat) (ks:List Nat):Hs:=ks.foldl (fun(H:Hs) k=>H.rel k i) H
def Od {H:Hs} {q:Nat} (h:ks[q]? = Bs k):reld H i (ks.take (q+1))=(reld H i (ks.take q)).rel k i:=by
 unfold reld;rw[VX,h,WQ];rfl
def FI (i:Nat):∀ (ks:List Nat) (H:Hs),(reld H i ks).c=H.c/\(reld H i ks).n=H.n/\(reld H i ks).m=H.m/\(reld H i ks).ag=H.ag/\∀ a,((reld H i ks).tx a).state=(H.tx a).state/\((reld H i ks).tx a).ad=(H.tx a).ad/\((reld H i ks).tx a).ae=(H.tx a).ae/\((reld H i ks).tx a).places=(H.tx a).places/\((reld H i ks).tx a).ag=(H.tx a).ag
 | [],H=>⟨rfl,rfl,rfl,rfl,fun _=>⟨rfl,rfl,rfl,rfl,rfl⟩⟩
 | k::ks,H=>by
  have hs:=Bz.rel H k i;obtain⟨l,h,f,d,c⟩:=FI i ks (H.rel k i);exact⟨l.trans hs.c,h.trans hs.n,f.trans hs.m,d.trans hs.ag,fun a=>⟨(c a).1.trans (hs.tx a).1,(c a).2.1.trans (hs.tx a).2.1,(c a).2.2.1.trans (hs.tx a).2.2.1,(c a).2.2.2.1.trans (hs.tx a).2.2.2.1,(c a).2.2.2.2.trans (hs.tx a).2.2.2.2⟩⟩
def Wf.bK (i:Nat):∀ (ks:List Nat) {H:Hs},Wf H->(∀ k∈ks,k<H.c)->Wf (reld H i ks)
 | [],_,h,_=>h
 | k::ks,H,h,hk=>Wf.bK i ks (h.rel (hk k (VH ..)) i) (fun q a=>by rw[(Bz.rel H k i).c];exact hk q (VI _ a))
def Hs.al (H:Hs) (i:Nat):Hs:=H.au i { H.tx i with state:=4,aj:=[] }
def Ia (H:Hs) (i:Nat):H.abort i=(reld (H.al i) i (H.tx i).af).aS i 4:=rfl
def Wf.al {H:Hs} (h:Wf H) {i:Nat} (c:1<=i) (a:i<=H.m):Wf (H.al i):=h.au ((h.tx i c a).sub rfl rfl rfl (List.nil_sublist _)) rfl
def Wf.aS {H:Hs} (h:Wf H) (f:H.c=3) {i:Nat} (d:1<=i) (c:i<=H.m) (kind:Int):Wf (H.aS i kind):=h.aN d _ c (fun k a=>by have:=BR a;omega)
def Wf.abort {H:Hs} (h:Wf H) (l:H.c=3) {i:Nat} (d:1<=i) (c:i<=H.m):Wf (H.abort i):=by
 rw[Ia];have a:=FI i (H.tx i).af (H.al i);exact((h.al d c).bK i _ (fun k f=>by show k<H.c;have:=BR f;omega)).aS (a.1.trans l) d (by rw[a.2.2.1];exact c) 4
def AbRel (P:Aq) (own:Ah) (c:Hs) (i:Nat) (ks:List Nat) (a:D0) (v:O0) (wr:D0):Prop:=∃ q:Nat,v=.int .i64 q/\q<=ks.length/\BZ P own (reld c i (ks.take q)) a wr
section
variable {w w':D0} {own own':Ah} {P:Aq} {H:Hs}
def q42 (h:HI w own P H) (wf:Wf H) (hc:H.c=3) (K:1<=i) (hi:i<=H.m):VY Tryz.prog 40 #[pw P.g,pw (P.gt i)] w fun e w'=>e=.returned (.tuple #[])/\BZ P own (H.abort i) w w':=by
 obtain⟨v,I⟩:=h.tx i K hi;have f1:=I.ak.frozen 1;have f8:=I.ak.frozen 8;obtain⟨_,k1,_,_,_,_,k8,gl⟩:=I.cells;obtain⟨A8,c8,ac,_,_⟩:=AR I.aj;have a4:=I.setState 4;have a3:=a4.bU (Ext.refl own _) (Fr.refl _ _) (VZ _ _ _ _) (fun b hb=>by cases hb) (V':=.slice B0 0 0) (l':=[]);have B:Fr (OS own (fun t=>t=.tx i)) w ((w.setCell ⟨P.gt i,1,B0⟩ (.int .i64 4)).setCell ⟨P.gt i,8,B0⟩ (.slice B0 0 0)):=(((Fr.refl _ w).setCell (p:=⟨P.gt i,1,B0⟩) (.inl ⟨_,I.gt,rfl⟩) _).setCell (p:=⟨P.gt i,8,B0⟩) (.inl ⟨_,I.gt,rfl⟩) _)
 have f:=h.setTx' B (Ext.refl own _) (fun b hb=>VL (h.lt b hb) B.size) ⟨_,a3⟩;have E:=LH (show HI _ own P (H.al i) from f);have ag:=LH (show Ay w own _ own from⟨Ext.refl own _,B.mono (fun _ _ ⟨t,a,b⟩=>⟨t,a,Di b⟩),fun _ _ h=>h⟩);have T:=LH (wf.al K hi);have C:=qag E.o T.o K hi;have a5:((H.al i).tx i).af=(H.tx i).af:=by unfold Hs.al;rw[SL];rfl
 unfold EN Bl.bn at C;rw[a5] at C;have ak:=LH C;have U:=LH (fun k (hk:k∈(H.tx i).af)=>BR hk);have aE:=qaf (H.tx i);have av:=LH (Ia H i);rw[ac] at k8;generalize (H.tx i).af=ks at *;have a7:(H.al i).c=3:=hc;have al:(H.al i).m=H.m:=rfl;clear h wf I a4 a3 B f C a5 ac;unfold pw at *;go_enter Tryz.func40,Tryz.ntmps40;go_wp2_with fail;refine ak.o.mono ?_;rintro e w1 ⟨V,rfl,x,Q⟩;obtain⟨A,c,rfl,_,_⟩:=AR x;have ah:=LH x;have au:=LH (E.o.below Q);have ap:=LH (ag.o.trans (HZ.below own Q));have Y:=LH (fun b (hb:(WM A ks.length c).ownBlock=Bs b)=>E.o.free (x.lt b hb).1);clear x Q ak E ag k1 k8 f1 f8 gl;go_wp2_with fail;go_loopw [16] (AbRel P own (H.al i) i ks w1) (fun v _=>ks.length-(intOf v).toNat)
 case atStart=>exact⟨0,rfl,VN _,own,au.o,HZ.refl _ _ _⟩
 case round=>
  obtain⟨q,rfl,hq,a1,f,z⟩:=hrel;by_cases aB:(q:Int)<ks.length
  ·obtain⟨r,c',hV,hr,k,hk,am⟩:=GY (Py ah.o Y.o z) (k:=q) (by omega) rfl;injection hV with hA _ hcp;subst hA hcp;have aD:=U.o k (S2 hk);have aq:=LH (Od (H:=H.al i) (i:=i) hk);have o:=FI i (ks.take q) (H.al i);have d:Wf (reld (H.al i) i (ks.take q)):=T.o.bK i _ (fun a ha=>by have:=U.o a (Wy ha);omega);have an:(reld (H.al i) i (ks.take q)).c=3:=o.1.trans a7;have aA:(reld (H.al i) i (ks.take q)).m=H.m:=o.2.2.1.trans al;generalize reld (H.al i) i (ks.take q)=H2 at *;obtain⟨vh,M⟩:=f.hs;obtain⟨_,c3,_,_,gl⟩:=M.cells;obtain⟨r3,k3,ab,az,a6⟩:=M.bZ (s:=k) (by omega);rw[ab,an] at c3;have aC:(k:Int)<3:=by omega
   obtain⟨vt,a2⟩:=f.tx i K (by omega);have t0:wr.drew.cell? ⟨P.gt i,0,B0⟩=Bs (.int .i64 i):=a2.cells.1;have N:k<H2.c:=by omega
   have ai:=LH (q5g (f.below (VK wr.heap.size wr).drew) N i (FH (by omega) (by have:=d.bz;omega)) (d.tab k N));have aj:=LH (d.da N);have S:=LH (z.trans (HZ.below a1 (VK wr.heap.size wr).drew));unfold pw at a6;clear f z d hk M ab o a2;go_upto_region 6 with (fail)
   clear am c3 a6 gl;refine nW ?_;refine CF (fun W=>W.cell? ⟨P.gt i,0,B0⟩=Bs (.int .i64 i)) 10 (fun _ _ _ _ _ h=>h) (fun l=>?_);have m:=t0;refine nD 0 [10] l m ?_;refine nD 1 [10] l m ?_;refine nD 2 [3,4,9,10] l m ?_;refine nD 3 [4,9,10] l m ?_;refine nD 4 [9,10] l m ?_;refine nD 5 [6,7,8,9,10] l m ?_;refine nD 6 [7,8,9,10] l m ?_;refine nD 7 [8,9,10] l m ?_;refine nD 8 [9,10] l m ?_;clear m t0;refine nG 9 (fun KK hK=>?_);go_simp;refine ai.o.mono ?_;rintro e w7 ⟨V7,gs,aw,rfl,u,y,ax,J,R,aa⟩;obtain⟨A7,aF,rfl,_,_⟩:=AR u;obtain⟨ay,G⟩:=R.tx i K (show i<=H2.m by omega);have af:=G.cells.1;have O:=q6o (s:=k) R (VO aj.o.m (by omega)) (fun a K h2=>aj.o.wn a K h2) u y (by omega);rw[J] at O;have X:=LH O;have ao:=LH (S.o.trans (aa.mono (fun _ h=>Fu h)));unfold pw at X;clear O u y R J aa ai G;go_simp;refine hK _ _ (fun _=>af) ?_;clear hK KK af;refine nG 10 (fun KK hK=>?_);go_simp;refine X.o.mono ?_;rintro e w8 ⟨rfl,a0,ae,a9⟩;go_simp;refine hK _ _ nZ ?_;clear hK KK;refine nX ?_;clear l X;have ar:=LH (show AbRel P own (H.al i) i ks w1 (.int .i64 ((q+1:Nat):Int)) w8 from⟨q+1,rfl,by omega,a0,by rw[aq.o];exact ae,ao.o.trans (a9.mono (fun _ h=>Qy h))⟩);clear ae a9;go_wp2_with fail;go_roundw
   ·exact ar.o
   ·simp[intOf];omega
  ·obtain rfl:q=ks.length:=by omega
   rw[Xe] at f;have o:=FI i ks (H.al i);have d:Wf (reld (H.al i) i ks):=T.o.bK i _ (fun a ha=>by have:=U.o a ha;omega);have HT:=LH (q6u (kind:=4) f d (o.1.trans a7) K (show i<=(reld (H.al i) i ks).m by rw[o.2.2.1];exact hi));unfold pw at HT;have S:=LH (ap.o.trans z);clear f z d o;go_wp2_with fail;refine HT.o.mono ?_;rintro e w9 ⟨rfl,Z,ad,a8⟩;have HF:=LH (show BZ P own (H.abort i) w w9 from⟨Z,by rw[av.o];exact ad,S.o.trans a8⟩);clear ad a8;go_wp2_with fail
   go_end0
   exact⟨rfl,HF.o⟩
end
def q82 {i:Nat} {p q:Nat->Bool} (m:p i=Jx) (h:q i=VJ):∀ {l:List Nat},l.Nodup->i∈l->(∀ k∈l,k≠i->q k=p k)->(l.filter q).length=(l.filter p).length+1
 | [],_,c,_=>by cases c
 | k::l,hn,c,he=>by
  obtain⟨r,u⟩:=List.nodup_cons.1 hn;rcases List.mem_cons.1 c with e|c
  ·subst e;have:l.filter q=l.filter p:=XA (fun a d=>he a (VI _ d) (fun e=>r (e▸d)));rw[Y2 h,Y3 (by rw[m];simp),this];rfl
  ·have f:=q82 m h u c (fun a d=>he a (VI _ d));have o:q k=p k:=he k (VH ..) (fun e=>r (e▸c));cases e:p k with
   | true=>rw[Y2 (by rw[o];exact e),Y2 e,Wl,Wl,f]
   | false=>rw[Y3 (by rw[o,e];simp),Y3 (by rw[e];simp),f]
def Hs.aQ (H:Hs) (i:Nat):Hs:={ H.au i { H.tx i with ag:=H.ag+1 } with ag:=H.ag+1 }
def qc2 {H:Hs} (h:Wf H) (i:Nat):H.timed i=if (H.tx i).ag=0 then H.aQ i else H:=by
 have:=h.bk;unfold Hs.timed Hs.aQ;rw[show wrap64 (H.ag+1)=H.ag+1 from Xf _ ⟨by omega,by omega⟩]
def KH {H:Hs} (h:Wf H) (a:1<=i) (l:i<=H.m) (c:(H.tx i).ag=0):D6 (H.aQ i)=D6 H+1:=by
 have d:=h.bk;unfold D6;refine q82 (i:=i) (by simp[c]) ?_ List.nodup_range' (List.mem_range'_1.2 ⟨a,show i<1+H.m by omega⟩) (fun k f e=>?_)
 ·show decide ((Af H.tx i _ i).ag≠0)=VJ;rw[An];simp only[ne_eq,decide_not,XE,decide_eq_false_iff_not];omega
 ·show decide ((Af H.tx i _ k).ag≠0)=_;rw[As e]
def Wf.aQ {H:Hs} (h:Wf H) {i:Nat} (l:1<=i) (f:i<=H.m) (m:(H.tx i).ag=0):Wf (H.aQ i):=by
 have o:=h.bk;have d:=h.tm;refine⟨h.n4,h.c3,h.bz,h.nd,h.tab,h.sto,h.ao,h.net,h.down,fun k c a=>?_,?_,fun k c a=>?_⟩
 ·show EX (Af H.tx i _ k);by_cases e:k=i
  ·subst e;rw[An];exact(h.tx k c a).sub rfl rfl rfl (XC _)
  ·rw[As e];exact h.tx k c a
 ·show H.ag+1=(D6 (H.aQ i):Int);rw[KH h l f m];omega
 ·show 0<=(Af H.tx i _ k).ag/\(Af H.tx i _ k).ag<=H.ag+1;by_cases e:k=i
  ·subst e;rw[An];exact⟨by show 0<=H.ag+1;omega,WD _⟩
  ·rw[As e];have:=h.cR k c a;omega
def Wf.timed {H:Hs} (h:Wf H) {i:Nat} (c:1<=i) (a:i<=H.m):Wf (H.timed i):=by
 rw[qc2 h];split
 ·rename_i d;exact h.aQ c a d
 ·exact h
def E3 (H:Hs) (i:Nat):(H.timed i).n=H.n/\(H.timed i).c=H.c/\(H.timed i).m=H.m/\(H.timed i).sh=H.sh/\(H.timed i).net=H.net:=by
 unfold Hs.timed;split <;> exact⟨rfl,rfl,rfl,rfl,rfl⟩
def Hs.az (H:Hs) (i:Nat) (a:Int):Hs:=H.au i { H.tx i with state:=a }
def Wf.az {H:Hs} (h:Wf H) {i:Nat} (d:1<=i) (c:i<=H.m) (a:Int):Wf (H.az i a):=h.au ((h.tx i d c).sub rfl rfl rfl (XC _)) rfl
def Wf.commit {H:Hs} (h:Wf H) (d:H.c=3) {i:Nat} (c:1<=i) (a:i<=H.m):Wf (H.commit i):=(h.az c a 3).aS d c a 3
def Wf.dv {H:Hs} (h:Wf H) (c:1<=i) (a:i<=H.m):DO ⟨3,i,(H.tx i).ag,[]⟩:=by
 have:=h.c5 c a 3;exact this
section
variable {w w':D0} {own own':Ah} {P:Aq} {H:Hs}
def AJ.bW {base a nd:Nat} {T:VV} {r c:Array O0} {D:Option Nat} {L:List AS} {dead:Int->Bool} {lost:Int} (h:AJ w base g a T r V D nd L dead lost) (f:Fr S w w') (m:∀ b,(V.ownBlock=Bs b\/D=Bs b\/∃ x∈L,(WM x.A x.n x.k).ownBlock=Bs b)->¬S b)
  (d:Ae w' g T c) (q:c[a]? = Bs V) (p:c[a+1]? = Bs (.map D)) (o:c[a+2]? = Bs (.int .i64 lost)):AJ w' base g a T c V D nd L dead lost:=
 ⟨d,q,p,o,f.own h.row (fun b d=>m b (.inl d)),fun x l=>⟨f.own (h.own x l).1 (fun b d=>m b (.inr (.inr ⟨x,l,d⟩))),(h.own x l).2⟩,h.down.fr f (fun b d=>m b (.inr (.inl d))),h.len,h.ne,VO h.bg f.size⟩
def Eh.cn {c m:Nat} {net:AW} {time:Int} {v:Kr} (h:Eh w own P c m net time v) (t:Int):Eh (w.setCell ⟨P.g,5,B0⟩ (.int .i64 t)) own P c m net t v:=by
 have l:=Fr.a6 P.g w 5 (.int .i64 t);have d:∀ b f,own b=Bs f->f≠.hs->¬b=P.g:=fun b f a o e=>by rw[e,h.gt] at a;injection a with a;exact o a.symm
 exact⟨h.nt.bW l (fun b a=>d b _ (h.bc b a) (by simp)) (h.nt.ak.aH 5 _) rfl rfl rfl,h.msgs,h.bc,h.br,l.own h.shr (fun b a=>d b _ (h.bx b a) (by simp)),h.bx,l.own h.txr (fun b a=>d b _ (h.bu b a) (by simp)),h.bu,h.gt⟩
def HI.aQ (h:HI w own P H) {i:Nat} (x:1<=i) (u:i<=H.m):HI ((w.setCell ⟨P.g,5,B0⟩ (.int .i64 (H.ag+1))).setCell ⟨P.gt i,5,B0⟩ (.int .i64 (H.ag+1))) own P (H.aQ i)/\Ay w own ((w.setCell ⟨P.g,5,B0⟩ (.int .i64 (H.ag+1))).setCell ⟨P.gt i,5,B0⟩ (.int .i64 (H.ag+1))) own:=by
 obtain⟨v,p⟩:=h.hs;have l:Fr (OS own (fun t=>t=.hs)) w (w.setCell ⟨P.g,5,B0⟩ (.int .i64 (H.ag+1))):=(Fr.a6 P.g w 5 _).mono (fun b _ e=>⟨_,by rw[e];exact p.gt,rfl⟩);have q:=GQ l (Z':=M6) (fun t e=>.inl e);have d:=h.setHs' (net':=H.net) (time':=H.ag+1) q (Ext.refl own _) (fun b m=>VL (h.lt b m) q.size) ⟨v,p.cn _⟩;obtain⟨r,f⟩:=d.tx i x u;have c:Fr (OS own (fun t=>t=.tx i)) (w.setCell ⟨P.g,5,B0⟩ (.int .i64 (H.ag+1))) ((w.setCell ⟨P.g,5,B0⟩ (.int .i64 (H.ag+1))).setCell ⟨P.gt i,5,B0⟩ (.int .i64 (H.ag+1))):=(Fr.a6 (P.gt i) _ 5 _).mono (fun b _ e=>⟨_,by rw[e];exact f.gt,rfl⟩);have o:=d.setTx' c (Ext.refl own _) (fun b m=>VL (d.lt b m) c.size) ⟨r,f.cn (H.ag+1)⟩;exact⟨o,(⟨Ext.refl own _,l.mono (fun _ _ ⟨t,a,b⟩=>⟨t,a,st_hs b⟩),fun _ _ h=>h⟩:Ay w own _ own).trans ⟨Ext.refl own _,c.mono (fun _ _ ⟨t,a,b⟩=>⟨t,a,Di b⟩),fun _ _ h=>h⟩⟩
def HI.az (h:HI w own P H) {i:Nat} (p:1<=i) (m:i<=H.m) (d:Int):HI (w.setCell ⟨P.gt i,1,B0⟩ (.int .i64 d)) own P (H.az i d)/\Ay w own (w.setCell ⟨P.gt i,1,B0⟩ (.int .i64 d)) own:=by
 obtain⟨l,f⟩:=h.tx i p m;have c:Fr (OS own (fun t=>t=.tx i)) w (w.setCell ⟨P.gt i,1,B0⟩ (.int .i64 d)):=(Fr.a6 (P.gt i) _ 1 _).mono (fun b _ e=>⟨_,by rw[e];exact f.gt,rfl⟩);exact⟨h.setTx' c (Ext.refl own _) (fun b o=>VL (h.lt b o) c.size) ⟨l,f.setState d⟩,⟨Ext.refl own _,c.mono (fun _ _ ⟨t,a,b⟩=>⟨t,a,Di b⟩),fun _ _ h=>h⟩⟩
def SD (P:Aq) (own:Ah) (H:Hs) (i:Nat) (w:D0) (e:WC) (w':D0):Prop:=∃ b,e=.returned (.bool (H.aI i b).2)/\BZ P own (H.aI i b).1 w w'
def q67 (h:H.head 2=B0):H.aI i b=(H,Jx):=by unfold Hs.aI;rw[h]
def q66 {p:Nat} (h:H.head 2=Bs j) (a:place ((H.sh 2).nd j).log 3 i=Bs p):H.aI i b=if H.an 2 j<=p then(H,Jx) else(H.commit i,VJ):=by unfold Hs.aI;rw[h];simp only[a]
def q85 (h:H.head 2=Bs j) (a:place ((H.sh 2).nd j).log 3 i=B0):H.aI i b =
  if ((H.timed i).add 2 j ⟨3,i,((H.timed i).tx i).ag,[]⟩ b).1<0 then(((H.timed i).add 2 j ⟨3,i,((H.timed i).tx i).ag,[]⟩ b).2,Jx)
  else if ((H.timed i).add 2 j ⟨3,i,((H.timed i).tx i).ag,[]⟩ b).2.an 2 j<=((H.timed i).add 2 j ⟨3,i,((H.timed i).tx i).ag,[]⟩ b).1 then(((H.timed i).add 2 j ⟨3,i,((H.timed i).tx i).ag,[]⟩ b).2,Jx)
  else(((H.timed i).add 2 j ⟨3,i,((H.timed i).tx i).ag,[]⟩ b).2.commit i,VJ):=by unfold Hs.aI;rw[h];simp only[a]
def J2 (h:HI w own P H) (wf:Wf H) (hc:H.c=3) (A:1<=i) (hi:i<=H.m):VY Tryz.prog 97 #[pw P.g,pw (P.gt i)] w (SD P own H i w):=by
 obtain⟨vh,a2⟩:=h.hs;obtain⟨_,c3,_,_,gl⟩:=a2.cells;obtain⟨r3,k3,aq,aM,aO⟩:=a2.bZ (s:=2) (by omega);rw[aq,hc] at c3;have HH:=LH h;have O:=LH wf;clear h wf a2 aq;unfold pw at *;go_enter Tryz.func97,Tryz.ntmps97;go_upto_region 1 with (fail)
 go_quiet (fail);generalize af:w.drewN _=w1;have a6:VP w.heap.size w w1:=af▸Ck (VK _ _) _;have aa:=LH (HH.o.below a6);have aA:=LH (HZ.below (Z:=BM) own a6);have ab:=LH (q7c aa.o O.o (s:=2) (by omega));unfold pw at ab;clear c3 aO gl aM a6 HH af;go_wp2_with fail;refine ab.o.mono ?_;rintro e w2 ⟨rfl,a5⟩;have x:=LH (aa.o.below a5);have N:=LH (aA.o.trans (HZ.below own a5));clear a5 aa aA ab;rcases l:H.head 2 with _|j
 ·have y:=LH (show SD P own H i w (.returned (.bool Jx)) w2 from⟨Jx,by rw[q67 l],own,by rw[q67 l];exact x.o,N.o⟩);unfold C9;go_wp2_with fail;go_ret;exact y.o
 ·have aj:=UT l;obtain⟨C,V2,L,hN,aQ⟩:=x.o.nd 2 j (by omega) aj;have ar:=hN.aC (VK w2.heap.size w2).drew;have aF:=LH (qa0 ar);have ai:=hN.log;have b7:=hN.len;obtain⟨vt,ag⟩:=x.o.tx i A hi;obtain⟨d0,d1,_,_,_,d5,_,dl⟩:=ag.cells;have aW:=LH l;clear hN aQ ar ag;unfold C9 pw;go_upto_region 5 with (fail)
  refine nW ?_;refine CF (fun W=>W.cell? ⟨P.gt i,0,B0⟩=Bs (.int .i64 i)) 8 (fun _ _ _ _ _ h=>h) (fun a=>?_);have c:w2.drew.cell? ⟨P.gt i,0,B0⟩=Bs (.int .i64 i):=d0;refine nD 0 [1,6,7] a c ?_;refine nD 2 [3,4,5,6,7] a c ?_;refine nD 3 [4,5,6,7] a c ?_;refine nD 4 [5,6,7] a c ?_;refine nD 5 [6,7] a c ?_;clear c;refine nG 1 (fun U z=>?_);go_simp;refine aF.o.mono ?_;rintro e w4 ⟨A5,k5,rfl,I,al,_⟩;have q:=(VK w2.heap.size w2).drew.trans al;have aH:=LH (x.o.below q);have az:=LH (N.o.trans (HZ.below own q));have a4:=(q.cell (p:=⟨P.gt i,0,B0⟩) dl).trans d0;have ak:=VL dl q.size;have aE:=LH (q72 0 _ _ L 3 i w4 I rfl (by omega));go_simp;refine z _ _ (fun _=>a4) ?_;clear z U d0 d1 d5 dl I al q aF x N;refine nG 6 (fun U z=>?_);go_simp;refine aE.o.mono ?_;rintro e w5 ⟨rfl,S⟩;have u:=LH (aH.o.below S);have a9:=LH (az.o.trans (HZ.below own S));have J:=(S.cell (p:=⟨P.gt i,0,B0⟩) ak).trans a4;go_simp;refine z _ _ (fun _=>J) ?_;clear z U S aH az a4 ak aE;refine nG 7 (fun U z=>?_);go_simp;refine z _ _ (fun _=>J) ?_;clear z U;refine nX ?_;clear a J;have aU:=aj;obtain⟨aK,m⟩:=u.o.tx i A hi;obtain⟨d0,d1,_,_,_,d5,_,dl⟩:=m.cells;have f5:=m.ak.frozen 5;obtain⟨aL,o⟩:=u.o.hs;obtain⟨_,_,_,t5,ax⟩:=o.cells;have g5:=o.nt.ak.frozen 5;have b4:=O.o.bk;clear m o ai;go_upto_if 32 with (fail)
  go_cut [7] (fun v7 wx=>∃ (b:Bool) (k:Int) (H2:Hs) (d:Ah),v7=.int .i64 k/\HI wx d P H2/\Ay w own wx d/\Wf H2/\H2.c=3/\H2.m=H.m/\H2.n=H.n/\H.aI i b=if H2.an 2 j<=k then(H2,Jx) else(H2.commit i,VJ))
  case first=>
   rcases hp:place ((H.sh 2).nd j).log 3 i with _|p
   ·rw[q4v hp];have ad:=LH (fun b=>q85 (b:=b) l hp);have ah:=E3 H i;have Y:=O.o.timed A hi;have aC:=LH (qc2 O.o i);have V:=LH Y;have aT:=LH ah;clear l hp ah Y;go_upto_if 37 with (fail)
    go_cut [] (fun wx=>HI wx own P (H.timed i)/\Ay w own wx own)
    case first=>
     by_cases B:(H.tx i).ag=0
     ·have dt:((H.tx i).ag == 0)=VJ:=by simpa using B
      have Q:=u.o.aQ A hi;rw[show H.aQ i=H.timed i from(aC.o.trans (if_pos B)).symm] at Q;have hw:IntKind.i64.wrap (H.ag+1)=H.ag+1:=IntWalk.i64_in _ ⟨by omega,by omega⟩;have y:=LH (show _/\_ from⟨Q.1,a9.o.trans Q.2⟩);have aN:P.g≠P.gt i:=fun e=>by
       obtain⟨aK,m⟩:=u.o.tx i A hi;obtain⟨aL,o⟩:=u.o.hs;have e1:=o.gt;rw[e,m.gt] at e1;cases e1
      have aV:P.gt i≠P.g:=fun e=>aN e.symm
      clear Q B;go_wp2_with fail;go_meet;exact y.o
     ·have dt:((H.tx i).ag == 0)=Jx:=by simpa using B
      have y:=LH (show HI w5 own P (H.timed i)/\Ay w own w5 own from⟨by rw[aC.o,if_neg B];exact u.o,a9.o⟩);clear B;go_wp2_with fail;go_meet;exact y.o
    case rest=>
     obtain⟨a8,ao⟩:=hcut;rename D0=>w6
     obtain⟨b3,b2,b1,b0,aZ⟩:=aT.o;obtain⟨aY,G⟩:=a8.tx i A (by omega);have e0:w6.drew.cell? ⟨P.gt i,0,B0⟩=Bs (.int .i64 i):=G.cells.1;have e5:w6.drew.cell? ⟨P.gt i,5,B0⟩=Bs (.int .i64 ((H.timed i).tx i).ag):=G.cells.2.2.2.2.2.1;have K:=q8r (a8.below (VK w6.heap.size w6).drew) V.o (s:=2) (j:=j) (by omega) (by omega) ⟨⟨3,i,((H.timed i).tx i).ag,[]⟩,B0,0,0⟩ ⟨rfl,Rd.none_ _ _ _ _⟩ (fun _=>rfl) (VN _) (V.o.dv A (by omega));unfold pw at K;have aJ:=LH K;have aR:=LH (ao.trans (HZ.below own (VK w6.heap.size w6).drew));clear G K a8 ao d0 d1 d5 dl f5 t5 ax g5;go_upto_region 10 with (fail)
     refine nW ?_;refine CF (fun W=>W.cell? ⟨P.gt i,0,B0⟩=Bs (.int .i64 i)/\W.cell? ⟨P.gt i,5,B0⟩=Bs (.int .i64 ((H.timed i).tx i).ag)) 12 (fun _ _ _ _ _ h=>h) (fun a=>?_);have c:=Wm e0 e5;refine nD 0 [12,13] a c ?_;refine nD 1 [12,13] a c ?_;refine nD 2 [12,13] a c ?_;refine nD 3 [4,5,6,11,12,13] a c ?_;refine nD 4 [5,6,11,12,13] a c ?_;refine nD 5 [6,11,12,13] a c ?_;refine nA 6 [11,12,13] rfl rfl a c (fun w' a1=>by obtain⟨A,h2⟩:=a1;go_simp;rfl) ?_;refine nD 7 [8,9,10,11,12,13] a c ?_;refine nD 8 [9,10,11,12,13] a c ?_;refine nD 9 [10,11,12,13] a c ?_;refine nA 10 [11,12,13] rfl rfl a c (fun w' a1=>by obtain⟨A,h2⟩:=a1;go_simp;rfl) ?_;refine nD 11 [12,13] a c ?_;clear c e0 e5;refine nG 12 (fun U z=>?_);go_simp;refine aJ.o.mono ?_;rintro e w8 ⟨T,X,rfl,aw,an⟩;have aG:=LH aw;have ay:=LH (aR.o.trans (an.mono (fun _ h=>GL h)));clear aw an aJ;go_simp;refine z _ _ nZ ?_;clear z U;refine nG 13 (fun U z=>?_);go_simp;refine z _ _ nZ ?_;clear z U;refine nX ?_;clear a;by_cases f:((H.timed i).add 2 j ⟨3,i,((H.timed i).tx i).ag,[]⟩ T).1<0
     ·have y:=LH (show SD P own H i w (.returned (.bool Jx)) w8 from⟨T,by rw[ad.o T,if_pos f],X,by rw[ad.o T,if_pos f];exact aG.o,ay.o⟩);have dn:=decide_eq_true f;clear f;go_wp2_with fail;go_ret;exact y.o
     ·have R:=C0 (H.timed i) 2 j ⟨3,i,((H.timed i).tx i).ag,[]⟩ T;have y:=LH (show ∃ (b:Bool) (k:Int) (H2:Hs) (d:Ah),Wp .i64 ((H.timed i).add 2 j ⟨3,i,((H.timed i).tx i).ag,[]⟩ T).1=.int .i64 k/\HI w8 d P H2/\Ay w own w8 d/\Wf H2/\H2.c=3/\H2.m=H.m/\H2.n=H.n/\H.aI i b=if H2.an 2 j<=k then(H2,Jx) else(H2.commit i,VJ) from
       ⟨T,_,_,X,rfl,aG.o,ay.o,V.o.add (by omega) (by omega) (V.o.dv A (by omega)) T,by rw[R.2.1];omega,by rw[R.2.2.1];omega,by rw[R.1];omega,by rw[ad.o T,if_neg f]⟩)
      have dn:=decide_eq_false f;clear f R;go_wp2_with fail;go_meet;exact y.o
   ·rw[q4u hp];have y:=LH (show ∃ (b:Bool) (k:Int) (H2:Hs) (d:Ah),Wp .i64 (p:Int)=.int .i64 k/\HI w5 d P H2/\Ay w own w5 d/\Wf H2/\H2.c=3/\H2.m=H.m/\H2.n=H.n/\H.aI i b=if H2.an 2 j<=k then(H2,Jx) else(H2.commit i,VJ) from⟨Jx,p,H,own,rfl,u.o,a9.o,O.o,hc,rfl,rfl,q66 l hp⟩);clear hp l;go_wp2_with fail;go_meet;exact y.o
  case rest=>
   obtain⟨b,k,H2,d,rfl,M,a7,ap,aP,b6,b5,a0⟩:=hcut;rename D0=>w7
   obtain⟨C2,V3,L2,au,_⟩:=M.nd 2 j (by omega) (by omega);have aD:=LH (qb5 au);have a3:=M.az A (show i<=H2.m by omega) 3;obtain⟨aX,E⟩:=M.tx i A (by omega);obtain⟨_,s1,_,_,_,_,_,sl⟩:=E.cells;have s2:=E.ak.frozen 1;have aB:=LH (q6u (kind:=3) a3.1 (ap.az A (by omega) 3) aP A (show i<=H2.m by omega));have x:=LH M;have N:=LH a7;have aS:=LH (a7.trans a3.2);have ac:=LH a0;clear au a3 E M a7 a0 ap d0 d1 d5 dl f5 t5 ax g5 l;unfold pw at aB;by_cases r:H2.an 2 j<=k
   ·have dn:decide (((H2.sh 2).nd j).an<=k)=VJ:=decide_eq_true r;have y:=LH (show SD P own H i w (.returned (.bool Jx)) w7 from⟨b,by rw[ac.o,if_pos r],d,by rw[ac.o,if_pos r];exact x.o,N.o⟩);clear r;go_wp2_with fail;refine aD.o.mono ?_;rintro e w8 ⟨rfl,rfl⟩;go_wp2_with fail;go_ret;exact y.o
   ·have dn:decide (((H2.sh 2).nd j).an<=k)=Jx:=decide_eq_false r;have aI:=LH (ac.o.trans (if_neg r));clear r;go_wp2_with fail;refine aD.o.mono ?_;rintro e w8 ⟨rfl,rfl⟩;go_wp2_with fail;refine aB.o.mono ?_;rintro e w9 ⟨rfl,ae,av,am⟩;have y:=LH (show SD P own H i w (.returned (.bool VJ)) w9 from⟨b,by rw[aI.o],ae,by rw[aI.o];exact av,aS.o.trans am⟩);clear av am;go_wp2_with fail;go_ret;exact y.o
end
def Dd (H:Hs) (i k:Nat):Prop:=(H.tx i).ag > 0\/((H.tx i).ae k).getD 0≠(H.sh k).aa\/((H.tx i).places k).getD 0>=0
def Hn (H:Hs) (i k:Nat):Bool:=decide ((H.tx i).ag > 0) || ((H.tx i).ae k).getD 0 != (H.sh k).aa || decide (((H.tx i).places k).getD 0>=0)
def J4 {H:Hs} : Hn H i k=VJ↔Dd H i k:=by
 unfold Hn Dd;simp only[X8,decide_eq_true_eq,bne_iff_ne,ne_eq,or_assoc]
section
variable {H:Hs} {i k j:Nat} {b:Bool}
def q5l (h:H.head k=B0):H.aA i k b=(H,Bs Jx):=by unfold Hs.aA;rw[h]
def q3t {p:Nat} (h:H.head k=Bs j) (a:place ((H.sh k).nd j).log 2 i=Bs p):H.aA i k b=(H.a8 i k p,Bs (decide (H.an k j > p))):=by unfold Hs.aA;rw[h];simp only[a]
def q5m (h:H.head k=Bs j) (d:place ((H.sh k).nd j).log 2 i=B0) (a:Dd H i k) (c:(H.tx i).ag=0):H.aA i k b=(H.abort i,B0):=by unfold Hs.aA;rw[h];simp only[d];unfold Dd at a;rw[if_pos a,if_pos c]
def q7f (h:H.head k=Bs j) (d:place ((H.sh k).nd j).log 2 i=B0) (a:Dd H i k) (c:(H.tx i).ag≠0):H.aA i k b=(H,Bs Jx):=by unfold Hs.aA;rw[h];simp only[d];unfold Dd at a;rw[if_pos a,if_neg c]
def q7e (h:H.head k=Bs j) (c:place ((H.sh k).nd j).log 2 i=B0) (a:¬Dd H i k) (d:(H.add k j ⟨2,i,0,(H.tx i).of k⟩ b).1<0):H.aA i k b=((H.add k j ⟨2,i,0,(H.tx i).of k⟩ b).2.abort i,B0):=by unfold Hs.aA;rw[h];simp only[c];unfold Dd at a;rw[if_neg a,if_pos d]
def q7g (h:H.head k=Bs j) (c:place ((H.sh k).nd j).log 2 i=B0) (a:¬Dd H i k) (d:¬(H.add k j ⟨2,i,0,(H.tx i).of k⟩ b).1<0):H.aA i k b=((H.add k j ⟨2,i,0,(H.tx i).of k⟩ b).2.a8 i k (H.add k j ⟨2,i,0,(H.tx i).of k⟩ b).1,
  Bs (decide ((H.add k j ⟨2,i,0,(H.tx i).of k⟩ b).2.an k j > (H.add k j ⟨2,i,0,(H.tx i).of k⟩ b).1))):=by unfold Hs.aA;rw[h];simp only[c];unfold Dd at a;rw[if_neg a,if_neg d]
end
def EJ (H:Hs) (i:Nat) (ks:List Nat) (q:Nat) (H2:Hs) (a:Bool):Prop:=∃ b:Nat->Bool,∀ c:Nat->Bool,(∀ x∈ks.take q,c x=b x)->Hs.a3 i c ks H VJ=Hs.a3 i c (ks.drop q) H2 a
def EJ.start (H:Hs) (i:Nat) (ks:List Nat):EJ H i ks 0 H VJ:=⟨fun _=>Jx,fun _ _=>rfl⟩
def Ja (c:ks.Nodup) {q:Nat} (d:ks[q]? = Bs k):k ∉ ks.take q:=fun h=>by
 obtain⟨j,l,e⟩:=List.mem_take_iff_getElem.1 h;obtain⟨a,f⟩:=List.getElem?_eq_some_iff.1 d;exact List.pairwise_iff_getElem.1 c j q (by omega) a (by omega) (e.trans f.symm)
def EJ.next {H H2:Hs} {q:Nat} {a:Bool} (h:EJ H i ks q H2 a) (y:ks.Nodup) (l:ks[q]? = Bs k) {p:Bool} {r:Hs} (z:H2.aA i k β=(r,Bs p)):EJ H i ks (q+1) r (a && p):=by
 obtain⟨b,A⟩:=h;obtain⟨u,B⟩:=List.getElem?_eq_some_iff.1 l;refine⟨Af b k β,fun c d=>?_⟩;rw[A c (fun x o=>by
  have f:=d x (by rw[VX];exact List.mem_append_left _ o);rw[f];exact As (fun(e:x=k)=>Ja y l (by rw[<- e];exact o)) _)]
 rw[Xy u,B];have m:c k=β:=by
  have:=d k (by rw[VX,l];simp);rw[this,An]
 show(match (H2.aA i k (c k)).2 with|none=>((H2.aA i k (c k)).1,B0)|some a'=>Hs.a3 i c (ks.drop (q+1)) (H2.aA i k (c k)).1 (a && a'))=_;rw[m,z]
def EJ.oo {H H2:Hs} {q:Nat} {a:Bool} (h:EJ H i ks q H2 a) (m:ks.Nodup) (c:ks[q]? = Bs k) {d:Hs} (o:H2.aA i k β=(d,B0)):∃ b,Hs.a3 i b ks H VJ=(d,B0):=by
 obtain⟨b,p⟩:=h;obtain⟨l,r⟩:=List.getElem?_eq_some_iff.1 c;refine⟨Af b k β,?_⟩;rw[p _ (fun x f=>As (fun(e:x=k)=>Ja m c (by rw[<- e];exact f)) _),Xy l,r];show(match (H2.aA i k (Af b k β k)).2 with|none=>((H2.aA i k (Af b k β k)).1,B0)|some a'=>Hs.a3 i _ (ks.drop (q+1)) (H2.aA i k (Af b k β k)).1 (a && a'))=_;rw[An,o]
def EJ.done {H H2:Hs} {a:Bool} (h:EJ H i ks ks.length H2 a) (f:2 ∉ ks) (β:Bool):∃ b:Nat->Bool,b 2=β/\Hs.a3 i b ks H VJ=(H2,Bs a):=by
 obtain⟨b,d⟩:=h;refine⟨Af b 2 β,An _ _ _,?_⟩;rw[d _ (fun x c=>As (fun(e:x=2)=>f (by rw[<- e];exact Wy c)) _),List.drop_length];rfl
def q5k {H H2:Hs} {b:Nat->Bool} (h:Hs.a3 i b (H.tx i).af H VJ=(H2,B0)):H.ends i b=(H2,VJ):=by unfold Hs.ends;rw[h]
def q4n {H H2:Hs} {b:Nat->Bool} (h:Hs.a3 i b (H.tx i).af H VJ=(H2,Bs Jx)):H.ends i b=(H2,Jx):=by unfold Hs.ends;rw[h]
def q4m {H H2:Hs} {b:Nat->Bool} (h:Hs.a3 i b (H.tx i).af H VJ=(H2,Bs VJ)):H.ends i b=H2.aI i (b 2):=by unfold Hs.ends;rw[h]
def q2o (t:Bl):t.af.Nodup:=List.Nodup.sublist Ya (by decide)
def Wf.bX {H:Hs} (h:Wf H) (f:1<=i) (d:i<=H.m) (k:Nat):DO ⟨2,i,0,(H.tx i).of k⟩:=by
 have a:=h.tx i f d;have:=h.bz;exact⟨⟨by show(1:Int)<=(i:Int);omega,by show(i:Int)<=60;omega⟩,by show(0:Int)<=0/\(0:Int)<=60;omega,VO (WL _ _) a.br,fun p c=>a.ps p (List.mem_filter.1 c).1⟩
def EX.a8 {t:Bl} (h:EX t) (d:k<2) (a:Int):EX { t with places:=AO t.places k a }:=by
 refine⟨h.br,h.ps,h.sh,fun o e c=>?_,h.wn,h.wnd⟩;have c:AO t.places k a o=Bs e:=c;unfold AO at c;split at c
 ·rename_i f;omega
 ·exact h.pl o e c
def Wf.a8 {H:Hs} (h:Wf H) {i k:Nat} (f:1<=i) (d:i<=H.m) (c:k<2) (a:Int):Wf (H.a8 i k a):=h.au ((h.tx i f d).a8 c a) rfl
def SA (P:Aq) (own:Ah) (H:Hs) (i k j:Nat) (a:Bool) (H2:Hs) (m:D0) (o f:O0) (l:D0):Prop:=
 ∃ (β:Bool) (h:Int) (d:Hs) (c:Ah),o=.bool a/\f=.int .i64 h/\HI l c P d/\Ay m own l c/\Wf d/\d.c=3/\d.m=H.m/\d.n=H.n/\H2.aA i k β=(d.a8 i k h,Bs (decide (d.an k j > h)))
def Kg (P:Aq) (own:Ah) (H:Hs) (i:Nat) (ks:List Nat) (d:D0) (f c:O0) (wr:D0):Prop:=
 ∃ (q:Nat) (a:Bool) (H2:Hs),c=.int .i64 q/\f=.bool a/\q<=ks.length/\BZ P own H2 d wr/\Wf H2/\H2.c=3/\H2.m=H.m/\H2.n=H.n/\EJ H i ks q H2 a
def Kf (P:Aq) (own:Ah) (H:Hs) (i:Nat) (w:D0) (e:WC) (w':D0):Prop:=∃ b,e=.returned (.bool (H.ends i b).2)/\BZ P own (H.ends i b).1 w w'
section
variable {w w':D0} {own own':Ah} {P:Aq} {H:Hs}
def JE {b n:Nat} (h:Ab BC w b n (CT f)) (c:EW o):(Instr.lookup 61 (.map (Bs b)) (.int .i64 o) Jx).run Tryz.prog w=.ok (.int .i64 ((f o).getD 0)) w:=by
 have a:(zeroValue 3).run Tryz.prog w=.ok (.int .i64 0) w:=by kernel_rfl
 have:=(h.look Tryz.underlying61 a (x:=o) c).2;rw[show BC.val o=Wp .i64 o from rfl] at this;rw[this];unfold CT;cases f o <;> rfl
def Co.putPlace' {t:Bl} (h:Co w own i g v t) (f:EX t) (l:k<2) (m:Fr (fun b=>b=v.bp) w w') (d:Ab BC w' v.bp 101 (AU (CT t.places) (k:Int) (Bs (.int .i64 a)))):Co w' own i g v { t with places:=AO t.places k a }:=by
 rw[qcq] at d;refine h.cj m ((d.tight Dq (fun o _ c=>?_)).mono (by rw[Tu];omega));unfold CT at c;cases e:AO t.places k a o with
 | none=>rw[e] at c;exact absurd rfl c
 | some x=>have:=(f.a8 l a).pl o x e;exact Px (by omega) (by omega)
def RV (h:HI w own P H) (wf:Wf H) (hc:H.c=3) (h1:1<=i) (hi:i<=H.m):VY Tryz.prog 66 #[pw P.g,pw (P.gt i)] w (Kf P own H i w):=by
 have aI:=LH (qag h wf h1 hi);have HH:=LH h;have bB:=LH wf;have bh:=LH (q2o (H.tx i));have HN:=LH (fun(b:Nat->Bool) (H2:Hs)=>(q5k (H:=H) (H2:=H2) (i:=i) (b:=b)));have bq:=LH (fun(b:Nat->Bool) (H2:Hs)=>(q4n (H:=H) (H2:=H2) (i:=i) (b:=b)));have bC:=LH (fun(b:Nat->Bool) (H2:Hs)=>(q4m (H:=H) (H2:=H2) (i:=i) (b:=b)));have bk:=LH (fun k (hk:k∈(H.tx i).af)=>BR hk);have bN:=qaf (H.tx i);unfold EN Bl.bn at aI;generalize (H.tx i).af=ks at *;clear h wf;unfold pw at *;go_enter Tryz.func66,Tryz.ntmps66;go_wp2_with fail;refine aI.o.mono ?_;rintro e w1 ⟨V,rfl,a3,aA⟩;obtain⟨A,c,rfl,_,_⟩:=AR a3;have be:=LH a3;have ap:=LH aA;have bG:=LH (HH.o.below aA);have aH:=LH (fun b (T:(WM A ks.length c).ownBlock=Bs b)=>HH.o.free (a3.lt b T).1);clear a3 aA aI HH;go_wp2_with fail;go_loopw [5,14] (Kg P own H i ks w1) (fun _ v _=>ks.length-(intOf v).toNat)
 case atStart=>exact⟨0,VJ,H,rfl,rfl,VN _,⟨own,bG.o,HZ.refl _ _ _⟩,bB.o,hc,rfl,rfl,EJ.start H i ks⟩
 case round=>
  obtain⟨q,a,H2,rfl,rfl,hq,⟨l,O,Z⟩,ab,E,ak,aj,U⟩:=hrel;by_cases bL:(q:Int)<ks.length
  ·obtain⟨r,c',hV,hr,k,hk,bx⟩:=GY (Py be.o aH.o Z) (k:=q) (by omega) rfl;injection hV with hA _ hcp;subst hA hcp;have aP:=bk.o k (S2 hk);obtain⟨vh,av⟩:=O.hs;obtain⟨_,c3,_,_,gl⟩:=av.cells;obtain⟨r3,k3,b2,bK,aV⟩:=av.bZ (s:=k) (by omega);rw[b2,E] at c3;have bM:(k:Int)<3:=by omega
   have aG:=LH (q7c O ab (s:=k) (by omega));unfold pw at aV aG;have bo:=LH O;have ao:=LH Z;have Q:=LH ab;have aF:=LH (fun(β a2:Bool) (H3:Hs) (he:H2.aA i k β=(H3,Bs a2))=>U.next bh.o hk he);have bd:=LH (fun(β:Bool) (H3:Hs) (he:H2.aA i k β=(H3,B0))=>U.oo bh.o hk he);clear O Z ab hk av b2 U;go_wp2_with fail;refine aG.o.mono ?_;rintro e w3 ⟨rfl,az⟩;have af:=LH (bo.o.below az);have aE:=LH (ao.o.trans (HZ.below l az));clear bx c3 aV gl bo ao aG az;rcases al:H2.head k with _|j
   ·have a0:=LH (show Kg P own H i ks w1 (.bool Jx) (.int .i64 ((q+1:Nat):Int)) w3 from⟨q+1,Jx,H2,rfl,rfl,by omega,⟨l,af.o,aE.o⟩,Q.o,E,ak,aj,by have:=aF.o Jx Jx H2 (q5l al);rw[Bool.and_false] at this;exact this⟩);unfold C9;go_wp2_with fail;go_roundw
    ·exact a0.o
    ·simp[intOf];omega
   ·have ax:=UT al;obtain⟨C,V2,L,hN,bz⟩:=af.o.nd k j (by omega) ax;have b3:=hN.aC (VK w3.heap.size w3).drew;have bl:=LH (qa0 b3);have aN:=hN.log;have bO:=hN.len;obtain⟨vt,aK⟩:=af.o.tx i h1 (by omega);obtain⟨d0,_,_,_,_,_,_,dl⟩:=aK.cells;have S:=LH al;clear hN bz b3 aK al;unfold C9 pw;go_upto_region 9 with (fail)
    refine nW ?_;refine CF (fun W=>W.cell? ⟨P.gt i,0,B0⟩=Bs (.int .i64 i)) 8 (fun _ _ _ _ _ h=>h) (fun d=>?_);have f:w3.drew.cell? ⟨P.gt i,0,B0⟩=Bs (.int .i64 i):=d0;refine nD 0 [1,6,7] d f ?_;refine nD 2 [3,4,5,6,7] d f ?_;refine nD 3 [4,5,6,7] d f ?_;refine nD 4 [5,6,7] d f ?_;refine nD 5 [6,7] d f ?_;clear f;refine nG 1 (fun KK B=>?_);go_simp;refine bl.o.mono ?_;rintro e w4 ⟨A5,k5,rfl,a6,aX,_⟩;have K:=(VK w3.heap.size w3).drew.trans aX;have bn:=LH (af.o.below K);have b9:=LH (aE.o.trans (HZ.below l K));have ay:=(K.cell (p:=⟨P.gt i,0,B0⟩) dl).trans d0;have aT:=VL dl K.size;have bf:=LH (q72 0 _ _ L 2 i w4 a6 rfl (by omega));go_simp;refine B _ _ (fun _=>ay) ?_;clear B KK d0 dl a6 aX K bl af aE;refine nG 6 (fun KK B=>?_);go_simp;refine bf.o.mono ?_;rintro e w5 ⟨rfl,an⟩;have ae:=LH (bn.o.below an);have aD:=LH (b9.o.trans (HZ.below l an));have a8:=(an.cell (p:=⟨P.gt i,0,B0⟩) aT).trans ay;go_simp;refine B _ _ (fun _=>a8) ?_;clear B KK an bn b9 ay aT bf;refine nG 7 (fun KK B=>?_);go_simp;refine B _ _ (fun _=>a8) ?_;clear B KK;refine nX ?_;clear d a8 aN;go_upto_if 37 with (fail)
    go_cut [5,10] (fun v5 bv wx=>SA P own H i k j a H2 w1 v5 bv wx)
    case first=>
     rcases hp:place ((H2.sh k).nd j).log 2 i with _|p
     ·rw[q4v hp];have HP:=LH hp;obtain⟨bI,a1⟩:=ae.o.tx i h1 (by omega);obtain⟨_,_,_,d3,d4,d5,_,dl⟩:=a1.cells;have l1:=fun q=>JE (a1.ae.drewN q) (o:=(k:Int)) (FH (by omega) (by omega))
      have l2:=fun q=>JE (a1.places.drewN q) (o:=(k:Int)) (FH (by omega) (by omega))
      obtain⟨bJ,aq⟩:=ae.o.sh k (by omega);obtain⟨_,_,e2,_,_,el⟩:=aq.cells;have G:=LH (show Hn H2 i k=(decide ((H2.tx i).ag > 0) || ((H2.tx i).ae k).getD 0 != (H2.sh k).aa || decide (((H2.tx i).places k).getD 0>=0)) from rfl);clear hp a1 aq;go_upto_region 11 with (fail)
      go_cut [64] (fun bu wx=>bu=.bool (Hn H2 i k)/\VP w5.heap.size w5 wx)
      case first=>
       by_cases x1:(H2.tx i).ag > 0
       ·have y1:decide ((H2.tx i).ag > 0)=VJ:=decide_eq_true x1;have x:=LH (show Hn H2 i k=VJ by rw[G.o,y1];rfl);clear x1 G;go_quiet (fail);go_wp2_with fail;go_meet;exact⟨by rw[x.o],Ck (VK _ _) _⟩
       ·have y1:decide ((H2.tx i).ag > 0)=Jx:=decide_eq_false x1;by_cases x2:((H2.tx i).ae k).getD 0=(H2.sh k).aa
        ·have y2:(((H2.tx i).ae k).getD 0 != (H2.sh k).aa)=Jx:=by simpa using x2
         by_cases x3:((H2.tx i).places k).getD 0>=0
         ·have y3:decide (((H2.tx i).places k).getD 0>=0)=VJ:=decide_eq_true x3;have x:=LH (show Hn H2 i k=VJ by rw[G.o,y1,y2,y3];rfl);clear x1 x2 x3 G;go_quiet (fail);go_wp2_with fail;go_meet;exact⟨by rw[x.o],Ck (VK _ _) _⟩
         ·have y3:decide (((H2.tx i).places k).getD 0>=0)=Jx:=decide_eq_false x3;have x:=LH (show Hn H2 i k=Jx by rw[G.o,y1,y2,y3];rfl);clear x1 x2 x3 G;go_quiet (fail);go_wp2_with fail;go_meet;exact⟨by rw[x.o],Ck (VK _ _) _⟩
        ·have y2:(((H2.tx i).ae k).getD 0 != (H2.sh k).aa)=VJ:=by simpa using x2
         have x:=LH (show Hn H2 i k=VJ by rw[G.o,y1,y2];rfl);clear x1 x2 G;go_quiet (fail);go_wp2_with fail;go_meet;exact⟨by rw[x.o],Ck (VK _ _) _⟩
      case rest=>
       obtain⟨rfl,a9⟩:=hcut;rename D0=>w6
       have R:=LH (ae.o.below a9);have ac:=LH (aD.o.trans (HZ.below l a9));have t5:=(a9.cell (p:=⟨P.gt i,5,B0⟩) dl).trans d5;have tl:=VL dl a9.size;clear d3 d4 d5 dl l1 l2 e2 el a9 ae aD G;cases z:Hn H2 i k with
       | true=>
        have am:=J4.1 z;by_cases ht:(H2.tx i).ag=0
        ·have dt:((H2.tx i).ag == 0)=VJ:=by simpa using ht
         have ag:=LH (q42 R.o Q.o E h1 (show i<=H2.m by omega));have ad:=LH (bd.o Jx _ (q5m S.o HP.o am ht));unfold pw at ag;clear z am ht;go_wp2_with fail;refine ag.o.mono ?_;rintro e w9 ⟨rfl,I,N,M⟩;have HF:=LH (show Kf P own H i w (.returned (.bool VJ)) w9 from by
          obtain⟨b,T⟩:=ad.o;exact⟨b,by rw[HN.o b _ T],I,by rw[HN.o b _ T];exact N,(HZ.below own ap.o).trans (ac.o.trans M)⟩)
         clear N M;go_wp2_with fail;go_ret;exact HF.o
        ·have dt:((H2.tx i).ag == 0)=Jx:=by simpa using ht
         have a0:=LH (show Kg P own H i ks w1 (.bool Jx) (.int .i64 ((q+1:Nat):Int)) w6 from⟨q+1,Jx,H2,rfl,rfl,by omega,⟨l,R.o,ac.o⟩,Q.o,E,ak,aj,by have:=aF.o Jx Jx H2 (q7f S.o HP.o am ht);rw[Bool.and_false] at this;exact this⟩);clear z am ht;go_wp2_with fail;go_roundw
         ·exact a0.o
         ·simp[intOf];omega
       | false=>
        have bi:=LH (show ¬Dd H2 i k from fun h=>by rw[J4.2 h] at z;cases z);obtain⟨au,u⟩:=R.o.tx i h1 (by omega);have c0:w6.drew.cell? ⟨P.gt i,0,B0⟩=Bs (.int .i64 i):=u.cells.1;have aw:=of_any (k:=k) (R.o.below (VK w6.heap.size w6).drew) Q.o E h1 (show i<=H2.m by omega);unfold pw at aw;have bg:=LH aw;clear z u aw t5;go_upto_region 16 with (fail)
        refine nW ?_;refine CF (fun W=>W.cell? ⟨P.gt i,0,B0⟩=Bs (.int .i64 i)) 12 (fun _ _ _ _ _ h=>h) (fun d=>?_);have f:=c0;refine nD 0 [12,13] d f ?_;refine nD 1 [12,13] d f ?_;refine nD 2 [12,13] d f ?_;refine nD 3 [4,5,6,11,12,13] d f ?_;refine nD 4 [5,6,11,12,13] d f ?_;refine nD 5 [6,11,12,13] d f ?_;refine nD 6 [11,12,13] d f ?_;refine nD 7 [10,11,12,13] d f ?_;refine nD 8 [10,11,12,13] d f ?_;refine nD 9 [10,11,12,13] d f ?_;clear f;refine nG 10 (fun KK B=>?_);go_simp;refine bg.o.mono ?_;rintro e w7 ⟨A7,c7,rfl,a5,aW,aO⟩;have a4:=(VK w6.heap.size w6).drew.trans aW;have aC:=(a4.cell (p:=⟨P.gt i,0,B0⟩) tl).trans c0;have bF:=LH (R.o.below a4);have bA:=LH (ac.o.trans (HZ.below l a4));have ai:=Q.o.bX h1 (show i<=H2.m by omega) k;have aR:(Ij k (H2.tx i).ad).length<=100000:=VO ai.br (by omega);have aa:=q8r bF.o Q.o (s:=k) (j:=j) (by omega) ax ⟨⟨2,i,0,Ij k (H2.tx i).ad⟩,A7,(Ij k (H2.tx i).ad).length,c7⟩ ⟨rfl,Rd.ay a5⟩ aO aR ai;unfold pw at aa;have bt:=LH aa;have bE:=LH ai;go_simp;refine B _ _ (fun _=>aC) ?_;clear B KK aW a4 a5 aO aa bg c0 ai;refine nG 11 (fun KK B=>?_);go_simp;refine B _ _ (fun _=>aC) ?_;clear B KK aC;refine nG 12 (fun KK B=>?_);go_simp;refine bt.o.mono ?_;rintro e w8 ⟨b8,aJ,rfl,b5,aZ⟩;have bm:=LH b5;have b7:=LH (bA.o.trans (aZ.mono (fun _ h=>GL h)));clear b5 aZ bt;go_simp;refine B _ _ nZ ?_;clear B KK;refine nG 13 (fun KK B=>?_);go_simp;refine B _ _ nZ ?_;clear B KK;refine nX ?_;clear d;have X:=C0 H2 k j ⟨2,i,0,Ij k (H2.tx i).ad⟩ b8;have ah:=Q.o.add (s:=k) (j:=j) (by omega) ax bE.o b8;by_cases y:(H2.add k j ⟨2,i,0,Ij k (H2.tx i).ad⟩ b8).1<0
        ·have ag:=LH (q42 bm.o ah (by rw[X.2.1];exact E) h1 (show i<=_ by rw[X.2.2.1];omega));have ad:=LH (bd.o b8 _ (q7e S.o HP.o bi.o y));unfold pw at ag;have dn:=decide_eq_true y;clear y X ah;go_wp2_with fail;refine ag.o.mono ?_;rintro e w9 ⟨rfl,I,N,M⟩;have HF:=LH (show Kf P own H i w (.returned (.bool VJ)) w9 from by
          obtain⟨b,T⟩:=ad.o;exact⟨b,by rw[HN.o b _ T],I,by rw[HN.o b _ T];exact N,(HZ.below own ap.o).trans (b7.o.trans M)⟩)
         clear N M;go_wp2_with fail;go_ret;exact HF.o
        ·have HF:=LH (show SA P own H i k j a H2 w1 (.bool a) (.int .i64 (H2.add k j ⟨2,i,0,Ij k (H2.tx i).ad⟩ b8).1) w8 from                     ⟨b8,_,_,aJ,rfl,rfl,bm.o,b7.o,ah,by rw[X.2.1];exact E,by rw[X.2.2.1];exact ak,by rw[X.1];exact aj,q7g S.o HP.o bi.o y⟩);have dn:=decide_eq_false y;clear y X ah;go_wp2_with fail;go_meet;exact HF.o
     ·rw[q4u hp];have HF:=LH (show SA P own H i k j a H2 w1 (.bool a) (.int .i64 (p:Int)) w5 from⟨Jx,p,H2,l,rfl,rfl,ae.o,aD.o,Q.o,E,ak,aj,q3t S.o hp⟩);clear hp;go_wp2_with fail;go_meet;exact HF.o
    case rest=>
     obtain⟨β,kk,H3,m,rfl,rfl,aB,b0,b1,aU,aM,aL,aS⟩:=hcut;rename D0=>w6
     have ar:=LH (aF.o β _ _ aS);obtain⟨au,u⟩:=aB.tx i h1 (by omega);obtain⟨_,_,_,_,d4,_,_,dl⟩:=u.cells;have bj:=LH u.places;have bc:=LH u;have R:=LH aB;have ac:=LH b0;have bb:=LH b1;clear u aB b0 b1 aS;have aQ:∀ w7,Ab BC w7 au.bp 101 (AU (CT (H3.tx i).places) (k:Int) (Bs (.int .i64 kk)))->Fr (fun b=>b=au.bp) w6 w7->HI w7 m P (H3.a8 i k kk)/\Ay w1 own w7 m:=fun w7 Y J=>by
      have bw:=bc.o.putPlace' (bb.o.tx i h1 (by omega)) aP J Y;have a7:Fr (OS m (fun t=>t=.tx i)) w6 w7:=J.mono (fun b _ e=>⟨_,by rw[e];exact bc.o.pt,rfl⟩);exact⟨R.o.setTx' a7 (Ext.refl m _) (fun b T=>VL (R.o.lt b T) a7.size) ⟨_,bw⟩,ac.o.trans ⟨Ext.refl m _,a7.mono (fun _ _ ⟨t,a,b⟩=>⟨t,a,Di b⟩),fun _ _ h=>h⟩⟩
     have bp:=LH aQ;have ba:=LH (bb.o.a8 h1 (show i<=H3.m by omega) aP kk);clear aQ;cases a with
     | false=>
      go_wp2_with (at_mapUpdate;refine SR (C:=BC) rfl 61 3 Tryz.underlying61 _ _ _ rfl rfl bj.o (by unfold Wo;omega) (k:Int) (.int .i64 kk) rfl rfl (FH (by omega) (by omega)) ?_;intro w7 Y J)
      have hg:=bp.o w7 Y J;have a0:=LH (show Kg P own H i ks w1 (.bool Jx) (.int .i64 ((q+1:Nat):Int)) w7 from⟨q+1,Jx,_,rfl,rfl,by omega,⟨m,hg.1,hg.2⟩,ba.o,aU,aM,aL,ar.o⟩);clear hg Y J;go_roundw
      ·exact a0.o
      ·simp[intOf];omega
     | true=>
      go_wp2_with (at_mapUpdate;refine SR (C:=BC) rfl 61 3 Tryz.underlying61 _ _ _ rfl rfl bj.o (by unfold Wo;omega) (k:Int) (.int .i64 kk) rfl rfl (FH (by omega) (by omega)) ?_;intro w7 Y J)
      have hg:=bp.o w7 Y J;obtain⟨C7,V7,L7,b4,_⟩:=hg.1.nd k j (show k<H3.c by omega) (show j<H3.n by omega);have bD:=LH (qb5 b4);have a0:=LH (show Kg P own H i ks w1 (.bool (decide (H3.an k j > kk))) (.int .i64 ((q+1:Nat):Int)) w7 from⟨q+1,_,_,rfl,rfl,by omega,⟨m,hg.1,hg.2⟩,ba.o,aU,aM,aL,by have:=ar.o;rw[YB] at this;exact this⟩);clear hg Y J b4;refine bD.o.mono ?_;rintro e w8 ⟨rfl,rfl⟩;go_wp2_with fail;go_roundw
      ·exact a0.o
      ·simp[intOf];omega
  ·obtain rfl:q=ks.length:=by omega
   have b6:2 ∉ ks:=fun h=>by have:=bk.o 2 h;omega
   cases a with
   | false=>
    obtain⟨b,_,T⟩:=U.done b6 Jx;have HF:=LH (show Kf P own H i w (.returned (.bool Jx)) wr from⟨b,by rw[bq.o b H2 T],l,by rw[bq.o b H2 T];exact O,(HZ.below own ap.o).trans Z⟩);clear O Z U T;go_wp2_with fail;go_ret;exact HF.o
   | true=>
    have br:=LH (J2 O ab E h1 (show i<=H2.m by omega));have bH:=LH (fun β=>U.done b6 β);have ao:=LH ((HZ.below own ap.o).trans Z);unfold pw at br;clear O Z U ab;go_wp2_with fail;refine br.o.mono ?_;rintro e w9 ⟨β,rfl,I,N,M⟩;obtain⟨b,aY,T⟩:=bH.o β;have hE:=bC.o b H2 T;rw[aY] at hE;have HF:=LH (show Kf P own H i w (.returned (.bool (H2.aI i β).2)) w9 from⟨b,by rw[hE],I,by rw[hE];exact N,ao.o.trans M⟩);clear N M hE T aY;go_wp2_with fail;go_ret;exact HF.o
end
structure Sm (H H':Hs):Prop where
 n:H'.n=H.n
 c:H'.c=H.c
 m:H'.m=H.m
def Sm.refl (H:Hs):Sm H H:=⟨rfl,rfl,rfl⟩
def Sm.trans {A B C:Hs} (h:Sm A B) (k:Sm B C):Sm A C:=⟨k.n.trans h.n,k.c.trans h.c,k.m.trans h.m⟩
def Sm.add (H:Hs) (s j:Nat) (c:Cm) (b:Bool):Sm H (H.add s j c b).2:=⟨(C0 H s j c b).1,(C0 H s j c b).2.1,(C0 H s j c b).2.2.1⟩
def Sm.aS (H:Hs) (i:Nat) (kind:Int):Sm H (H.aS i kind):=⟨(SP i kind _ H).1,(SP i kind _ H).2.1,(SP i kind _ H).2.2.1⟩
def If (H:Hs) (i:Nat):Sm H (H.abort i)/\(H.abort i).ag=H.ag/\∀ a,((H.abort i).tx a).state=(if a=i then 4 else(H.tx a).state)/\((H.abort i).tx a).ad=(H.tx a).ad/\((H.abort i).tx a).ae=(H.tx a).ae/\((H.abort i).tx a).places=(H.tx a).places/\((H.abort i).tx a).ag=(H.tx a).ag:=by
 rw[Ia];obtain⟨K,J,I,G,E⟩:=FI i (H.tx i).af (H.al i);obtain⟨C,B,A,z,y⟩:=SP i 4 ((reld (H.al i) i (H.tx i).af).tx i).af (reld (H.al i) i (H.tx i).af);refine⟨⟨C.trans J,B.trans K,A.trans I⟩,z.trans G,fun a=>?_⟩;obtain⟨u,r,q,p,o⟩:=E a;obtain⟨m,l,f,d,c⟩:=y a;have x:∀ a,((H.al i).tx a)=if a=i then { H.tx i with state:=4,aj:=[] } else H.tx a:=fun a=>rfl
 have e:=x a;by_cases h:a=i
 ·subst h;rw[if_pos rfl] at e;rw[if_pos rfl];exact⟨m.trans (u.trans (by rw[e])),l.trans (r.trans (by rw[e])),f.trans (q.trans (by rw[e])),d.trans (p.trans (by rw[e])),c.trans (o.trans (by rw[e]))⟩
 ·rw[if_neg h] at e;rw[if_neg h];exact⟨m.trans (u.trans (by rw[e])),l.trans (r.trans (by rw[e])),f.trans (q.trans (by rw[e])),d.trans (p.trans (by rw[e])),c.trans (o.trans (by rw[e]))⟩
def q24 (H:Hs) (i k:Nat) (a:Int) (x:Nat):((H.a8 i k a).tx x).state=(H.tx x).state:=by
 show(Af H.tx i _ x).state=_;by_cases e:x=i
 ·subst e;rw[An]
 ·rw[As e]
structure E1 (H:Hs) (i:Nat) (r:Hs×Option Bool):Prop where
 sm:Sm H r.1
 other:∀ a,a≠i->(r.1.tx a).state=(H.tx a).state
 o:r.2=B0->(r.1.tx i).state=4
 on:r.2≠B0->(r.1.tx i).state=(H.tx i).state
def q65 (H:Hs) (i k:Nat) (b:Bool):E1 H i (H.aA i k b):=by
 have m:∀ c:Hs,Sm H c->(∀ a,(c.tx a).state=(H.tx a).state)->E1 H i (c.abort i,B0):=fun c u r=>by
  obtain⟨A,_,z⟩:=If c i;refine⟨u.trans A,fun a q=>?_,fun _=>?_,fun h=>absurd rfl h⟩
  ·show((c.abort i).tx a).state=_;rw[(z a).1,if_neg q,r]
  ·show((c.abort i).tx i).state=4;rw[(z i).1,if_pos rfl]
 have d:∀ (c:Hs) (x:Bool),Sm H c->(∀ a,(c.tx a).state=(H.tx a).state)->E1 H i (c,Bs x):=fun c x u r=>⟨u,fun a _=>r a,fun h=>(by cases h),fun _=>r i⟩
 cases f:H.head k with
 | none=>rw[q5l f];exact d H Jx (Sm.refl H) (fun _=>rfl)
 | some j=>
  cases l:place ((H.sh k).nd j).log 2 i with
  | some p=>rw[q3t f l];exact d _ _ ⟨rfl,rfl,rfl⟩ (q24 H i k p)
  | none=>
   by_cases o:Dd H i k
   ·by_cases y:(H.tx i).ag=0
    ·rw[q5m f l o y];exact m H (Sm.refl H) (fun _=>rfl)
    ·rw[q7f f l o y];exact d H Jx (Sm.refl H) (fun _=>rfl)
   ·have hs:=C0 H k j ⟨2,i,0,(H.tx i).of k⟩ b;by_cases q:(H.add k j ⟨2,i,0,(H.tx i).of k⟩ b).1<0
    ·rw[q7e f l o q];exact m _ (Sm.add _ _ _ _ _) (fun a=>(hs.2.2.2.2 a).1)
    ·rw[q7g f l o q];exact d _ _ ((Sm.add H k j _ b).trans ⟨rfl,rfl,rfl⟩) (fun a=>(q24 _ i k _ a).trans (hs.2.2.2.2 a).1)
def Wf.aA {H:Hs} (h:Wf H) (r:H.c=3) {i k:Nat} (f:1<=i) (d:i<=H.m) (q:k<2) (b:Bool):Wf (H.aA i k b).1:=by
 cases a:H.head k with
 | none=>rw[q5l a];exact h
 | some j=>
  cases c:place ((H.sh k).nd j).log 2 i with
  | some p=>rw[q3t a c];exact h.a8 f d q p
  | none=>
   by_cases l:Dd H i k
   ·by_cases o:(H.tx i).ag=0
    ·rw[q5m a c l o];exact h.abort r f d
    ·rw[q7f a c l o];exact h
   ·have hs:=C0 H k j ⟨2,i,0,(H.tx i).of k⟩ b;have m:=h.add (s:=k) (by omega) (UT a) (h.bX f d k) b;by_cases u:(H.add k j ⟨2,i,0,(H.tx i).of k⟩ b).1<0
    ·rw[q7e a c l u];exact m.abort (by rw[hs.2.1];exact r) f (by rw[hs.2.2.1];exact d)
    ·rw[q7g a c l u];exact m.a8 f (by rw[hs.2.2.1];exact d) q _
def q40 (i:Nat) (b:Nat->Bool):∀ (ks:List Nat) (H:Hs) (c:Bool),E1 H i (Hs.a3 i b ks H c)
 | [],H,c=>⟨Sm.refl H,fun _ _=>rfl,fun h=>(by cases h),fun _=>rfl⟩
 | k::ks,H,c=>by
  have d:=q65 H i k (b k);show E1 H i (match (H.aA i k (b k)).2 with|none=>((H.aA i k (b k)).1,B0)|some a=>Hs.a3 i b ks (H.aA i k (b k)).1 (c && a));cases e:(H.aA i k (b k)).2 with
  | none=>exact⟨d.sm,d.other,fun _=>d.o e,fun h=>absurd rfl h⟩
  | some a=>
   have f:=q40 i b ks (H.aA i k (b k)).1 (c && a);exact⟨d.sm.trans f.sm,fun x l=>(f.other x l).trans (d.other x l),f.o,fun h=>(f.on h).trans (d.on (by rw[e];simp))⟩
def Wf.a3 {i:Nat} {b:Nat->Bool} (f:1<=i):∀ (ks:List Nat) {H:Hs} (c:Bool),Wf H->H.c=3->i<=H.m->(∀ k∈ks,k<2)->Wf (Hs.a3 i b ks H c).1
 | [],H,c,h,_,_,_=>h
 | k::ks,H,c,h,hc,hi,hk=>by
  have l:=q65 H i k (b k);have d:=h.aA hc f hi (hk k (VH ..)) (b k);show Wf (match (H.aA i k (b k)).2 with|none=>((H.aA i k (b k)).1,B0)|some a=>Hs.a3 i b ks (H.aA i k (b k)).1 (c && a)).1;cases e:(H.aA i k (b k)).2 with
  | none=>exact d
  | some a=>exact Wf.a3 f ks _ d (l.sm.c.trans hc) (by rw[l.sm.m];exact hi) (fun x m=>hk x (VI _ m))
def U4 (H:Hs) (i a:Nat):((H.timed i).tx a).state=(H.tx a).state:=by
 unfold Hs.timed;split
 ·show(Af H.tx i _ a).state=_;by_cases e:a=i
  ·subst e;rw[An]
  ·rw[As e]
 ·rfl
def q5o (H:Hs) (i a:Nat):((H.commit i).tx a).state=if a=i then 3 else(H.tx a).state:=by
 have h:=((SP i 3 ((H.az i 3).tx i).af (H.az i 3)).2.2.2.2 a).1;show((telld (H.az i 3) i 3 ((H.az i 3).tx i).af).tx a).state=_;rw[h];show(Af H.tx i _ a).state=_;by_cases e:a=i
 ·subst e;rw[An,if_pos rfl]
 ·rw[As e,if_neg e]
def Sm.commit (H:Hs) (i:Nat):Sm H (H.commit i):=(⟨rfl,rfl,rfl⟩:Sm H (H.az i 3)).trans (Sm.aS _ _ _)
structure D1 (H:Hs) (i:Nat) (r:Hs×Bool):Prop where
 sm:Sm H r.1
 other:∀ a,a≠i->(r.1.tx a).state=(H.tx a).state
 yes:r.2=VJ->(r.1.tx i).state≠2
 no:r.2=Jx->(r.1.tx i).state=(H.tx i).state
def qcx (H:Hs) (i:Nat) (b:Bool):D1 H i (H.aI i b):=by
 have d:∀ c:Hs,Sm H c->(∀ a,(c.tx a).state=(H.tx a).state)->D1 H i (c,Jx):=fun c u o=>⟨u,fun a _=>o a,fun h=>(by cases h),fun _=>o i⟩
 have m:∀ c:Hs,Sm H c->(∀ a,(c.tx a).state=(H.tx a).state)->D1 H i (c.commit i,VJ):=fun c u o=>by
  refine⟨u.trans (Sm.commit c i),fun a y=>?_,fun _=>?_,fun h=>(by cases h)⟩
  ·show((c.commit i).tx a).state=_;rw[q5o,if_neg y,o]
  ·show((c.commit i).tx i).state≠2;rw[q5o,if_pos rfl];decide
 cases r:H.head 2 with
 | none=>rw[q67 r];exact d H (Sm.refl H) (fun _=>rfl)
 | some j=>
  cases x:place ((H.sh 2).nd j).log 3 i with
  | some p=>
   rw[q66 r x];split
   ·exact d H (Sm.refl H) (fun _=>rfl)
   ·exact m H (Sm.refl H) (fun _=>rfl)
  | none=>
   rw[q85 r x];have q:=E3 H i;have hs:=C0 (H.timed i) 2 j ⟨3,i,((H.timed i).tx i).ag,[]⟩ b;have l:Sm H ((H.timed i).add 2 j ⟨3,i,((H.timed i).tx i).ag,[]⟩ b).2:=(⟨q.1,q.2.1,q.2.2.1⟩:Sm H (H.timed i)).trans (Sm.add _ _ _ _ _);have f:∀ a,(((H.timed i).add 2 j ⟨3,i,((H.timed i).tx i).ag,[]⟩ b).2.tx a).state=(H.tx a).state:=fun a=>((hs.2.2.2.2 a).1).trans (U4 H i a)
   split
   ·exact d _ l f
   ·split
    ·exact d _ l f
    ·exact m _ l f
def Wf.aI {H:Hs} (h:Wf H) (q:H.c=3) {i:Nat} (d:1<=i) (c:i<=H.m) (b:Bool):Wf (H.aI i b).1:=by
 cases f:H.head 2 with
 | none=>rw[q67 f];exact h
 | some j=>
  cases o:place ((H.sh 2).nd j).log 3 i with
  | some p=>
   rw[q66 f o];split
   ·exact h
   ·exact h.commit q d c
  | none=>
   rw[q85 f o];have a:=E3 H i;have m:=UT f;have l:=(h.timed d c).add (s:=2) (j:=j) (by rw[a.2.1];omega) (by rw[a.1];exact m) ((h.timed d c).dv d (by rw[a.2.2.1];exact c)) b;have hs:=C0 (H.timed i) 2 j ⟨3,i,((H.timed i).tx i).ag,[]⟩ b;split
   ·exact l
   ·split
    ·exact l
    ·exact l.commit (by rw[hs.2.1,a.2.1];exact q) d (by rw[hs.2.2.1,a.2.2.1];exact c)
def L0 (H:Hs) (i:Nat) (b:Nat->Bool) (d:(H.tx i).state=2):D1 H i (H.ends i b):=by
 have f:=q40 i b (H.tx i).af H VJ;cases e:(Hs.a3 i b (H.tx i).af H VJ).2 with
 | none=>
  rw[q5k (show _=((Hs.a3 i b (H.tx i).af H VJ).1,B0) from by rw[<- e])];exact⟨f.sm,f.other,fun _=>by show(((Hs.a3 i b (H.tx i).af H VJ).1).tx i).state≠2;rw[f.o e];decide,fun h=>(by cases h)⟩
 | some a=>
  cases a with
  | false=>
   rw[q4n (show _=((Hs.a3 i b (H.tx i).af H VJ).1,Bs Jx) from by rw[<- e])];exact⟨f.sm,f.other,fun h=>(by cases h),fun _=>f.on (by rw[e];simp)⟩
  | true=>
   rw[q4m (show _=((Hs.a3 i b (H.tx i).af H VJ).1,Bs VJ) from by rw[<- e])];have g:=qcx (Hs.a3 i b (H.tx i).af H VJ).1 i (b 2);exact⟨f.sm.trans g.sm,fun x c=>(g.other x c).trans (f.other x c),g.yes,fun h=>(g.no h).trans (f.on (by rw[e];simp))⟩
def Wf.ends {H:Hs} (h:Wf H) (l:H.c=3) {i:Nat} (m:1<=i) (d:i<=H.m) (b:Nat->Bool):Wf (H.ends i b).1:=by
 have f:=q40 i b (H.tx i).af H VJ;have c:=Wf.a3 (b:=b) m (H.tx i).af VJ h l d (fun k o=>BR o);cases e:(Hs.a3 i b (H.tx i).af H VJ).2 with
 | none=>rw[q5k (show _=((Hs.a3 i b (H.tx i).af H VJ).1,B0) from by rw[<- e])];exact c
 | some a=>
  cases a with
  | false=>rw[q4n (show _=((Hs.a3 i b (H.tx i).af H VJ).1,Bs Jx) from by rw[<- e])];exact c
  | true=>
   rw[q4m (show _=((Hs.a3 i b (H.tx i).af H VJ).1,Bs VJ) from by rw[<- e])];exact c.aI (f.sm.c.trans l) m (by rw[f.sm.m];exact d) _
def q1v (H:Hs) (i:Nat) (b:Nat->Bool):D1 H i (H.av i b)/\((H.av i b).2=VJ->(H.tx i).state=2):=by
 unfold Hs.av;have c:∀ kind,D1 H i (H.aS i kind,Jx):=fun kind=>⟨Sm.aS H i kind,fun a _=>((SP i kind _ H).2.2.2.2 a).1,fun h=>(by cases h),fun _=>((SP i kind _ H).2.2.2.2 i).1⟩
 split
 ·rename_i d;exact⟨L0 H i b d,fun _=>d⟩
 ·split
  ·exact⟨c 3,fun h=>(by cases h)⟩
  ·split
   ·exact⟨c 4,fun h=>(by cases h)⟩
   ·exact⟨⟨Sm.refl H,fun _ _=>rfl,fun h=>(by cases h),fun _=>rfl⟩,fun h=>(by cases h)⟩
def Wf.av {H:Hs} (h:Wf H) (c:H.c=3) {i:Nat} (d:1<=i) (a:i<=H.m) (b:Nat->Bool):Wf (H.av i b).1:=by
 unfold Hs.av;split
 ·exact h.ends c d a b
 ·split
  ·exact h.aS c d a 3
  ·split
   ·exact h.aS c d a 4
   ·exact h
def Oe (H:Hs):Nat:=((Wh 1 H.m).filter fun a=>decide ((H.tx a).state=2)).length
def IV (H:Hs) (c:1<=i) (d:i<=H.m) (b:Nat->Bool):((H.av i b).2=Jx->Oe (H.av i b).1=Oe H)/\((H.av i b).2=VJ->Oe (H.av i b).1+1=Oe H):=by
 obtain⟨f,g⟩:=q1v H i b;unfold Oe;rw[f.sm.m];constructor
 ·intro h;congr 1;apply XA;intro a _;by_cases e:a=i
  ·subst e;rw[f.no h]
  ·rw[f.other a e]
 ·intro h;refine(q82 (i:=i) (by simp[f.yes h]) (by simp[g h]) List.nodup_range' (List.mem_range'_1.2 ⟨c,by omega⟩) (fun k _ e=>by rw[f.other k e])).symm
def qbe (bs:Nat->Nat->Bool):∀ (k i:Nat) (r:Hs×Bool),Hs.round bs (k+1) i r=(((Hs.round bs k i r).1.av (i+k) (bs (i+k))).1,((Hs.round bs k i r).1.av (i+k) (bs (i+k))).2 || (Hs.round bs k i r).2)
 | 0,i,r=>rfl
 | k+1,i,r=>by
  have:=qbe bs k (i+1) ((r.1.av i (bs i)).1,(r.1.av i (bs i)).2 || r.2);show Hs.round bs (k+1) (i+1) _=_;rw[this,show i+1+k=i+(k+1) by omega];rfl
def q9i {bs bs':Nat->Nat->Bool} : ∀ (k i:Nat) (r:Hs×Bool),(∀ a,i<=a->a<i+k->bs a=bs' a)->Hs.round bs k i r=Hs.round bs' k i r
 | 0,_,_,_=>rfl
 | k+1,i,r,h=>by
  show Hs.round bs k (i+1) ((r.1.av i (bs i)).1,_)=Hs.round bs' k (i+1) ((r.1.av i (bs' i)).1,_);rw[h i (K0 _) (by omega)];exact q9i k (i+1) _ (fun a d c=>h a (by omega) (by omega))
def Lv (H:Hs) (s j:Nat):Prop:=j<H.n/\(H.sh s).ao ((H.sh s).nd j).id=Jx
def ET {H:Hs} : j∈(H.sh s).ah H.n↔Lv H s j:=by simp[Bm.ah,Lv]
def BL (s j:Nat):Int:=10*s+j
def lg (H:Hs) (s j:Nat):List Cm:=((H.sh s).nd j).log
structure Cfg (H:Hs) (s:Nat) (L:List Nat):Prop where
 sorted:L.Pairwise (· < ·)
 lt:∀ j∈L,j<H.n
 mem:∀ j,Lv H s j->j∈L
 nd:∀ j,Lv H s j->((H.sh s).nd j).aa=(H.sh s).aa/\((H.sh s).nd j).nodes=L.map (BL s)/\∃ p,L[p]? = Bs j/\((H.sh s).nd j).at_=(p:Nat)
structure Uz (H:Hs) (s j:Nat) (m:Ms):Prop where
 ep:m.aa<=(H.sh s).aa
 fwd:m.aa=(H.sh s).aa->m.ai=3->∃ k:Nat,m.n=k/\(lg H s j)[k]? = Bs m.cmd
 st:m.aa=(H.sh s).aa->m.ai=4->∀ i,Lv H s i->m.n<=(lg H s i).length
structure BN (H:Hs):Prop where
 n4:H.n<=4
 ids:∀ s j,s<H.c->j<H.n->((H.sh s).nd j).id=BL s j
 cfg:∀ s,s<H.c->∃ L,Cfg H s L
 pre:∀ s,s<H.c->∀ i j,i<=j->Lv H s i->Lv H s j->lg H s j <+: lg H s i
 st:∀ s,s<H.c->∀ i j,Lv H s i->Lv H s j->((H.sh s).nd i).an<=(lg H s j).length
 dn:∀ s j,s<H.c->j<H.n->H.net.ao (BL s j)=(H.sh s).ao (BL s j)
 ms:∀ m∈H.net.l,H.net.ao m.from_=Jx/\H.net.ao m.a4=Jx/\∃ s j,s<H.c/\j<H.n/\m.from_=BL s j/\Uz H s j m
def qcr {t:Nat} (a:j<10) (c:i<10) (h:BL s j=BL t i):s=t/\j=i:=by unfold BL at h;omega
structure AK (H H':Hs):Prop where
 n:H'.n=H.n
 c:H'.c=H.c
 net:H'.net=H.net
 nd:∀ s,(H'.sh s).nd=(H.sh s).nd
 ao:∀ s,(H'.sh s).ao=(H.sh s).ao
 aa:∀ s,(H'.sh s).aa=(H.sh s).aa
def AK.refl (H:Hs):AK H H:=⟨rfl,rfl,rfl,fun _=>rfl,fun _=>rfl,fun _=>rfl⟩
def AK.trans {A B C:Hs} (h:AK A B) (k:AK B C):AK A C:=
 ⟨k.n.trans h.n,k.c.trans h.c,k.net.trans h.net,fun s=>(k.nd s).trans (h.nd s),fun s=>(k.ao s).trans (h.ao s),fun s=>(k.aa s).trans (h.aa s)⟩
section
variable {H H':Hs}
def AK.lv (h:AK H H') : Lv H' s j↔Lv H s j:=by unfold Lv;rw[h.n,h.ao,h.nd]
def AK.lg (h:AK H H') (s j:Nat):lg H' s j=lg H s j:=by unfold Go.Proofs.YtccahlhdifadfaaGreatDoor.lg;rw[h.nd]
def AK.cfg (h:AK H H') {L:List Nat} (k:Cfg H s L):Cfg H' s L:=
 ⟨k.sorted,by rw[h.n];exact k.lt,fun j a=>k.mem j (h.lv.1 a),fun j a=>by rw[h.nd,h.aa];exact k.nd j (h.lv.1 a)⟩
def AK.msI (h:AK H H') (k:Uz H s j m):Uz H' s j m:=
 ⟨by rw[h.aa];exact k.ep,by rw[h.aa,h.lg];exact k.fwd,by rw[h.aa];exact fun e c i a=>by rw[h.lg];exact k.st e c i (h.lv.1 a)⟩
def BN.same (h:BN H) (k:AK H H'):BN H':=
 ⟨by rw[k.n];exact h.n4,by rw[k.n,k.c];exact fun s j hs a=>by rw[k.nd];exact h.ids s j hs a,by rw[k.c];exact fun s hs=>(h.cfg s hs).imp fun _ g=>k.cfg g,
  by rw[k.c];exact fun s hs i j c d a=>by rw[k.lg,k.lg];exact h.pre s hs i j c (k.lv.1 d) (k.lv.1 a),
  by rw[k.c];exact fun s hs i j d a=>by rw[k.lg,k.nd];exact h.st s hs i j (k.lv.1 d) (k.lv.1 a),
  by rw[k.c,k.n,k.net];exact fun s j hs a=>by rw[k.ao];exact h.dn s j hs a,
  by rw[k.c,k.n,k.net];exact fun m f=>by obtain⟨p,o,s,j,hs,a,l,hI⟩:=h.ms m f;exact⟨p,o,s,j,hs,a,l,k.msI hI⟩⟩
def AK.take (H:Hs) (s:Nat):AK H (H.take s):=by
 have h:=Bz.take H s;have hs:∀ k,((H.take s).sh k).nd=(H.sh k).nd/\((H.take s).sh k).ao=(H.sh k).ao/\((H.take s).sh k).aa=(H.sh k).aa:=fun k=>by
  by_cases e:k=s
  ·subst e;exact⟨h.nd,h.ao,h.aa⟩
  ·rw[h.sh k e];exact⟨rfl,rfl,rfl⟩
 exact⟨h.n,h.c,h.net,fun k=>(hs k).1,fun k=>(hs k).2.1,fun k=>(hs k).2.2⟩
def AK.au (H:Hs) (i:Nat) (t:Bl):AK H (H.au i t):=⟨rfl,rfl,rfl,fun _=>rfl,fun _=>rfl,fun _=>rfl⟩
def AK.granted (H:Hs) (T:Tb) (tx:Int):AK H (H.granted T tx):=⟨rfl,rfl,rfl,fun _=>rfl,fun _=>rfl,fun _=>rfl⟩
def AK.ar {H:Hs} {s:Nat} {x:Bm} (d:x.nd=(H.sh s).nd) (c:x.ao=(H.sh s).ao) (a:x.aa=(H.sh s).aa):AK H (H.ar s x):=by
 have hs:∀ k,((H.ar s x).sh k).nd=(H.sh k).nd/\((H.ar s x).sh k).ao=(H.sh k).ao/\((H.ar s x).sh k).aa=(H.sh k).aa:=fun k=>by
  by_cases e:k=s
  ·subst e;rw[Cl];exact⟨d,c,a⟩
  ·rw[show(H.ar s x).sh k=H.sh k from As e _];exact⟨rfl,rfl,rfl⟩
 exact⟨rfl,rfl,rfl,fun k=>(hs k).1,fun k=>(hs k).2.1,fun k=>(hs k).2.2⟩
def AK.rel (H:Hs) (s:Nat) (tx:Int):AK H (H.rel s tx):=(AK.ar (x:={ H.sh s with tab:=Bj (H.sh s).tab tx }) rfl rfl rfl).trans (AK.granted _ _ _)
def FC {s:AW} (h:x∈(AN s m).l):x∈s.l\/(x=m/\s.ao m.from_=Jx/\s.ao m.a4=Jx):=by
 unfold AN at h;split at h
 ·exact .inl h
 ·rename_i a;unfold Cg at a;simp only[X8,not_or,X2] at a;rcases List.mem_append.1 h with h|h
  ·exact .inl h
  ·exact .inr ⟨List.mem_singleton.1 h,a.1.1,a.1.2⟩
def q9f:∀ (ms:List Ms) {s:AW} {x:Ms},x∈(Em s ms).l->x∈s.l\/(x∈ms/\s.ao x.from_=Jx/\s.ao x.a4=Jx)
 | [],_,_,h=>.inl h
 | m::ms,s,x,h=>by
  have f:x∈(Em (AN s m) ms).l:=h;rcases q9f ms f with c|⟨c,d⟩
  ·rcases FC c with a|⟨rfl,a⟩
   ·exact .inl a
   ·exact .inr ⟨VH,a⟩
  ·rw[q4e] at d;exact .inr ⟨VI _ c,d⟩
def BN.dh (h:BN H) {l:List Ms} (hl:∀ m∈l,m∈H.net.l):BN { H with net:=⟨l,H.net.ao⟩ }:=
 ⟨h.n4,h.ids,fun s hs=>(h.cfg s hs).imp fun _ g=>⟨g.sorted,g.lt,g.mem,g.nd⟩,h.pre,h.st,h.dn,fun m a=>by
  obtain⟨o,f,s,j,hs,c,d,hI⟩:=h.ms m (hl m a);exact⟨o,f,s,j,hs,c,d,hI.ep,hI.fwd,hI.st⟩⟩
def D9 (H:Hs) (s j:Nat) (d:Nd):(H.aq s j d).sh s = { H.sh s with nd:=Af (H.sh s).nd j d }:=Cl _ _ _
def Ic (H:Hs) (j:Nat) (d:Nd) (h:k≠s):(H.aq s j d).sh k=H.sh k:=As h _
def q62 (a:d.id=((H.sh s).nd j).id) {t:Nat} : Lv (H.aq s j d) t i↔Lv H t i:=by
 unfold Lv;by_cases e:t=s
 ·subst e;rw[D9];by_cases c:i=j
  ·subst c;simp only[An,a];exact Yl
  ·simp only[As c];exact Yl
 ·rw[Ic H j d e];exact Yl
def q4z (H:Hs) (s j:Nat) (d:Nd) (t i:Nat):lg (H.aq s j d) t i=if t=s/\i=j then d.log else lg H t i:=by
 unfold lg;by_cases e:t=s
 ·subst e;rw[D9];by_cases a:i=j
  ·subst a;simp[An]
  ·simp[As a,a]
 ·rw[Ic H j d e];simp[e]
structure NdT (H:Hs) (s j:Nat) (d:Nd) (ms:List Ms):Prop where
 id:d.id=((H.sh s).nd j).id
 aa:d.aa=((H.sh s).nd j).aa
 nodes:d.nodes=((H.sh s).nd j).nodes
 at_:d.at_=((H.sh s).nd j).at_
 grows:lg H s j <+: d.log
 lo:∀ i,i<j->Lv H s i->d.log <+: lg H s i
 st:d.an<=d.log.length/\∀ i,i≠j->Lv H s i->d.an<=(lg H s i).length
 ms:∀ m∈ms,m.from_=d.id/\m.aa=d.aa/\(m.ai=3->∃ k:Nat,m.n=k/\d.log[k]? = Bs m.cmd)/\(m.ai=4->m.n<=d.an)
def getElem?_prefix {α:Type} {l l':List α} (h:l <+: l') {a:α} (c:l[k]? = Bs a):l'[k]? = Bs a:=by
 obtain⟨t,rfl⟩:=h;rw[Wg (List.getElem?_eq_some_iff.1 c).1];exact c
def BN.node (h:BN H) (hs:s<H.c) (hl:Lv H s j) (t:NdT H s j d ms):BN ((H.aq s j d).send ms):=by
 have l:∀ {a i},Lv ((H.aq s j d).send ms) a i↔Lv H a i:=fun {a i}=>q62 (H:=H) t.id
 have q:∀ a i,lg ((H.aq s j d).send ms) a i=if a=s/\i=j then d.log else lg H a i:=q4z H s j d
 have p:∀ a,((H.aq s j d).send ms).sh a=(H.aq s j d).sh a:=fun a=>rfl
 have u:∀ a,(((H.aq s j d).send ms).sh a).aa=(H.sh a).aa:=fun a=>by
  rw[p];by_cases e:a=s
  ·subst e;rw[D9]
  ·rw[Ic H j d e]
 have B:∀ a i,lg H a i <+: lg ((H.aq s j d).send ms) a i:=fun a i=>by
  rw[q];split
  ·rename_i e;obtain⟨rfl,rfl⟩:=e;exact t.grows
  ·exact VQ _
 have y:((H.aq s j d).send ms).net.ao=H.net.ao:=q31 _ _;refine⟨h.n4,fun a i r o=>?_,fun a r=>?_,fun a r i k K o E=>?_,fun a r i k o E=>?_,fun a i r o=>?_,fun m G=>?_⟩
 ·rw[p];by_cases e:a=s
  ·subst e;rw[D9];by_cases f:i=j
   ·subst f;simp only[An,t.id];exact h.ids a i r o
   ·simp only[As f];exact h.ids a i r o
  ·rw[Ic H j d e];exact h.ids a i r o
 ·obtain⟨L,g⟩:=h.cfg a r;refine⟨L,g.sorted,g.lt,fun i o=>g.mem i (l.1 o),fun i o=>?_⟩;have O:=g.nd i (l.1 o);rw[u,p];by_cases e:a=s
  ·subst e;rw[D9];by_cases f:i=j
   ·subst f;simp only[An,t.aa,t.nodes,t.at_];exact O
   ·simp only[As f];exact O
  ·rw[Ic H j d e];exact O
 ·have A:=l.1 o;have z:=l.1 E;have J:=h.pre a r i k K A z;rw[q,q];by_cases e:a=s
  ·subst e;by_cases C:i=j
   ·subst C;by_cases f:k=i
    ·subst f;exact VQ _
    ·rw[if_neg (by simp[f]),if_pos ⟨rfl,rfl⟩];exact J.trans t.grows
   ·rw[if_neg (c:=a=a/\i=j) (by simp[C])];by_cases f:k=j
    ·subst f;rw[if_pos ⟨rfl,rfl⟩];exact t.lo i (by omega) A
    ·rw[if_neg (by simp[f])];exact J
  ·rw[if_neg (by simp[e]),if_neg (by simp[e])];exact J
 ·have A:=l.1 o;have z:=l.1 E;have V:=h.st a r i k A z;have Q:=(B a k).length_le;by_cases e:a=s/\i=j
  ·obtain⟨rfl,rfl⟩:=e;rw[p,D9];simp only[An];by_cases e:k=i
   ·subst e;rw[q,if_pos ⟨rfl,rfl⟩];exact t.st.1
   ·have:=t.st.2 k e z;omega
  ·have Y:(((H.aq s j d).send ms).sh a).nd i=(H.sh a).nd i:=by
    rw[p];by_cases C:a=s
    ·subst C;rw[D9];exact As (fun f=>e ⟨rfl,f⟩) _
    ·rw[Ic H j d C]
   rw[Y];omega
 ·rw[y];have:=h.dn a i r o;rw[p];by_cases e:a=s
  ·subst e;rw[D9];exact this
  ·rw[Ic H j d e];exact this
 ·rw[y];have I:∀ {a i:Nat} {x:Ms},Uz H a i x->Uz ((H.aq s j d).send ms) a i x:=fun {a i x} g=>
   ⟨by rw[u];exact g.ep,by rw[u];exact fun C f=>(g.fwd C f).imp fun k E=>⟨E.1,getElem?_prefix (B a i) E.2⟩,
    by rw[u];exact fun C f k E=>Int.le_trans (g.st C f k (l.1 E)) (by have:=(B a k).length_le;omega)⟩
  rcases q9f ms G with G|⟨G,N,M⟩
  ·obtain⟨N,M,a,i,r,o,W,hI⟩:=h.ms m G;exact⟨N,M,a,i,r,o,W,I hI⟩
  ·obtain⟨U,T,S,R⟩:=t.ms m G;obtain⟨L,g⟩:=h.cfg s hs;have X:d.aa=(H.sh s).aa:=t.aa.trans (g.nd j hl).1;refine⟨N,M,s,j,hs,hl.1,by rw[U,t.id];exact h.ids s j hs hl.1,by rw[u,T,X];exact WD _,fun _ f=>?_,fun _ f i o=>?_⟩
   ·rw[q,if_pos ⟨rfl,rfl⟩];exact S f
   ·have:=R f;by_cases e:i=j
    ·subst e;rw[q,if_pos ⟨rfl,rfl⟩];have:=t.st.1;omega
    ·have Z:=t.st.2 i e (l.1 o);have:=(B s i).length_le;omega
end
def MQ {L:List Nat} (hs:L.Pairwise (· < ·)) {p q:Nat} (d:L[p]? = Bs i) (c:L[q]? = Bs j):(p<q->i<j)/\(p<=q->i<=j):=by
 rw[List.getElem?_eq_some_iff] at d c;obtain⟨l,o⟩:=d;obtain⟨f,m⟩:=c;have h:=List.pairwise_iff_getElem.1 hs;refine⟨fun a=>by have:=h p q l f a;omega,fun a=>?_⟩;by_cases e:p=q
 ·subst e;omega
 ·have:=h p q l f (by omega);omega
def KN {L:List Nat} (hs:L.Pairwise (· < ·)) {p q:Nat} (d:L[p]? = Bs i) (c:L[q]? = Bs j) (h:i<j):p<q:=by
 rcases Nat.lt_or_ge p q with a|a
 ·exact a
 ·have:=(MQ hs c d).2 a;omega
section
variable {H:Hs} {s j:Nat}
structure At (H:Hs) (s j:Nat) (L:List Nat) (p:Nat):Prop where
 cfg:Cfg H s L
 ix:L[p]? = Bs j
 at_:((H.sh s).nd j).at_=(p:Nat)
 nodes:((H.sh s).nd j).nodes=L.map (BL s)
 aa:((H.sh s).nd j).aa=(H.sh s).aa
def BN.at_ (h:BN H) (hs:s<H.c) (hl:Lv H s j):∃ L p,At H s j L p:=by
 obtain⟨L,g⟩:=h.cfg s hs;obtain⟨f,d,p,c,a⟩:=g.nd j hl;exact⟨L,p,g,c,a,d,f⟩
def At.tail {L:List Nat} {p:Nat} (a:At H s j L p):((H.sh s).nd j).tail=decide (p+1=L.length):=by
 unfold Nd.tail;rw[a.at_,a.nodes,We];have:=(List.getElem?_eq_some_iff.1 a.ix).1;rw[XU];simp only[ge_iff_le,Wj,decide_eq_true_eq,beq_iff_eq];omega
def At.head {L:List Nat} {p:Nat} (a:At H s j L p):((H.sh s).nd j).head=decide (p=0):=by
 unfold Nd.head;rw[a.at_,XU];simp only[beq_iff_eq,decide_eq_true_eq];omega
def At.last {L:List Nat} {p:Nat} (a:At H s j L p) (f:p+1=L.length) (d:Lv H s i):i<=j:=by
 obtain⟨q,c⟩:=List.mem_iff_getElem?.1 (a.cfg.mem i d);have:=(List.getElem?_eq_some_iff.1 c).1;exact(MQ a.cfg.sorted c a.ix).2 (by omega)
def At.first {L:List Nat} (a:At H s j L 0) (d:Lv H s i):j<=i:=by
 obtain⟨q,c⟩:=List.mem_iff_getElem?.1 (a.cfg.mem i d);exact(MQ a.cfg.sorted a.ix c).2 (by omega)
def At.a4 {L:List Nat} {p:Nat} (a:At H s j L p) {b:Int} {q i:Nat} (d:(p:Int)+b=q) (c:L[q]? = Bs i):((H.sh s).nd j).a4 b=BL s i:=by
 unfold Nd.a4;rw[a.at_,a.nodes,d];simp[c]
def q8o (h:BN H) (hs:s<H.c) (hl:Lv H s j) (d:∀ m∈ms,m.from_=((H.sh s).nd j).id/\m.aa=((H.sh s).nd j).aa/\(m.ai=3->∃ k:Nat,m.n=k/\((H.sh s).nd j).log[k]? = Bs m.cmd)/\(m.ai=4->m.n<=((H.sh s).nd j).an)):NdT H s j ((H.sh s).nd j) ms:=
 ⟨rfl,rfl,rfl,rfl,VQ _,fun i c a=>h.pre s hs i j (Yi c) a hl,⟨h.st s hs j j hl hl,fun i _ c=>h.st s hs j i hl c⟩,d⟩
def Rk (h:BN H) (hs:s<H.c) (hl:Lv H s j):NdT H s j ((H.sh s).nd j).tick.1 ((H.sh s).nd j).tick.2:=by
 obtain⟨L,p,a⟩:=h.at_ hs hl;unfold Nd.tick;rw[if_neg (by rw[a.at_];omega),a.tail];by_cases f:p+1=L.length
 ·rw[decide_eq_true f,if_pos rfl];refine⟨rfl,rfl,rfl,rfl,VQ _,fun i d l=>h.pre s hs i j (Yi d) l hl,⟨WD _,fun i _ d=>?_⟩,fun m c=>?_⟩
  ·have:=(h.pre s hs i j (a.last f d) d hl).length_le;show((lg H s j).length:Int)<=_;omega
  ·simp only at c;split at c
   ·rw[VW] at c;subst c;exact⟨rfl,rfl,fun e=>(by simp[Nd.msg,Nd.forward] at e),fun _=>WD _⟩
   ·cases c
 ·rw[decide_eq_false f,if_neg (by simp)];refine q8o h hs hl (fun m c=>?_);rw[VW] at c;subst c;exact⟨rfl,rfl,fun e=>(by simp[Nd.msg,Nd.forward] at e),fun e=>(by simp[Nd.msg,Nd.forward] at e)⟩
def Ji (h:BN H) (hs:s<H.c) (hl:Lv H s j) (c:Cm) (q:∀ i,i<j->Lv H s i->lg H s j++[c] <+: lg H s i):NdT H s j (((H.sh s).nd j).grow c).1 (((H.sh s).nd j).grow c).2:=by
 obtain⟨L,p,a⟩:=h.at_ hs hl;have f:lg H s j <+: lg H s j++[c]:=List.prefix_append _ _;have r:=h.st s hs j j hl hl;unfold Nd.grow;rw[a.tail];by_cases l:p+1=L.length
 ·rw[decide_eq_true l,if_pos rfl];unfold Nd.tick;rw[if_neg (by show ¬((H.sh s).nd j).at_<0;rw[a.at_];omega),show(((H.sh s).nd j).push c).tail=VJ from(show _=((H.sh s).nd j).tail from rfl).trans (by rw[a.tail,decide_eq_true l]),if_pos rfl];refine⟨rfl,rfl,rfl,rfl,f,q,⟨WD _,fun i u o=>?_⟩,fun m d=>?_⟩
  ·have:=(q i (by have:=a.last l o;omega) o).length_le;show((lg H s j++[c]).length:Int)<=_;omega
  ·simp only at d;split at d
   ·rw[VW] at d;subst d;exact⟨rfl,rfl,fun e=>(by simp[Nd.msg,Nd.forward] at e),fun _=>WD _⟩
   ·cases d
 ·rw[decide_eq_false l,if_neg (by simp)];refine⟨rfl,rfl,rfl,rfl,f,q,⟨?_,fun i _ o=>h.st s hs j i hl o⟩,fun m d=>?_⟩
  ·show _<=((lg H s j++[c]).length:Int);rw[VS];show((H.sh s).nd j).an<=_;omega
  ·rw[VW] at d;subst d;refine⟨rfl,rfl,fun _=>⟨((H.sh s).nd j).log.length,rfl,?_⟩,fun e=>(by simp[Nd.msg,Nd.forward] at e)⟩;show(((H.sh s).nd j).log++[c])[((H.sh s).nd j).log.length]? = Bs ((((((H.sh s).nd j).log++[c])[((H.sh s).nd j).log.length]?)).getD Vo);simp
def BN.bJ (h:BN H) (l:m∈H.net.l) (hs:s<H.c) (a:i<H.n) (d:m.from_=BL s i):Lv H s i/\Uz H s i m:=by
 obtain⟨p,_,s2,q,f,o,c,hI⟩:=h.ms m l;have r:=h.n4;obtain⟨rfl,rfl⟩:=qcr (by omega) (by omega) (d.symm.trans c);refine⟨⟨a,?_⟩,hI⟩;rw[h.ids s i hs a,<- h.dn s i hs a,<- d];exact p
def qcl (h:BN H) (hs:s<H.c) (hl:Lv H s j) (C:m∈H.net.l):NdT H s j (((H.sh s).nd j).step m).1 (((H.sh s).nd j).step m).2:=by
 have A:NdT H s j ((H.sh s).nd j) []:=q8o h hs hl (fun m C=>by cases C);obtain⟨L,p,a⟩:=h.at_ hs hl;unfold Nd.step;split
 ·exact A
 ·rename_i Z;simp only[not_or] at Z;obtain⟨_,l,_⟩:=Z;have l:m.aa=(H.sh s).aa:=(Classical.not_not.1 l).trans a.aa;have o:(decide (((H.sh s).nd j).at_ > 0) && m.from_ == ((H.sh s).nd j).a4 (-1))=VJ->∃ i,L[p-1]? = Bs i/\0<p/\Lv H s i/\Uz H s i m:=fun e=>by
   simp only[Wj,decide_eq_true_eq,beq_iff_eq] at e;obtain⟨W,V⟩:=e;rw[a.at_] at W;have B:p-1<L.length:=by have:=(List.getElem?_eq_some_iff.1 a.ix).1;omega
   obtain⟨i,f⟩:∃ i,L[p-1]? = Bs i:=⟨_,L1 B⟩
   have R:=a.cfg.lt i (S2 f);obtain⟨g1,g2⟩:=h.bJ C hs R (V.trans (a.a4 (by omega) f));exact⟨i,f,by omega,g1,g2⟩
  have u:(!((H.sh s).nd j).tail && m.from_ == ((H.sh s).nd j).a4 1)=VJ->∃ i,Lv H s i/\Uz H s i m:=fun e=>by
   simp only[Wj,beq_iff_eq,XE] at e;obtain⟨W,V⟩:=e;rw[a.tail,decide_eq_false_iff_not] at W;have B:p+1<L.length:=by have:=(List.getElem?_eq_some_iff.1 a.ix).1;omega
   obtain⟨i,f⟩:∃ i,L[p+1]? = Bs i:=⟨_,L1 B⟩
   exact⟨i,h.bJ C hs (a.cfg.lt i (S2 f)) (V.trans (a.a4 (by omega) f))⟩
  simp only;split
  ·refine q8o h hs hl (fun x d=>?_);rw[VW] at d;subst d;exact⟨rfl,rfl,fun e=>(by simp[Nd.msg,Nd.forward] at e),fun e=>(by simp[Nd.msg,Nd.forward] at e)⟩
  ·split
   ·refine q8o h hs hl (fun x d=>?_);obtain⟨k,z,rfl⟩:=List.mem_map.1 d;rw[Xz] at z;refine⟨rfl,rfl,fun _=>⟨k,rfl,?_⟩,fun e=>(by simp[Nd.msg,Nd.forward] at e)⟩;show((H.sh s).nd j).log[k]? = Bs ((((H.sh s).nd j).log[k]?).getD Vo);rw[L1 (by omega)];rfl
   ·split
    ·rename_i z;obtain⟨Q,U,hn,_⟩:=z;obtain⟨i,f,B,y,hI⟩:=o U;obtain⟨k,z,E⟩:=hI.fwd l Q;have N:k=(lg H s j).length:=by have h5:(k:Int)=((lg H s j).length:Nat):=z.symm.trans hn;omega
     subst N;have S:i<j:=(MQ a.cfg.sorted f a.ix).1 (by omega);have J:=h.pre s hs i j (Yi S) y hl;have T:lg H s j++[m.cmd] <+: lg H s i:=by
      obtain⟨t,X⟩:=J;rw[<- X,Wk (K0 _),Nat.sub_self] at E;cases t with
      | nil=>simp at E
      | cons x t=>
       simp only[Ft,VR] at E;subst E;exact⟨t,by rw[<- X];simp⟩
     refine Ji h hs hl m.cmd (fun q I c=>?_);obtain⟨r,Y⟩:=List.mem_iff_getElem?.1 (a.cfg.mem q c);have h1:=KN a.cfg.sorted Y a.ix I;exact T.trans (h.pre s hs q i ((MQ a.cfg.sorted Y f).2 (by omega)) c y)
    ·split
     ·rename_i z;obtain⟨O,K,h0,M⟩:=z;obtain⟨i,y,hI⟩:=u K;have G:=hI.st l O;refine⟨rfl,rfl,rfl,rfl,VQ _,fun q I c=>h.pre s hs q j (Yi I) c hl,⟨?_,fun q _ c=>?_⟩,fun x d=>?_⟩
      ·exact Int.max_le.2 ⟨h.st s hs j j hl hl,M⟩
      ·exact Int.max_le.2 ⟨h.st s hs j q hl c,G q c⟩
      ·simp only at d;split at d
       ·rw[VW] at d;subst d;exact⟨rfl,rfl,fun e=>(by simp[Nd.msg,Nd.forward] at e),fun _=>WD _⟩
       ·cases d
     ·exact A
def Cu (h:H.head s=Bs j):Lv H s j/\((H.sh s).nd j).head=VJ:=by
 have c:=Xx h;have a:=List.find?_some h;exact⟨ET.1 c,a⟩
def BN.aG (h:BN H) (hs:s<H.c) (hl:Lv H s j):BN (Hs.aG s H j):=h.node hs hl (Rk h hs hl)
def BN.add (h:BN H) (hs:s<H.c) (o:H.head s=Bs j) (c:Cm) (b:Bool):BN (H.add s j c b).2:=by
 obtain⟨hl,f⟩:=Cu o;unfold Hs.add;split
 ·exact h
 ·rename_i l;have e:(((H.sh s).nd j).add c b).1=((H.sh s).nd j).grow c:=by
   unfold Nd.add at *;rw[f] at *;simp only[Bool.not_true,Bool.false_eq_true,if_false] at *;split
   ·rename_i q;rw[if_pos q] at l;simp at l
   ·rfl
  simp only[e];obtain⟨L,p,a⟩:=h.at_ hs hl;rw[a.head] at f;have m:p=0:=by simpa using f
  subst m;exact(h.node hs hl (Ji h hs hl c (fun i r d=>absurd (a.first d) (by omega)))).same (AK.take _ _)
def q3y {id:Int} {q:Nat×Nat} (d:H.c=3) (h:H.node id=Bs q):q.1<H.c/\Lv H q.1 q.2/\((H.sh q.1).nd q.2).id=id:=by
 have a:=Xx h;have f:=List.find?_some h;rw[List.mem_flatMap] at a;obtain⟨s,hs,a⟩:=a;obtain⟨j,c,rfl⟩:=List.mem_map.1 a;refine⟨?_,ET.1 c,by simpa using f⟩;rw[d];simp at hs;show s<3;omega
def BN.bT (h:BN H) (k:Nat):BN { H with net:=Go.Proofs.YtccahlhdifadfaaGreatDoor.takeS H.net k }:=h.dh (fun _ a=>XF a)
def BN.arrive (h:BN H) (f:H.c=3) {k:Nat} {m:Ms} (d:H.net.l[k]? = Bs m):BN (({ H with net:=Go.Proofs.YtccahlhdifadfaaGreatDoor.takeS H.net k } : Hs).arrive m):=by
 unfold Hs.arrive;cases c:Hs.node { H with net:=Go.Proofs.YtccahlhdifadfaaGreatDoor.takeS H.net k } m.a4 with
 | none=>exact h.bT k
 | some q=>
  obtain⟨s,j⟩:=q;obtain⟨hs,hl,_⟩:=q3y (H:={ H with net:=Go.Proofs.YtccahlhdifadfaaGreatDoor.takeS H.net k }) f c;have t:=qcl h (s:=s) (j:=j) hs hl (S2 d);have a:NdT { H with net:=Go.Proofs.YtccahlhdifadfaaGreatDoor.takeS H.net k } s j (((H.sh s).nd j).step m).1 (((H.sh s).nd j).step m).2:=⟨t.id,t.aa,t.nodes,t.at_,t.grows,t.lo,t.st,t.ms⟩
  exact((h.bT k).node hs hl a).same (AK.take _ _)
def BN.fail (h:BN H) (T:H.c=3) (id:Int):BN (H.fail id):=by
 unfold Hs.fail;cases R:H.node id with
 | none=>exact h
 | some q=>
  obtain⟨s,j⟩:=q;obtain⟨hs,hl,p⟩:=q3y T R;have hs:s<H.c:=hs;have p:((H.sh s).nd j).id=id:=p;have J:id=BL s j:=p.symm.trans (h.ids s j hs hl.1);show BN ({ H.ar s { H.sh s with ao:=fun i=>decide (i=id) || (H.sh s).ao i } with net:=Ev H.net id } : Hs);generalize A:({ H.ar s { H.sh s with ao:=fun i=>decide (i=id) || (H.sh s).ao i } with net:=Ev H.net id } : Hs)=H2;have u:∀ a,H2.sh a=if a=s then { H.sh s with ao:=fun i=>decide (i=id) || (H.sh s).ao i } else H.sh a:=fun a=>by rw[<- A];rfl
  have K:H2.n=H.n:=by rw[<- A];rfl
  have V:H2.c=H.c:=by rw[<- A];rfl
  have o:H2.net=Ev H.net id:=by rw[<- A]
  have c:∀ a,(H2.sh a).nd=(H.sh a).nd/\(H2.sh a).aa=(H.sh a).aa:=fun a=>by
   rw[u];split
   ·rename_i e;subst e;exact⟨rfl,rfl⟩
   ·exact⟨rfl,rfl⟩
  have d:∀ {a i},Lv H2 a i->Lv H a i:=fun {a i} E=>by
   obtain⟨C,r⟩:=E;rw[(c a).1,u] at r;rw[K] at C;refine⟨C,?_⟩;split at r
   ·rename_i e;subst e;simp only[Ym] at r;exact r.2
   ·exact r
  have f:∀ a i,lg H2 a i=lg H a i:=fun a i=>by unfold lg;rw[(c a).1]
  clear A;refine⟨by rw[K];exact h.n4,fun a i z l=>by rw[(c a).1];exact h.ids a i (by omega) (by omega),fun a z=>?_,fun a z i k I l G=>?_,fun a z i k l G=>?_,fun a i z l=>?_,fun m N=>?_⟩
  ·obtain⟨L,g⟩:=h.cfg a (by omega);exact⟨L,g.sorted,by rw[K];exact g.lt,fun i l=>g.mem i (d l),fun i l=>by rw[(c a).1,(c a).2];exact g.nd i (d l)⟩
  ·rw[f,f];exact h.pre a (by omega) i k I (d l) (d G)
  ·rw[f,(c a).1];exact h.st a (by omega) i k (d l) (d G)
  ·have O:=h.dn a i (by omega) (by omega);rw[o,u];show(decide (BL a i=id) || H.net.ao (BL a i))=_;split
   ·rename_i e;subst e;rw[O]
   ·rename_i e;rw[O];have:BL a i≠id:=fun M=>e (qcr (by have:=h.n4;omega) (by have:=h.n4;have:=hl.1;omega) (M.trans J)).1
    simp[this]
  ·rw[o] at N ⊢;have y:=List.mem_filter.1 N;obtain⟨C,r,a,i,z,l,S,hI⟩:=h.ms m y.1;have B:=y.2;unfold gone at B;simp only[XE,Ym,decide_eq_false_iff_not] at B;exact⟨by show(decide (m.from_=id) || H.net.ao m.from_)=Jx;simp[B.1,C],by show(decide (m.a4=id) || H.net.ao m.a4)=Jx;simp[B.2,r],a,i,by omega,by omega,S,
    ⟨by rw[(c a).2];exact hI.ep,by rw[(c a).2,f];exact hI.fwd,by rw[(c a).2];exact fun U M x Q=>by rw[f];exact hI.st U M x (d Q)⟩⟩
end
def RB {L:List Nat} (c:j∈L) (f:∀ i∈L,i<10):∃ p,L[p]? = Bs j/\Dr (BL s j) (L.map (BL s))=(p:Nat):=by
 unfold Dr;rcases a:(L.map (BL s)).findIdx? (fun y=>BL s j == y) with _|i
 ·rw[Wn] at a;have:=a (BL s j) (List.mem_map.2 ⟨j,c,rfl⟩);simp at this
 ·rw[VU] at a;obtain⟨hl,d,_⟩:=a;simp only[List.getElem_map,beq_iff_eq] at d;rw[We] at hl;refine⟨i,?_,rfl⟩;rw[L1 hl,(qcr (f j c) (f _ (Wv hl)) d).2]
structure SW (H:Hs) (s:Nat):Prop where
 hs:s<H.c
 n4:H.n<=4
 ids:∀ s j,s<H.c->j<H.n->((H.sh s).nd j).id=BL s j
 cfg:∀ a,a<H.c->a≠s->∃ L,Cfg H a L
 pre:∀ s,s<H.c->∀ i j,i<=j->Lv H s i->Lv H s j->lg H s j <+: lg H s i
 st:∀ s,s<H.c->∀ i j,Lv H s i->Lv H s j->((H.sh s).nd i).an<=(lg H s j).length
 dn:∀ s j,s<H.c->j<H.n->H.net.ao (BL s j)=(H.sh s).ao (BL s j)
 ms:∀ m∈H.net.l,H.net.ao m.from_=Jx/\H.net.ao m.a4=Jx/\∃ s j,s<H.c/\j<H.n/\m.from_=BL s j/\Uz H s j m
 at_:∀ j,Lv H s j->0<=((H.sh s).nd j).at_\/(lg H s j=[]/\((H.sh s).nd j).an=0)
 ep:0<=(H.sh s).aa/\(H.sh s).aa<=1000000
def BN.toF {H:Hs} (h:BN H) (hs:s<H.c) (d:0<=(H.sh s).aa/\(H.sh s).aa<=1000000):SW H s:=
 ⟨hs,h.n4,h.ids,fun a f _=>h.cfg a f,h.pre,h.st,h.dn,h.ms,fun j c=>by obtain⟨L,p,a⟩:=h.at_ hs c;left;rw[a.at_];omega,d⟩
structure Ks (H0 H:Hs) (s:Nat) (e:Int) (L:List Nat) (D:Nat->Prop):Prop where
 n:H.n=H0.n
 c:H.c=H0.c
 sh:∀ a,a≠s->H.sh a=H0.sh a
 ao:(H.sh s).ao=(H0.sh s).ao
 aa:(H.sh s).aa=e
 nd0:∀ j,¬D j->(H.sh s).nd j=(H0.sh s).nd j
 nd1:∀ j,D j->((H.sh s).nd j).id=((H0.sh s).nd j).id/\((H.sh s).nd j).aa=e/\((H.sh s).nd j).nodes=L.map (BL s)/\(∃ p,L[p]? = Bs j/\((H.sh s).nd j).at_=(p:Nat))/\lg H s j=lg H0 s j/\
  ∀ i,Lv H0 s i->((H.sh s).nd j).an<=(lg H0 s i).length
 nl:∀ m∈H.net.l,H0.net.ao m.from_=Jx/\H0.net.ao m.a4=Jx/\(m∈H0.net.l\/∃ j,j<H0.n/\m.from_=BL s j/\m.aa=e/\m.ai≠3/\(m.ai=4->∀ i,Lv H0 s i->m.n<=(lg H0 s i).length))
 ndd:H.net.ao=H0.net.ao
section
variable {H0 H:Hs} {s:Nat} {e:Int} {L:List Nat} {D:Nat->Prop}
def Ks.join (h:Ks H0 H s e L D) (u:SW H0 s) (M:∀ i,i∈L↔Lv H0 s i) (I:L.Pairwise (· < ·)) {j:Nat} (y:Lv H0 s j) (S:¬D j) :
  Ks H0 (Hs.a5 s (L.map (BL s)) H j) s e L (fun i=>i=j\/D i):=by
 have R:=u.n4;obtain⟨p,J,x⟩:=RB (s:=s) ((M j).2 y) (fun i c=>by have:=((M i).1 c).1;omega);have r:=u.ids s j u.hs y.1;have V:=h.nd0 j S;have G:=fun i c=>u.st s u.hs j i y c
 have O:=(List.getElem?_eq_some_iff.1 J).1;have K:(((H.sh s).nd j).join (H.sh s).aa (L.map (BL s)))=⟨BL s j,e,L.map (BL s),(p:Nat),lg H0 s j,((H0.sh s).nd j).an⟩:=by
  rw[V,h.aa];unfold Nd.join;rcases u.at_ j y with z|⟨z,T⟩
  ·rw[if_neg (by omega),r,x];rfl
  ·split
   ·rw[r,x,z,T]
   ·rw[r,x];rfl
 have o:p+1=L.length->∀ i,Lv H0 s i->(lg H0 s j).length<=(lg H0 s i).length:=fun l i c=>by
  obtain⟨q,N⟩:=List.mem_iff_getElem?.1 ((M i).2 c);have:=(List.getElem?_eq_some_iff.1 N).1;exact(u.pre s u.hs i j ((MQ I N J).2 (by omega)) c y).length_le
 have E:∃ d ms,Hs.a5 s (L.map (BL s)) H j=(H.aq s j d).send ms/\d.id=BL s j/\d.aa=e/\d.nodes=L.map (BL s)/\d.at_=(p:Nat)/\d.log=lg H0 s j/\(∀ i,Lv H0 s i->d.an<=(lg H0 s i).length)/\
   ∀ m∈ms,m.from_=BL s j/\m.aa=e/\m.ai≠3/\(m.ai=4->∀ i,Lv H0 s i->m.n<=(lg H0 s i).length):=by
  unfold Hs.a5;rw[K];unfold Nd.tick;rw[if_neg (show ¬((p:Nat):Int)<0 by omega)];have Q:(Nd.mk (BL s j) e (L.map (BL s)) (p:Nat) (lg H0 s j) ((H0.sh s).nd j).an).tail=decide (p+1=L.length):=by
   unfold Nd.tail;rw[XU];simp only[We,ge_iff_le,Wj,decide_eq_true_eq,beq_iff_eq];omega
  rw[Q];by_cases l:p+1=L.length
  ·rw[decide_eq_true l,if_pos rfl];refine⟨_,_,rfl,rfl,rfl,rfl,rfl,rfl,fun i c=>?_,fun m f=>?_⟩
   ·have:=o l i c;show((lg H0 s j).length:Int)<=_;omega
   ·simp only at f;split at f
    ·rw[VW] at f;subst f;refine⟨rfl,rfl,by simp[Nd.msg],fun _ i c=>?_⟩;have:=o l i c;show((lg H0 s j).length:Int)<=_;omega
    ·cases f
  ·rw[decide_eq_false l,if_neg (by simp)];refine⟨_,_,rfl,rfl,rfl,rfl,rfl,rfl,G,fun m f=>?_⟩;rw[VW] at f;subst f;exact⟨rfl,rfl,by simp[Nd.msg],fun W=>by simp[Nd.msg] at W⟩
 obtain⟨d,ms,U,d1,d2,d3,d4,Z,Y,X⟩:=E;rw[U];refine⟨h.n,h.c,fun a z=>(Ic H j d z).trans (h.sh a z),?_,?_,fun i c=>?_,fun i c=>?_,fun m f=>?_,?_⟩
 ·show((H.aq s j d).sh s).ao=_;rw[D9];exact h.ao
 ·show((H.aq s j d).sh s).aa=_;rw[D9];exact h.aa
 ·show((H.aq s j d).sh s).nd i=_;rw[D9];exact(As (fun e=>c (.inl e)) _).trans (h.nd0 i (fun h=>c (.inr h)))
 ·show(((H.aq s j d).sh s).nd i).id=_/\(((H.aq s j d).sh s).nd i).aa=_/\(((H.aq s j d).sh s).nd i).nodes=_/\(∃ p,L[p]? = Bs i/\(((H.aq s j d).sh s).nd i).at_=(p:Nat))/\lg (H.aq s j d) s i=_/\∀ k,Lv H0 s k->(((H.aq s j d).sh s).nd i).an<=_;rw[q4z,D9];by_cases C:i=j
  ·subst C;simp only[An];exact⟨d1.trans r.symm,d2,d3,⟨p,J,d4⟩,by simpa using Z,Y⟩
  ·simp only[As C];rw[if_neg (by simp[C])];exact h.nd1 i (c.resolve_left C)
 ·rcases q9f ms f with f|⟨f,B,A⟩
  ·exact h.nl m f
  ·have B:H.net.ao m.from_=Jx:=B;have A:H.net.ao m.a4=Jx:=A;rw[h.ndd] at B A;obtain⟨a1,a2,a3,a4⟩:=X m f;exact⟨B,A,.inr ⟨j,y.1,a1,a2,a3,a4⟩⟩
 ·exact(q31 _ _).trans h.ndd
def Ks.congr {a:Nat->Prop} (h:Ks H0 H s e L D) (c:∀ j,D j↔a j):Ks H0 H s e L a:=by
 have:D=a:=funext fun j=>propext (c j)
 rw[<- this];exact h
def Ks.ds (d:SW H0 s) (f:∀ i,i∈L↔Lv H0 s i) (a:L.Pairwise (· < ·)):∀ (l:List Nat) {H:Hs} {D:Nat->Prop},Ks H0 H s e L D->(∀ j∈l,Lv H0 s j/\¬D j)->l.Nodup->Ks H0 (l.foldl (Hs.a5 s (L.map (BL s))) H) s e L (fun i=>i∈l\/D i)
 | [],_,_,h,_,_=>h.congr (fun j=>by simp)
 | j::l,H,D,h,hl,hn=>by
  rw[List.nodup_cons] at hn;have p:=h.join d f a (hl j VH).1 (hl j VH).2;have o:=Ks.ds d f a l p (fun i c=>⟨(hl i (VI _ c)).1,fun m=>m.elim (fun e=>hn.1 (e▸c)) (hl i (VI _ c)).2⟩) hn.2;refine o.congr (fun i=>?_);rw[X4];constructor
  ·rintro (h|h|h)
   ·exact .inl (.inr h)
   ·exact .inl (.inl h)
   ·exact .inr h
  ·rintro ((h|h)|h)
   ·exact .inr (.inl h)
   ·exact .inl h
   ·exact .inr (.inr h)
def q3o (x:Bm) (n:Nat):(x.ah n).Pairwise (· < ·):=X6 _ List.pairwise_lt_range
def Ks.done (h:Ks H0 H s e L D) (q:SW H0 s) (O:∀ i,i∈L↔Lv H0 s i) (B:L.Pairwise (· < ·)) (Q:∀ i,D i↔Lv H0 s i) (Y:e=(H0.sh s).aa+1):BN H:=by
 have u:∀ a i,a<H.c->i<H.n->((H.sh a).nd i).id=BL a i:=fun a i c f=>by
  rw[h.c] at c;rw[h.n] at f;by_cases l:a=s
  ·subst l;by_cases p:D i
   ·rw[(h.nd1 i p).1];exact q.ids a i c f
   ·rw[h.nd0 i p];exact q.ids a i c f
  ·rw[h.sh a l];exact q.ids a i c f
 have d:∀ {a i},a<H.c->(Lv H a i↔Lv H0 a i):=fun {a i} c=>by
  have A:a<H0.c:=h.c▸c;have K:(H.sh a).ao=(H0.sh a).ao:=by
   by_cases l:a=s
   ·subst l;exact h.ao
   ·rw[h.sh a l]
  unfold Lv;rw[K,h.n];constructor
  ·rintro ⟨r,x⟩;rw[u a i c (by rw[h.n];exact r)] at x;rw[q.ids a i A r];exact⟨r,x⟩
  ·rintro ⟨r,x⟩;rw[q.ids a i A r] at x;rw[u a i c (by rw[h.n];exact r)];exact⟨r,x⟩
 have o:∀ a i,lg H a i=lg H0 a i:=fun a i=>by
  by_cases l:a=s
  ·subst l;by_cases p:D i
   ·exact(h.nd1 i p).2.2.2.2.1
   ·unfold lg;rw[h.nd0 i p]
  ·unfold lg;rw[h.sh a l]
 have z:s<H.c:=by rw[h.c];exact q.hs
 refine⟨by rw[h.n];exact q.n4,u,fun a c=>?_,fun a c i k G f y=>?_,fun a c i k f y=>?_,fun a i c f=>?_,fun m R=>?_⟩
 ·by_cases l:a=s
  ·subst l;refine⟨L,B,fun i f=>by rw[h.n];exact((O i).1 f).1,fun i f=>(O i).2 ((d c).1 f),fun i f=>?_⟩;obtain⟨_,X,W,V,_⟩:=h.nd1 i ((Q i).2 ((d c).1 f));rw[h.aa];exact⟨X,W,V⟩
  ·obtain⟨M,g⟩:=q.cfg a (h.c▸c) l;refine⟨M,g.sorted,by rw[h.n];exact g.lt,fun i f=>g.mem i ((d c).1 f),fun i f=>?_⟩;rw[h.sh a l];exact g.nd i ((d c).1 f)
 ·rw[o,o];exact q.pre a (h.c▸c) i k G ((d c).1 f) ((d c).1 y)
 ·rw[o];by_cases l:a=s
  ·subst l;exact(h.nd1 i ((Q i).2 ((d c).1 f))).2.2.2.2.2 k ((d c).1 y)
  ·rw[h.sh a l];exact q.st a (h.c▸c) i k ((d c).1 f) ((d c).1 y)
 ·rw[h.ndd];have:=q.dn a i (h.c▸c) (h.n▸f);by_cases l:a=s
  ·subst l;rw[h.ao];exact this
  ·rw[h.sh a l];exact this
 ·rw[h.ndd];obtain⟨r,x,N⟩:=h.nl m R;refine⟨r,x,?_⟩;rcases N with N|⟨j,S,J,T,E,C⟩
  ·obtain⟨_,_,a,i,c,f,I,hI⟩:=q.ms m N;refine⟨a,i,by rw[h.c];exact c,by rw[h.n];exact f,I,?_⟩;by_cases l:a=s
   ·subst l;have:=hI.ep;exact⟨by rw[h.aa];omega,by rw[h.aa];exact fun p=>by omega,by rw[h.aa];exact fun p=>by omega⟩
   ·exact⟨by rw[h.sh a l];exact hI.ep,by rw[h.sh a l,o];exact hI.fwd,by rw[h.sh a l];exact fun p U k y=>by rw[o];exact hI.st p U k ((d (by rw[h.c];exact c)).1 y)⟩
  ·exact⟨s,j,z,by rw[h.n];exact S,J,by rw[h.aa];omega,fun _ p=>absurd p E,fun _ p i f=>by rw[o];exact C p i ((d z).1 f)⟩
end
structure FixF (H H':Hs) (s:Nat):Prop where
 chi:BN H'
 n:H'.n=H.n
 c:H'.c=H.c
 m:H'.m=H.m
 lv:∀ a i,a<H.c->(Lv H' a i↔Lv H a i)
 lg:∀ a i,lg H' a i=lg H a i
 sh:∀ a,a≠s->H'.sh a=H.sh a
 ao:∀ a,(H'.sh a).ao=(H.sh a).ao
 aa:((H'.sh s).aa=(H.sh s).aa/\(H.sh s).ah H.n=[])\/(H'.sh s).aa=(H.sh s).aa+1
 ag:H'.ag=H.ag
 tx:∀ i,(H'.tx i).state=(H.tx i).state/\(H'.tx i).ad=(H.tx i).ad/\(H'.tx i).ae=(H.tx i).ae/\(H'.tx i).places=(H.tx i).places/\(H'.tx i).ag=(H.tx i).ag
def q6m (s:Nat) (ids:List Int):∀ (l:List Nat) (H:Hs),(l.foldl (Hs.a5 s ids) H).n=H.n/\(l.foldl (Hs.a5 s ids) H).c=H.c/\(l.foldl (Hs.a5 s ids) H).m=H.m/\(l.foldl (Hs.a5 s ids) H).ag=H.ag/\(l.foldl (Hs.a5 s ids) H).tx=H.tx
 | [],_=>⟨rfl,rfl,rfl,rfl,rfl⟩
 | j::l,H=>by
  obtain⟨h,f,d,c,a⟩:=q6m s ids l (Hs.a5 s ids H j);exact⟨h,f,d,c,a⟩
def Bm.dt {H:Hs} (h:∀ j,Lv H s j->((H.sh s).nd j).id=BL s j):(H.sh s).ids H.n=((H.sh s).ah H.n).map (BL s):=by
 unfold Bm.ids;exact List.map_congr_left (fun j a=>h j (ET.1 a))
def q8s {H:Hs} (hl:(H.sh s).ah H.n≠[]):H.fix s=H.bh s:=by unfold Hs.fix;rw[if_neg hl]
def qcw {H:Hs} (hl:(H.sh s).ah H.n=[]):H.fix s=H:=by unfold Hs.fix;rw[if_pos hl]
def SW.fix {H:Hs} {s:Nat} (h:SW H s):FixF H (H.fix s) s:=by
 by_cases hl:(H.sh s).ah H.n=[]
 ·rw[qcw hl];have E:∀ i,¬Lv H s i:=fun i K=>by have:=ET.2 K;rw[hl] at this;cases this
  refine⟨⟨h.n4,h.ids,fun a o=>?_,h.pre,h.st,h.dn,h.ms⟩,rfl,rfl,rfl,fun _ _ _=>Yl,fun _ _=>rfl,fun _ _=>rfl,fun _=>rfl,.inl ⟨rfl,hl⟩,rfl,fun _=>⟨rfl,rfl,rfl,rfl,rfl⟩⟩;by_cases e:a=s
  ·subst e;exact⟨[],Yk,fun _ h=>(nomatch h),fun i K=>absurd K (E i),fun i K=>absurd K (E i)⟩
  ·exact h.cfg a o e
 ·rw[q8s hl];have U:wrap64 ((H.sh s).aa+1)=(H.sh s).aa+1:=Xf _ ⟨by have:=h.ep;omega,by have:=h.ep;omega⟩;have r:∀ i,i∈(H.sh s).ah H.n↔Lv H s i:=fun i=>ET
  have x:=q3o (H.sh s) H.n;have J:=Bm.dt (H:=H) (s:=s) (fun j I=>h.ids s j h.hs I.1);unfold Hs.bh;simp only[J,U];generalize V:(H.sh s).ah H.n=L at *;generalize d:H.ar s { H.sh s with aa:=(H.sh s).aa+1,size:=L.length } = H1;have y:H1.sh s = { H.sh s with aa:=(H.sh s).aa+1,size:=L.length }:=by rw[<- d];exact Cl _ _ _
  have S:Ks H H1 s ((H.sh s).aa+1) L (fun _=>False):=by
   refine⟨by rw[<- d];rfl,by rw[<- d];rfl,fun a o=>by rw[<- d];exact As o _,by rw[y],by rw[y],fun j _=>by rw[y],fun j I=>I.elim,fun m R=>?_,by rw[<- d];rfl⟩;rw[<- d] at R;obtain⟨u,A,_⟩:=h.ms m R;exact⟨u,A,.inl R⟩
  have l:=Ks.ds h r x L S (fun j I=>⟨(r j).1 I,fun h=>h⟩) (x.imp (fun {a b} h=>by omega));have f:=q6m s (L.map (BL s)) L H1;have B:H1.tx=H.tx:=by rw[<- d];rfl
  have O:H1.ag=H.ag:=by rw[<- d];rfl
  have Q:H1.m=H.m:=by rw[<- d];rfl
  generalize List.foldl (Hs.a5 s (L.map (BL s))) H1 L=H2 at *;have z:=l.done h r x (fun i=>by rw[r];simp) rfl;generalize p:H2.ar s { H2.sh s with tab:=fun _=>B0,sto:=fun _=>[],done:=0 } = H3;have C:AK H2 H3:=by rw[<- p];exact AK.ar rfl rfl rfl
  have c:AK H2 (H3.take s):=C.trans (AK.take H3 s);have q:=Bz.take H3 s;have G:∀ a i,lg H2 a i=lg H a i:=fun a i=>by
   by_cases N:a=s
   ·subst N;by_cases T:i∈L\/False
    ·exact(l.nd1 i T).2.2.2.2.1
    ·unfold lg;rw[l.nd0 i T]
   ·unfold lg;rw[l.sh a N]
  have M:∀ a,(H2.sh a).ao=(H.sh a).ao:=fun a=>by
   by_cases N:a=s
   ·subst N;exact l.ao
   ·rw[l.sh a N]
  refine⟨z.same c,?_,?_,?_,fun a i o=>?_,fun a i=>(c.lg a i).trans (G a i),fun a o=>?_,fun a=>(c.ao a).trans (M a),.inr ?_,?_,fun i=>?_⟩
  ·exact c.n.trans l.n
  ·exact c.c.trans l.c
  ·rw[q.m,<- p];exact f.2.2.1.trans Q
  ·rw[c.lv];unfold Lv;rw[l.n,M];constructor
   ·rintro ⟨u,A⟩;rw[z.ids a i (by rw[l.c];exact o) (by rw[l.n];exact u)] at A;rw[h.ids a i o u];exact⟨u,A⟩
   ·rintro ⟨u,A⟩;rw[h.ids a i o u] at A;rw[z.ids a i (by rw[l.c];exact o) (by rw[l.n];exact u)];exact⟨u,A⟩
  ·rw[q.sh a o,<- p];exact(As o _).trans (l.sh a o)
  ·exact(c.aa s).trans l.aa
  ·rw[q.ag,<- p];exact f.2.2.2.1.trans O
  ·have:=q.tx i;have e:H3.tx i=H.tx i:=by rw[<- p];show H2.tx i=_;rw[f.2.2.2.2,B]
   rw[e] at this;exact this
def q4t (bs:Nat->Nat->Bool):∀ (k i:Nat) (r:Hs×Bool),Sm r.1 (Hs.round bs k i r).1
 | 0,_,r=>Sm.refl _
 | k+1,i,r=>(q1v r.1 i (bs i)).1.sm.trans (q4t bs k (i+1) ((r.1.av i (bs i)).1,(r.1.av i (bs i)).2 || r.2))
def Wf.round {bs:Nat->Nat->Bool} : ∀ (k i:Nat) {r:Hs×Bool},Wf r.1->r.1.c=3->1<=i->i+k<=r.1.m+1->Wf (Hs.round bs k i r).1
 | 0,_,_,h,_,_,_=>h
 | k+1,i,r,h,a,c,d=>by
  have f:=(q1v r.1 i (bs i)).1.sm;exact Wf.round k (i+1) (h.av a c (by omega) _) (f.c.trans a) (by omega) (by show i+1+k<=(r.1.av i (bs i)).1.m+1;rw[f.m];omega)
def Sm.settle {H H':Hs} (h:DL H H'):Sm H H':=by
 induction h with
 | @stop H bs _=>exact q4t bs H.m 1 (H,Jx)
 | @more H H' bs _ _ a=>exact(q4t bs H.m 1 (H,Jx)).trans a
def Wf.settle {H H':Hs} (h:DL H H'):Wf H->H.c=3->Wf H':=by
 induction h with
 | @stop H bs _=>exact fun c a=>Wf.round (r:=(H,Jx)) H.m 1 c a (K0 _) (by show 1+H.m<=H.m+1;omega)
 | @more H H' bs _ _ d=>exact fun c a=>d (Wf.round (r:=(H,Jx)) H.m 1 c a (K0 _) (by show 1+H.m<=H.m+1;omega)) ((q4t bs H.m 1 (H,Jx)).c.trans a)
def Pf (P:Aq) (m:Nat) (w:D0):Nat:=((Wh 1 m).filter fun a=>decide (intOf ((w.cell? ⟨P.gt a,1,B0⟩).getD undef)=2)).length
def Mn (P:Aq) (m:Nat) (v:O0) (w:D0):Nat:=match v with
 | .bool VJ=>1+Pf P m w
 | _=>0
section
variable {w w':D0} {own own':Ah} {P:Aq} {H:Hs}
def HI.cnt (h:HI w own P H):Pf P H.m w=Oe H:=by
 unfold Pf Oe;congr 1;apply XA;intro a d;rw[Xz] at d;obtain⟨v,c⟩:=h.tx a (by omega) (by omega);rw[c.cells.2.1];rfl
def VC (P:Aq) (own:Ah) (H:Hs) (w:D0) (c:O0) (wr:D0):Prop:=
 ∃ (a:Bool) (H2:Hs),c=.bool a/\BZ P own H2 w wr/\Wf H2/\H2.c=3/\H2.m=H.m/\(a=VJ->∀ H',DL H2 H'->DL H H')/\(a=Jx->DL H H2)
def Sr (P:Aq) (own:Ah) (H2:Hs) (w:D0) (f d:O0) (wr:D0):Prop:=
 ∃ (q:Nat) (a:Bool) (bs:Nat->Nat->Bool) (c:Hs),d=.int .i64 q/\f=.bool a/\q<=H2.m/\BZ P own c w wr/\Wf c/\c.c=3/\c.m=H2.m/\Hs.round bs q 1 (H2,Jx)=(c,a)/\Oe c+(if a then 1 else 0)<=Oe H2
def T6 {H2 c:Hs} {q:Nat} {a:Bool} {bs:Nat->Nat->Bool} (h:Hs.round bs q 1 (H2,Jx)=(c,a)) (b:Nat->Bool):Hs.round (Af bs (q+1) b) (q+1) 1 (H2,Jx)=((c.av (q+1) b).1,(c.av (q+1) b).2 || a):=by
 rw[qbe,q9i (bs:=Af bs (q+1) b) (bs':=bs) q 1 (H2,Jx) (fun x f d=>As (by omega) _),h];rw[show 1+q=q+1 by omega,An]
def in_cnt {H2 c:Hs} {q:Nat} {a:Bool} (f:Oe c+(if a then 1 else 0)<=Oe H2) (d:q+1<=c.m) (b:Nat->Bool):Oe (c.av (q+1) b).1+(if (c.av (q+1) b).2 || a then 1 else 0)<=Oe H2:=by
 obtain⟨l,h⟩:=IV c (i:=q+1) (by omega) d b;cases e:(c.av (q+1) b).2 with
 | false=>rw[l e,Bool.false_or];exact f
 | true=>
  have:=h e;rw[Bool.true_or,if_pos rfl];omega
def SetP (P:Aq) (own:Ah) (H:Hs) (w:D0) (e:WC) (w':D0):Prop:=e=.returned (.tuple #[])/\∃ H',DL H H'/\BZ P own H' w w'
def q4d (h:HI w own P H) (wf:Wf H) (hc:H.c=3):VY Tryz.prog 38 #[pw P.g] w (SetP P own H w):=by
 have HH:=LH h;have ae:=LH wf;clear h wf;unfold pw;go_enter Tryz.func38,Tryz.ntmps38;go_wp2_with fail;go_loopw [2] (VC P own H w) (fun v wr=>Mn P H.m v wr)
 case atStart=>exact⟨VJ,H,rfl,⟨own,HH.o,HZ.refl _ _ _⟩,ae.o,hc,rfl,fun _ H' h=>h,fun h=>(by cases h)⟩
 case round=>
  obtain⟨a,H2,rfl,⟨f,E,S⟩,T,ab,a3,I,a1⟩:=hrel;cases a with
  | false=>
   have HF:=LH (show SetP P own H w (.returned (.tuple #[])) wr from⟨rfl,H2,a1 rfl,f,E,S⟩);clear E S I a1 T;go_wp2_with fail
   go_end0
   exact HF.o
  | true=>
   have Z:=LH (I rfl);have Y:=E.cnt;have aa:=LH Y;have ak:=LH E;have ac:=LH S;have af:=LH T;obtain⟨vh,J⟩:=E.hs;obtain⟨_,_,c4,_,gl⟩:=J.cells;obtain⟨A,c,hV,_,_⟩:=AR J.txr;rw[hV] at c4;have ah:=LH (fun W own' (hz:Ay wr f W own')=>(hV▸hz.fr.own J.txr (fun b hb hs=>(hs.tag (J.bu b hb)).1 rfl):W.ownsRow 0 74 1 (.slice A H2.m c) H2.m ((Wh 1 H2.m).map fun i=>pw (P.gt i))));have a0:=LH T.bz;clear I a1 Y E S T J hV;go_wp2_with fail;clear c4;rename D0=>W0
   go_loopw [2,11] (Sr P f H2 W0) (fun _ u _=>H2.m-(intOf u).toNat)
   case atStart=>exact⟨0,Jx,fun _ _=>Jx,H2,rfl,rfl,VN _,⟨f,ak.o,HZ.refl _ _ _⟩,af.o,ab,rfl,rfl,by simp⟩
   case round=>
    obtain⟨q,a,bs,d,rfl,rfl,hq,⟨X,C,K⟩,M,B,a2,p,R⟩:=hrel;by_cases ao:(q:Int)<H2.m
    ·obtain⟨r,c',hV,hr,u,hu,Q⟩:=SK (ah.o _ _ K) (k:=q) (by omega);injection hV with hA _ hcp;subst hA hcp;rw[V8,List.getElem?_range' (by omega)] at hu;simp only[WK,VR] at hu;rw[show 1+1*q=q+1 by omega] at hu;subst hu;unfold pw at Q;obtain⟨vt,a5⟩:=C.tx (q+1) (by omega) (by omega);obtain⟨_,k1,_,_,_,_,_,kl⟩:=a5.cells;have V:=LH C;have U:=LH K;have a4:=LH M;have ai:=LH (fun b=>T6 p b);have al:=LH (fun b=>in_cnt R (show q+1<=d.m by omega) b);have ad:=LH (fun b=>M.av B (show 1<=q+1 by omega) (show q+1<=d.m by omega) b);have ag:=LH (fun b=>(q1v d (q+1) b).1.sm);have hrel:∀ (b:Nat->Bool) (W:D0) (x:Ah) (H4:Hs) (y:Bool),d.av (q+1) b=(H4,y)->HI W x P H4->Ay W0 f W x->Sr P f H2 W0 (.bool (y || a)) (.int .i64 ((q+1:Nat):Int)) W:=fun b W x H4 y e hI hZ=>by
      have e1:=ai.o b;have e2:=al.o b;have e3:=ad.o b;have e4:=ag.o b;rw[e] at e1 e2 e3 e4;exact⟨q+1,y || a,_,H4,rfl,rfl,by omega,⟨x,hI,hZ⟩,e3,e4.c.trans B,e4.m.trans a2,e1,e2⟩
     have z:=LH hrel;have am:q<=60:=by have:=a0.o;omega
     have an:H2.m<=60:=a0.o;clear hrel a5 C K M p R;by_cases s2:(d.tx (q+1)).state=2
     ·rw[s2] at k1;have a9:=LH (RV V.o a4.o B (show 1<=q+1 by omega) (show q+1<=d.m by omega));have O:=LH (fun b=>show d.av (q+1) b=d.ends (q+1) b by unfold Hs.av;rw[if_pos s2]);unfold pw at a9;clear s2;go_wp2_with fail;refine a9.o.mono ?_;rintro e w5 ⟨b,rfl,m,l,o⟩;rcases hE:d.ends (q+1) b with ⟨H4,y⟩
      rw[hE] at l;have G:=LH (z.o b w5 m H4 y ((O.o b).trans hE) l (U.o.trans o));clear l o k1 Q hE
      dsimp only
      cases y with
      | false=>
       rw[Bool.false_or] at G;go_wp2_with fail;go_roundw
       ·exact G.o
       ·simp[intOf];omega
      | true=>
       rw[Bool.true_or] at G;go_wp2_with fail;go_roundw
       ·exact G.o
       ·simp[intOf];omega
     ·have e2:((d.tx (q+1)).state == 2)=Jx:=by simpa using s2
      by_cases s3:(d.tx (q+1)).state=3
      ·have N:=LH (q6u (kind:=3) V.o a4.o B (show 1<=q+1 by omega) (show q+1<=d.m by omega));have O:=LH (show d.av (q+1) (fun _=>Jx)=(d.aS (q+1) 3,Jx) by unfold Hs.av;rw[if_neg s2,if_pos s3]);unfold pw at N;rw[s3] at k1;clear s2 e2 s3;go_wp2_with fail;refine N.o.mono ?_;rintro e w5 ⟨rfl,m,l,o⟩;have G:=LH (z.o _ w5 m _ _ O.o l (U.o.trans o));clear l o k1 Q;rw[Bool.false_or] at G;go_wp2_with fail;go_roundw
       ·exact G.o
       ·simp[intOf];omega
      ·have e3:((d.tx (q+1)).state == 3)=Jx:=by simpa using s3
       by_cases s4:(d.tx (q+1)).state=4
       ·have N:=LH (q6u (kind:=4) V.o a4.o B (show 1<=q+1 by omega) (show q+1<=d.m by omega));have O:=LH (show d.av (q+1) (fun _=>Jx)=(d.aS (q+1) 4,Jx) by unfold Hs.av;rw[if_neg s2,if_neg s3,if_pos s4]);unfold pw at N;rw[s4] at k1;clear s2 e2 s3 e3 s4;go_wp2_with fail;refine N.o.mono ?_;rintro e w5 ⟨rfl,m,l,o⟩;have G:=LH (z.o _ w5 m _ _ O.o l (U.o.trans o));clear l o k1 Q;rw[Bool.false_or] at G;go_wp2_with fail;go_roundw
        ·exact G.o
        ·simp[intOf];omega
       ·have e4:((d.tx (q+1)).state == 4)=Jx:=by simpa using s4
        have G:=LH (z.o (fun _=>Jx) wr X d Jx (by unfold Hs.av;rw[if_neg s2,if_neg s3,if_neg s4]) V.o U.o);rw[Bool.false_or] at G;clear s2 s3 s4;go_wp2_with fail;go_roundw
        ·exact G.o
        ·simp[intOf];omega
    ·obtain rfl:q=H2.m:=by omega
     have a7:=C.cnt;have a8:VC P own H w (.bool a) wr:=by
      refine⟨a,d,rfl,⟨X,C,ac.o.trans K⟩,M,B,a2.trans a3,fun ha H' hs=>Z.o H' ?_,fun ha=>Z.o d ?_⟩
      ·have:=DL.more (H:=H2) bs (by rw[p];exact ha) (H':=H') (by rw[p];exact hs);exact this
      ·have:=DL.stop (H:=H2) bs (by rw[p];exact ha);rw[p] at this;exact this
     have a6:Mn P H.m (.bool a) wr<Mn P H.m (.bool VJ) W0:=by
      have e0:=aa.o;rw[a3] at e0;rw[a2,a3] at a7;cases a with
      | false=>show 0<1+Pf P H.m W0;omega
      | true=>
       show 1+Pf P H.m wr<1+Pf P H.m W0;rw[if_pos rfl] at R;omega
     have HO:=LH a8;have aj:=LH a6;clear a8 a6 a7 C K M p R;go_wp2_with fail;go_roundw
     case rel=>exact HO.o
     case measure=>exact aj.o
end
def E9 (P:Aq) (own:Ah) (w:D0) (r:Int×Hs) (e:WC) (w':D0):Prop:=e=.returned (CD r.1)/\BZ P own r.2 w w'
def q7d {P:Aq} {m:Nat} {id:Int} (h:id<1\/m<id):DW P m id=.pointer B0:=by unfold DW;rw[if_pos h]
def q5j {P:Aq} {m:Nat} (c:1<=i) (a:i<=m):DW P m i=pw (P.gt i):=by unfold DW;rw[if_neg (by omega)];rfl
section
variable {w w':D0} {own own':Ah} {P:Aq} {H:Hs}
def RX (h:HI w own P H) (c:Wf H) (u:H.c=3) (id:Int):VY Tryz.prog 16 #[pw P.g,.int .i64 id] w (E9 P own w (H.drop id)):=by
 have f:=LH (q51 h (by have:=c.bz;omega) id);by_cases a:id<1\/H.m<id
 ·have d:=LH (show E9 P own w (H.drop id) (.returned (.iface 79 (.int .i64 7))) w from by unfold Hs.drop;rw[if_pos a];exact⟨rfl,own,h,HZ.refl _ _ _⟩);rw[q7d a] at f;clear h c a;unfold pw at *;go_enter Tryz.func16,Tryz.ntmps16;go_wp2_with fail;refine f.o.mono ?_;rintro e p ⟨rfl,rfl⟩;go_wp2_with fail;go_ret;exact d.o
 ·obtain⟨i,rfl⟩:∃ i:Nat,id=i:=⟨id.toNat,by omega⟩
  have o:1<=i:=by omega
  have m:i<=H.m:=by omega
  rw[q5j o m] at f;obtain⟨v,l⟩:=h.tx i o m;obtain⟨_,q,_,_,_,_,_,z⟩:=l.cells;by_cases s1:(H.tx i).state=1
  ·have x:=LH (show H.drop i=(0,H.abort i) by unfold Hs.drop;rw[if_neg a,if_neg (fun h=>h s1)];rfl);have y:=LH (q42 h c u o m);rw[s1] at q;clear h c a l s1;unfold pw at *;go_enter Tryz.func16,Tryz.ntmps16;go_wp2_with fail;refine f.o.mono ?_;rintro e p ⟨rfl,rfl⟩;go_wp2_with fail;refine y.o.mono ?_;rintro e w2 ⟨rfl,r⟩;have d:=LH (show E9 P own w (H.drop i) (.returned .nilIface) w2 from by rw[x.o];exact⟨rfl,r⟩);clear r q;go_wp2_with fail;go_ret;exact d.o
  ·have d:=LH (show E9 P own w (H.drop i) (.returned (.iface 79 (.int .i64 6))) w from by unfold Hs.drop;rw[if_neg a,if_pos (by exact s1)];exact⟨rfl,own,h,HZ.refl _ _ _⟩);have A:((H.tx i).state != 1)=VJ:=by simpa using s1
   clear h c a l s1;unfold pw at *;go_enter Tryz.func16,Tryz.ntmps16;go_wp2_with fail;refine f.o.mono ?_;rintro e p ⟨rfl,rfl⟩;go_wp2_with fail;go_ret;exact d.o
end
def Lr (L:List AS) (k:Nat):AF (L.eraseIdx k)=(AF L).eraseIdx k:=by
 unfold AF;rw[Yp,Yp,Xd,List.map_take,List.map_drop]
def Jj {L:List AS} {x:AS} (h:L[k]? = Bs x):(AF L)[k]? = Bs x.m:=by unfold AF;rw[V8,h];rfl
def MTakeP (P:Aq) (H:Hs) (own:Ah) (k:Nat) (w:D0) (e:WC) (w':D0):Prop:=
 ∃ x:AS,H.net.l[k]? = Bs x.m/\e=.returned (.tuple #[TS x,.nilIface])/\HI w' own P { H with net:=takeS H.net k }/\HZ QI w own w' own/\DR w' 0 x/\x.n<=100000/\(∀ b,Value.ownBlock (.slice x.A x.n x.k)=Bs b->own b=Bs .net)
section
variable {w w':D0} {own own':Ah} {P:Aq} {H:Hs}
def HI.cw (h:HI w own P H):H.net.l.length<=200:=by
 obtain⟨v,a⟩:=h.hs;rw[<- a.msgs];unfold AF;rw[We];exact a.nt.len
def Jf (h:HI w own P H) {v:Kr} (c:Eh w own P H.c H.m H.net H.ag v) {lost':Int} (r:Fr (BO P.g v.Vn v.D) w w')
  (q:AJ w' 0 P.g 0 92 (Oi { v with Vn:=V',L:=v.L.eraseIdx k,lost:=lost' } H.ag) V' v.D 100 (v.L.eraseIdx k) H.net.ao lost') (p:V'.ownBlock=v.Vn.ownBlock):HI w' own P { H with net:=takeS H.net k }/\HZ QI w own w' own:=by
 have d:=G1 c r;have m:Ext own own w.heap.size:=Ext.refl _ _;have l:=c.cL (net':=takeS H.net k) (v':={ v with Vn:=V',L:=v.L.eraseIdx k,lost:=lost' }) d m rfl rfl q (by show AF (v.L.eraseIdx k)=H.net.l.eraseIdx k;rw[Lr,c.msgs]) (fun b a=>by
  rcases a with a|a|⟨x,f,a⟩
  ·exact c.bc b (.inl (by rw[<- p];exact a))
  ·exact c.bc b (.inr (.inl a))
  ·exact c.bc b (.inr (.inr ⟨x,XF f,a⟩))) (fun x f=>c.br x (XF f))
 exact⟨h.setHs' (net':=takeS H.net k) (time':=H.ag) (GQ d (fun t o=>o.elim .inl (fun e=>.inr (.inl e)))) m (fun b a=>VL (h.lt b a) d.size) ⟨_,l⟩,⟨m,d,(by first|exact Pz (by simp)|exact fun _ _ h=>h)⟩⟩
def OA (h:HI w own P H) (f:k<H.net.l.length):VY Tryz.prog 48 #[pw P.g,.int .i64 k] w (MTakeP P H own k w):=by
 obtain⟨v,a⟩:=h.hs;have d:k<v.L.length:=by rw[<- a.msgs] at f;unfold AF at f;rwa [We] at f
 refine(IN 0 P.g 0 100 _ _ v.Vn v.D v.L H.net.ao v.lost k w a.nt d).mono ?_;rintro e w' ⟨V',x,c,rfl,p,o,q,m⟩;obtain⟨u,r⟩:=Jf (lost':=v.lost) h a q p m;exact⟨x,by rw[<- a.msgs];exact Jj c,rfl,u,r,o,a.br x (S2 c),fun b l=>a.bc b (.inr (.inr ⟨x,S2 c,l⟩))⟩
def OE (h:HI w own P H) (d:k<H.net.l.length):VY Tryz.prog 53 #[pw P.g,.int .i64 k] w fun e w'=>e=.returned .nilIface/\HI w' own P (H.lose k)/\HZ QI w own w' own:=by
 obtain⟨v,a⟩:=h.hs;have c:k<v.L.length:=by rw[<- a.msgs] at d;unfold AF at d;rwa [We] at d
 refine(Ro 0 P.g 0 100 _ _ v.Vn v.D v.L H.net.ao v.lost w k a.nt c).mono ?_;rintro e w' ⟨V',lost',rfl,l,m,f⟩;obtain⟨p,o⟩:=Jf (lost':=lost') h a m l f;exact⟨rfl,p,o⟩
def OZ (h:HI w own P H) (c:k<H.net.l.length):VY Tryz.prog 29 #[pw P.g,.int .i64 k] w (E9 P own w (0,H.lose k)):=by
 have m:=LH (OE h c);obtain⟨o,a⟩:=h.hs;have p:=a.cells.2.2.2.2;clear h c a;unfold pw at *;go_enter Tryz.func29,Tryz.ntmps29;go_wp2_with fail;refine m.o.mono ?_;rintro e f ⟨rfl,hI,d⟩;have l:=LH (show E9 P own w (0,H.lose k) (.returned .nilIface) f from⟨rfl,own,hI,d.mono (fun _=>UR)⟩);clear hI d;go_wp2_with fail;go_ret;exact l.o
def Rg (h:HI w own P H) {v:Kr} (f:Eh w own P H.c H.m H.net H.ag v) {lost':Int} {net':AW} (J:Fr (BO P.g v.Vn v.D) w w') (u:∀ y∈L',y∈v.L\/Ke w.heap.size y)
  (C:AJ w' 0 P.g 0 92 (Oi { v with Vn:=V',L:=L',lost:=lost' } H.ag) V' v.D 100 L' H.net.ao lost') (I:V'.ownBlock=v.Vn.ownBlock\/∃ b,V'.ownBlock=Bs b/\w.heap.size<=b) (A:net'=⟨AF L',H.net.ao⟩) (p:∀ m∈net'.l,Gn m) :
  ∃ own',HI w' own' P { H with net:=net' }/\HZ QI w own w' own':=by
 have o:=G1 f J;have B:Ext own (DK own w.heap.size (E7 { v with Vn:=V',L:=L',lost:=lost' }) .net) w.heap.size:=QS;have z:∀ b,E7 { v with Vn:=V',L:=L',lost:=lost' } b->own b=Bs .net\/w.heap.size<=b:=fun b a=>by
  rcases a with a|a|⟨x,l,a⟩
  ·rcases I with c|⟨q,c,E⟩
   ·exact .inl (f.bc b (.inl (by rw[<- c];exact a)))
   ·have d:V'.ownBlock=Bs b:=a;rw[c] at d;injection d with d;exact .inr (by omega)
  ·exact .inl (f.bc b (.inr (.inl a)))
  ·rcases u x l with c|c
   ·exact .inl (f.bc b (.inr (.inr ⟨x,c,a⟩)))
   ·exact .inr (c b a)
 have r:=f.cL (net':=net') (v':={ v with Vn:=V',L:=L',lost:=lost' }) o B rfl rfl (by rw[A];exact C) (by rw[A]) (fun b a=>QQ (z b a) a) (fun x l=>by
  have c:x.m∈net'.l:=by rw[A];exact List.mem_map.2 ⟨x,l,rfl⟩
  have E:=(p x.m c).br;rw[(C.own x l).2] at E;omega)
 exact⟨_,h.setHs' (net':=net') (time':=H.ag) (GQ o (fun t G=>G.elim .inl (fun e=>.inr (.inl e)))) B (QP o.size (fun b a=>C.aw a)) ⟨_,r⟩,⟨B,o,(by first|exact Pz (by simp)|exact fun _ _ h=>h)⟩⟩
def qay (H:Hs):Int:=if H.net.l.length=200 then 4 else 0
def QC {s:AW} (h:∀ x∈s.l,Gn x) (c:Gn m):∀ x∈(AN s m).l,Gn x:=by
 intro x a;unfold AN at a;split at a
 ·exact h x a
 ·rcases List.mem_append.1 a with a|a
  ·exact h x a
  ·rw[VW] at a;subst a;exact c
def Lq (h:HI w own P H) (o:Wf H) (A:k<H.net.l.length):VY Tryz.prog 54 #[pw P.g,.int .i64 k] w fun e w'=>e=.returned (CD (qay H))/\∃ own',HI w' own' P (H.twice k)/\HZ QI w own w' own':=by
 obtain⟨v,a⟩:=h.hs;have r:v.L.length=H.net.l.length:=by rw[<- a.msgs];unfold AF;rw[We]
 have d:k<v.L.length:=by omega
 have f:v.L[k]? = Bs v.L[k]:=L1 d;have q:H.net.l[k]? = Bs (v.L[k]).m:=by rw[<- a.msgs];exact Jj f
 have p:H.twice k = { H with net:=AN H.net (v.L[k]).m }:=by unfold Hs.twice;rw[q]
 have c:Gn (v.L[k]).m:=o.net _ (S2 q);by_cases m:H.net.l.length=200
 ·refine(KD 0 P.g 0 100 _ _ v.Vn v.D v.L H.net.ao v.lost w k a.nt d (by omega)).mono ?_;rintro e w' ⟨rfl,rfl⟩;refine⟨by unfold qay;rw[if_pos m];rfl,own,?_,HZ.refl _ _ _⟩;have:AN H.net (v.L[k]).m=H.net:=by unfold AN Cg;rw[decide_eq_true m,Bool.or_true,if_pos rfl]
  rw[p,this];exact h
 ·have hl:=a.nt.len;refine(NS 0 P.g 0 100 _ _ v.Vn v.D v.L H.net.ao v.lost w k _ a.nt f (by omega) ⟨(Gz c).1,(Gz c).2,a.br _ (S2 f)⟩).mono ?_;rintro e w' ⟨V',L',lost',rfl,l,x,hs,y,u⟩;refine⟨by unfold qay;rw[if_neg m];rfl,?_⟩;rw[p];have z:H.net=⟨AF v.L,H.net.ao⟩:=by rw[a.msgs]
  exact Rg h a y l x u (by rw[z];exact hs) (QC o.net c)
def LQ (h:HI w own P H) (d:Wf H) (f:k<H.net.l.length):VY Tryz.prog 30 #[pw P.g,.int .i64 k] w (E9 P own w (qay H,H.twice k)):=by
 have p:=LH (Lq h d f);obtain⟨q,c⟩:=h.hs;have r:=c.cells.2.2.2.2;clear h f c d;unfold pw at *;go_enter Tryz.func30,Tryz.ntmps30;go_wp2_with fail;refine p.o.mono ?_;rintro e m ⟨rfl,a,hI,l⟩;have o:=LH (show E9 P own w (qay H,H.twice k) (.returned (CD (qay H))) m from⟨rfl,a,hI,l.mono (fun _=>UR)⟩);clear hI l;go_wp2_with fail;go_ret;exact o.o
end
def Eo (_:Hs) (s:Nat) (l:List Nat):List (Nat×Nat):=l.map fun j=>(s,j)
def q6i (H:Hs) (ss:List Nat):List (Nat×Nat):=ss.flatMap fun s=>((H.sh s).ah H.n).map fun j=>(s,j)
def JB (H:Hs) (id:Int) (q:Nat×Nat):Bool:=((H.sh q.1).nd q.2).id == id
def MW (H:Hs) (id:Int):H.node id=(q6i H [0,1,2]).find? (JB H id):=rfl
def G0 (H:Hs) {ss:List Nat} {q:Nat} (h:ss[q]? = Bs s):q6i H (ss.drop q)=Eo H s ((H.sh s).ah H.n)++q6i H (ss.drop (q+1)):=by
 obtain⟨a,e⟩:=List.getElem?_eq_some_iff.1 h;rw[Xy a,e];unfold q6i;rw[VM];rfl
def Jb (H:Hs) {l:List Nat} {rest:List (Nat×Nat)} {id:Int} (h:l[i]? = Bs j):(Eo H s (l.drop i)++rest).find? (JB H id)=if JB H id (s,j) then Bs (s,j) else(Eo H s (l.drop (i+1))++rest).find? (JB H id):=by
 obtain⟨a,e⟩:=List.getElem?_eq_some_iff.1 h;rw[Xy a,e];unfold Eo;rw[WH,List.cons_append,List.find?_cons];cases JB H id (s,j) <;> rfl
def Jd (P:Aq):Option (Nat×Nat)->Array O0|none=>#[.pointer B0,.pointer B0]|some (s,j)=>#[pw (P.gs s),pw (P.gn s j)]
def VD (P:Aq) (H:Hs) (id:Int) (w:D0) (e:WC) (w':D0):Prop:=e=.returned (.tuple (Jd P (H.node id)))/\VP w.heap.size w w'
def VE (H:Hs) (id:Int) (w:D0) (v:O0) (wr:D0):Prop:=∃ q:Nat,v=.int .i64 q/\q<=3/\H.node id=(q6i H ([0,1,2].drop q)).find? (JB H id)/\VP w.heap.size w wr
def NiRel (H:Hs) (id:Int) (s q:Nat) (l:List Nat) (a:D0) (v:O0) (wr:D0):Prop:=∃ i:Nat,v=.int .i64 i/\i<=l.length/\H.node id=(Eo H s (l.drop i)++q6i H ([0,1,2].drop (q+1))).find? (JB H id)/\wr=a
section
variable {w w':D0} {own own':Ah} {P:Aq} {H:Hs}
def q5h (h:HI w own P H) (a:Wf H) (hs:s<H.c):VY Tryz.prog 43 #[pw (P.gs s)] w (DD P H.n s (H.sh s) w):=
 Js h hs (by have:=a.n4;omega) (fun j c=>a.idOk hs c)
def UX {H:Hs} (h:j∈(H.sh s).ah H.n):j<H.n:=by unfold Bm.ah at h;exact List.mem_range.1 (List.mem_filter.1 h).1
def Jc (h:HI w own P H) (K:Wf H) (Y:H.c=3) (id:Int):VY Tryz.prog 49 #[pw P.g,.int .i64 id] w (VD P H id w):=by
 have HH:=LH h;have Z:=LH K;have a3:=K.n4;obtain⟨vh,y⟩:=h.hs;obtain⟨_,c3,_,_,gl⟩:=y.cells;obtain⟨M,k3,G,R,X⟩:=y.bZ (s:=0) (by omega);rw[G,Y] at c3;have a0:=LH (fun(s:Nat) (hs:s<3) W (hb:VP w.heap.size w W)=>(by
  obtain⟨r,k,e,S,Y⟩:=y.bZ (s:=s) (by omega);rw[G] at e;injection e with e _ _;injection e with e;injection e with e _ _;subst e;exact⟨(hb.cell (p:=⟨M,s,B0⟩) S).trans Y,VL S hb.size⟩:W.cell? ⟨M,s,B0⟩=Bs (pw (P.gs s))/\M<W.heap.size))
 clear h K y G X R;unfold pw at *;go_enter Tryz.func49,Tryz.ntmps49;go_wp2_with fail;clear c3;go_loopw [15] (VE H id w) (fun v _=>3-(intOf v).toNat)
 case atStart=>exact⟨0,rfl,VN _,MW H id,VK _ _⟩
 case round=>
  obtain⟨q,rfl,hq,f,m⟩:=hrel;by_cases a4:(q:Int)<3
  ·obtain⟨U,Q⟩:=a0.o q (by omega) wr m;have O:([0,1,2]:List Nat)[q]? = Bs q:=by
    have:q=0\/q=1\/q=2:=by omega
    rcases this with rfl|rfl|rfl <;> rfl
   rw[G0 H O] at f;have a1:=LH f;have HB:=LH m;have I:=LH (HH.o.below m);have HL:=LH (q5h I.o Z.o (s:=q) (by omega));have a5:=U3 (H.sh q) H.n;have HM:=LH (fun j (hj:j∈(H.sh q).ah H.n)=>UX hj);unfold DD pw at HL;clear f m;generalize (H.sh q).ah H.n=l at *;go_wp2_with fail;refine HL.o.mono ?_;rintro e w1 ⟨V,rfl,d,E⟩;obtain⟨A,c,rfl,_,_⟩:=AR d;have HR:=LH (Rd.ay d);have J:=LH (HB.o.trans (E.mono HB.o.size));have a2:=LH (I.o.below E);clear d E HL U Q HB I;go_wp2_with fail;go_loopw [22] (NiRel H id q q l w1) (fun v _=>l.length-(intOf v).toNat)
   case atStart=>exact⟨0,rfl,VN _,a1.o,rfl⟩
   case round=>
    obtain⟨i,rfl,hi,a,rfl⟩:=hrel;by_cases a6:(i:Int)<l.length
    ·have B:i<l.length:=by omega
     obtain⟨r,o,u,hA,S,N,a7⟩:=HR.o.ck (k:=i) B;have hx:l[i]? = Bs l[i]:=L1 B;rw[V8,hx] at N;simp only[WK,VR] at N;subst N hA;have T:=HM.o l[i] (Wv B);obtain⟨C,V,L,hN,_⟩:=a2.o.nd q l[i] (by omega) T;have HQ:=LH (LP hN);rw[Jb H hx] at a;have z:=LH a;clear a hN;generalize l[i]=j at *;rcases hp:(((H.sh q).nd j).id == id) with _|_
     ·have x:=LH (z.o.trans (if_neg (by show ¬(((H.sh q).nd j).id == id)=VJ;rw[hp];simp)));clear z;go_wp2_with fail;refine HQ.o.mono ?_;rintro e w2 ⟨rfl,rfl⟩;go_wp2_with fail;go_roundw
      case rel=>exact⟨i+1,rfl,by omega,x.o,rfl⟩
      case measure=>simp[intOf];omega
     ·have x:=LH (z.o.trans (if_pos (by show(((H.sh q).nd j).id == id)=VJ;exact hp)));clear z;go_wp2_with fail;refine HQ.o.mono ?_;rintro e w2 ⟨rfl,rfl⟩;go_wp2_with fail;go_ret2;exact⟨by rw[x.o];rfl,J.o⟩
    ·obtain rfl:i=l.length:=by omega
     rw[List.drop_length] at a;have HN:=LH (show VE H id w (.int .i64 ((q+1:Nat):Int)) wr from⟨q+1,rfl,by omega,a,J.o⟩);clear a;go_wp2_with fail;go_roundw
     ·exact HN.o
     ·simp[intOf];omega
  ·obtain rfl:q=3:=by omega
   have x:=LH (show H.node id=B0 from f);clear f;go_wp2_with fail;go_ret2;exact⟨by rw[x.o];rfl,m⟩
end
def Qu (d:Nd) (m:Ms) (h:d.log.length<=500):(d.step m).2.length<=100000:=by
 rw[qc8];split
 ·simp
 ·split
  ·simp
  ·split
   ·simp;omega
   ·split
    ·unfold Nd.grow Nd.tick;split
     ·split
      ·simp
      ·split
       ·split <;> simp
       ·simp
     ·simp
    ·split
     ·split <;> simp
     ·simp
def q8n {H:Hs} {id:Int} (h:H.node id=Bs (s,j)):s<3/\j<H.n/\(H.sh s).ao ((H.sh s).nd j).id=Jx/\((H.sh s).nd j).id=id:=by
 rw[MW] at h;have l:=Xx h;have p:=List.find?_some h;unfold q6i at l;obtain⟨a,o,m⟩:=List.mem_flatMap.1 l;obtain⟨b,c,e⟩:=List.mem_map.1 m;injection e with e1 e2;subst e1 e2;unfold Bm.ah at c;obtain⟨f,d⟩:=List.mem_filter.1 c;refine⟨?_,List.mem_range.1 f,by simpa using d,by simpa [JB] using p⟩;simp at o;omega
def Wf.aE {H:Hs} (h:Wf H) (k:Nat):Wf ({ H with net:=takeS H.net k } : Hs):=
 h.of rfl rfl rfl rfl h.nd h.tab h.sto (fun _ _=>rfl) (fun m a=>h.net m (XF a)) rfl h.tx (fun _=>rfl)
def Ig {H:Hs} (h:H.node m.a4=B0):H.arrive m=H:=by unfold Hs.arrive;rw[h]
def Ih {H:Hs} (h:H.node m.a4=Bs (s,j)):H.arrive m=((H.aq s j (((H.sh s).nd j).step m).1).send (((H.sh s).nd j).step m).2).take s:=by unfold Hs.arrive;rw[h]
def Wf.cK {H:Hs} (h:Wf H) (l:H.c=3) (hs:s<3) (c:j<H.n) (a:Gn m):Wf ((H.aq s j (((H.sh s).nd j).step m).1).send (((H.sh s).nd j).step m).2):=by
 have o:=h.n4;obtain⟨f,d⟩:=MF (h.nd s j (by omega) c) hs (by omega) a;exact(h.aq f).send d
def Wf.arrive {H:Hs} (h:Wf H) (c:H.c=3) {m:Ms} (a:Gn m):Wf (H.arrive m):=by
 rcases e:H.node m.a4 with _|⟨s,j⟩
 ·rw[Ig e];exact h
 ·rw[Ih e];obtain⟨f,d,_⟩:=q8n e;exact(h.cK c f d a).take (show s<H.c by omega)
def R7 (H:Hs) (m:Ms):(H.arrive m).c=H.c:=by
 rcases e:H.node m.a4 with _|⟨s,j⟩
 ·rw[Ig e]
 ·rw[Ih e,(Bz.take _ s).c];rfl
def SC (P:Aq) (own:Ah) (H:Hs) (k:Nat) (w:D0) (e:WC) (w':D0):Prop:=e=.returned .nilIface/\∃ H',Pu H k H'/\BZ P own H' w w'
def VG (W:D0) (b:Nat) (x:AS):Prop:=W.cell? ⟨b,0,B0⟩=Bs (.int .i64 x.m.ai)/\W.cell? ⟨b,1,B0⟩=Bs (.int .i64 x.m.from_)/\W.cell? ⟨b,2,B0⟩=Bs (.int .i64 x.m.a4)/\W.cell? ⟨b,3,B0⟩=Bs (.int .i64 x.m.aa)/\W.cell? ⟨b,4,B0⟩=Bs (.int .i64 x.m.n)/\W.cell? ⟨b,5,B0⟩=Bs (.int .i64 x.m.cmd.ai)/\W.cell? ⟨b,6,B0⟩=Bs (.int .i64 x.m.cmd.tx)/\W.cell? ⟨b,7,B0⟩=Bs (.int .i64 x.m.cmd.ag)/\W.cell? ⟨b,8,B0⟩=Bs (.slice x.A x.n x.k)/\b<W.heap.size
def Vb {b:Nat} {x:AS} (h:Ae W b 116 #[.int .i64 x.m.ai,.int .i64 x.m.from_,.int .i64 x.m.a4,.int .i64 x.m.aa,.int .i64 x.m.n,.int .i64 x.m.cmd.ai,.int .i64 x.m.cmd.tx,.int .i64 x.m.cmd.ag,.slice x.A x.n x.k]):VG W b x:=by
 have p:=h.cell 0;have q1:=h.cell 1;have o:=h.cell 2;have m:=h.cell 3;have l:=h.cell 4;have f:=h.cell 5;have d:=h.cell 6;have c:=h.cell 7;have a:=h.cell 8;simp only[Hi,Ft,N2] at p q1 o m l f d c a;exact⟨p,q1,o,m,l,f,d,c,a,h.lt⟩
section
variable {w w':D0} {own own':Ah} {P:Aq} {H:Hs}
def qae (h:HI w own P H) (wf:Wf H) (hc:H.c=3) (hk:k<H.net.l.length):VY Tryz.prog 28 #[pw P.g,.int .i64 k] w (SC P own H k w):=by
 have HT:=LH (OA h hk);obtain⟨vh,aa⟩:=h.hs;have gl:=aa.cells.2.2.2.2;have an:=LH wf;clear h aa hk wf;unfold pw at *;go_enter Tryz.func28,Tryz.ntmps28;go_wp2_with fail;refine HT.o.mono ?_;rintro e B ⟨x,hx,rfl,J,ai,I,aw,av⟩;have a9:Gn x.m:=an.o.net _ (S2 hx);have a:=an.o.aE k;obtain⟨O,K⟩:∃ O:Hs,O = { H with net:=takeS H.net k }:=⟨_,rfl⟩
 rw[<- K] at J a;have m:O.c=3:=by rw[K];exact hc
 have au:=LH (show ∀ H',DL (O.arrive x.m) H'->Pu H k H' from fun H' r=>.some hx (by rw[<- K];exact r));have G:=(VK B.heap.size B).alloc (K0 _) (.cells #[.int .i64 x.m.ai,.int .i64 x.m.from_,.int .i64 x.m.a4,.int .i64 x.m.aa,.int .i64 x.m.n,.int .i64 x.m.cmd.ai,.int .i64 x.m.cmd.tx,.int .i64 x.m.cmd.ag,.slice x.A x.n x.k] 116);have af:=Ae.new B 116 #[.int .i64 x.m.ai,.int .i64 x.m.from_,.int .i64 x.m.a4,.int .i64 x.m.aa,.int .i64 x.m.n,.int .i64 x.m.cmd.ai,.int .i64 x.m.cmd.tx,.int .i64 x.m.cmd.ag,.slice x.A x.n x.k];have a5:=LH (J.below G);have am:=LH ((ai.mono (fun _=>UR)).trans (HZ.below own G):Ay w own _ own);have a3:=LH (Jc a5.o a m x.m.a4);have a6:=LH af;have N:=LH (show DR _ 0 x from⟨(DG G).own I.1 (fun b hb (hs:B.heap.size<=b)=>by have:=(I.1.lt b hb).2;omega),I.2⟩);have ao:=LH (show own B.heap.size=B0 from by
  rcases e:own B.heap.size with _|t
  ·rfl
  ·exact absurd (J.lt B.heap.size (by rw[e];simp)) (Nat.lt_irrefl _))
 have Z:=LH a9;have c:=LH a;unfold pw at a3;unfold TS De;clear hx J ai I a9 a K G af HT av;go_wp2_with fail;refine a3.o.mono ?_;rintro e w2 ⟨rfl,p⟩;have a4:=LH (a5.o.below p);have al:=LH (am.o.trans (HZ.below own p));have U:=LH ((DG p).ak a6.o (fun hs=>by have:=a6.o.lt;omega));have ap:=LH ((DG p).own N.o.1 (fun b hb hs=>by have:=(N.o.1.lt b hb).2;omega));have aD:=LH N.o.2;clear p a3 a5 am a6 N;rcases l:O.node x.m.a4 with _|⟨s,j⟩
 ·have z:=LH (q4d a4.o c.o m);have ar:=LH (show ∀ H',DL O H'->Pu H k H' from fun H' r=>au.o H' (by rw[Ig l];exact r));unfold pw at z;unfold Jd;clear l;go_wp2_with fail;refine z.o.mono ?_;rintro e w3 ⟨rfl,H',hr,Q,y,u⟩;have HF:=LH (show SC P own H k w (.returned .nilIface) w3 from⟨rfl,H',ar.o H' hr,Q,y,al.o.trans u⟩);clear hr y u;go_wp2_with fail;go_ret;exact HF.o
 ·obtain⟨ad,E,_,_⟩:=q8n l;have aE:=LH (Ih l);have aB:=LH (c.o.cK m ad E Z.o);have T:=LH (MF (c.o.nd s j (by omega) E) ad (show j<4 by have:=c.o.n4;omega) Z.o);have S:((O.sh s).nd j).log.length<=500:=by
   obtain⟨C,V,L,hN,_⟩:=a4.o.nd s j (by omega) E;rw[<- hN.log];unfold AM;rw[We];exact hN.len
  have aq:=LH (Qu _ x.m S);have ac:s<O.c:=by omega
  have aC:=LH (show FE w2.drew w2.drew.heap.size x.A x.n x.m.cmd.ad from⟨aD.o,(Rd.ay ap.o).below (VK _ _).drew⟩);have a8:x.A=B0->x.k=0:=I8 ap.o;have a1:=LH (OY (a4.o.below (VK w2.heap.size w2).drew) ac E x.m x.A x.n x.k aC.o a8 aw);have f:=Vb (show Ae w2.drew _ _ _ from U.o);unfold pw at a1;unfold Jd pw;clear l S a8;go_upto_region 6 with (fail)
  refine nW ?_;refine CF (fun W=>VG W B.heap.size x) 6 (fun _ _ _ _ _ h=>h) (fun d=>?_);refine nD 0 [1,2,6] d f ?_;refine nD 1 [2,6] d f ?_;refine nD 2 [6] d f ?_;refine nD 3 [5,6] d f ?_;refine nA 4 [5,6] rfl rfl d f (fun w' ax=>by obtain⟨p0,p1,p2,p3,p4,p5,p6,p7,p8,pl⟩:=ax;go_simp;rfl) ?_;clear f;refine nG 5 (fun KK hK=>?_);go_simp;refine a1.o.mono ?_;rintro e w3 ⟨V,rfl,ho,aG,ak,X,R⟩;have o:=X.fr.ak (show Ae w2.drew B.heap.size _ _ from U.o) (fun hs=>hs.owned ao.o);have ae:=Vb o;have ab:=q7a ak ho (fun q hq=>by rcases R q hq with e|e <;> (rw[e];simp)) T.o.2 (c.o.aq T.o.1) aq.o;have a2:=LH ab;have aA:=LH (al.o.trans ((HZ.below own (VK w2.heap.size w2).drew).trans (X.mono (fun _=>MO))));obtain⟨A,kk,M,rfl,_⟩:=ho;unfold pw at a2;clear ab R ak X o a1;go_simp;refine hK _ _ (fun _=>ae) ?_;clear hK KK ae;refine nG 6 (fun KK hK=>?_);go_simp;refine a2.o.mono ?_;rintro e w4 ⟨d4,Q,rfl,y,u⟩;go_simp;refine hK _ _ nZ ?_;clear hK KK;refine nX ?_;clear d;have a0:=LH (qa5 y aB.o (show s<_ from ac));have az:=LH (aA.o.trans (u.mono (fun _=>UR)));unfold pw at a0;clear y u a2;go_wp2_with fail;refine a0.o.mono ?_;rintro e w5 ⟨rfl,aF,Y,ah⟩;rw[<- aE.o] at Y;have z:=LH (q4d Y (c.o.arrive m Z.o) ((R7 O x.m).trans m));have ay:=LH (az.o.trans (ah.mono (fun _=>Qz)));unfold pw at z;clear Y ah a0;go_wp2_with fail;refine z.o.mono ?_;rintro e w6 ⟨rfl,H',hr,a7,aj,ag⟩;have HF:=LH (show SC P own H k w (.returned .nilIface) w6 from⟨rfl,H',au.o H' hr,a7,aj,ay.o.trans ag⟩);clear hr aj ag;go_wp2_with fail;go_ret;exact HF.o
end
end Go.Proofs.YtccahlhdifadfaaGreatDoor
