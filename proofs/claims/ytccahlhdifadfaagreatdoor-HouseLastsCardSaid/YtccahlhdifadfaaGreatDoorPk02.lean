import Derived.Test.YtccahlhdifadfaaGreatDoorPk01
namespace Go.Proofs.YtccahlhdifadfaaGreatDoor
noncomputable section
open Go.RowKit
open _root_.Go.Obj renaming cells->eT
open _root_.Or renaming inl->eR,inr->eS
open _root_.Go.IntKind renaming i64->eQ
open _root_.Go.Ending renaming returned->ZY
open _root_.And renaming intro->Wo
open _root_.Bool renaming false->L1,true->VD,and_eq_true->Wl,not_eq_true'->XQ,eq_iff_iff->XW,or_eq_true->X7,false_eq_true->Yd,or_eq_false_iff->Yy,false_or->YR,eq_false_iff->Zw
open _root_.Classical renaming not_not->X6
open _root_.Go renaming World->D0,Value->S2,Calls->VX,Ending->WE
open _root_.Go.Addr.mk renaming injEq->Xe
open _root_.Go.IntWalk renaming wrap64_in->Xk
open _root_.Go.RowKit renaming Below->VI,wrap64->Xt
open _root_.Go.RowKit.Below renaming refl->VC
open _root_.Go.Value renaming int->Wm,oneCell'->Wx,slice->WK,nilIface->ZS,string->ZV,pointer->ZW,bool->ZX,tuple->ZZ
open _root_.Go.World renaming ownsRow_nil->VW,block_lt_of_cell?->V5
open _root_.Iff renaming rfl->Yw
open _root_.Int renaming le_refl->WH
open _root_.List renaming getElem?_cons_zero->Ft,getElem?_eq_getElem->K0,getElem?_toArray->NW,mem_of_getElem?->N2,getElem?_cons_succ->O0,mem_cons_self->VB,mem_cons_of_mem->VE,length_append->VJ,prefix_refl->VO,findIdx?_eq_some_iff_getElem->VP,getElem?_map->VQ,take_of_length_le->VS,mem_singleton->VU,take_add_one->VV,getElem?_append_left->VZ,length_map->V0,getElem?_append_right->Wg,range'->Wh,length_cons->Wi,findIdx?_eq_none_iff->Wp,take_append_of_le_length->Wv,getElem_mem->Wy,length_filter_le->WC,mem_of_mem_take->WG,map_cons->WJ,map_append->WQ,take_length->WU,foldl_append->WV,mem_of_find?_eq_some->WY,pairwise_map->Xb,drop_eq_getElem_cons->XG,filter_sublist->XI,mem_range'_1->XJ,filter_congr->XK,mem_of_mem_eraseIdx->XR,take_zero->X3,not_mem_nil->X9,mem_cons->Ye,eraseIdx_eq_take_drop_succ->YD,nodup_cons->YN,mem_filter->YO,filter_cons_of_pos->Zk,filter_cons_of_neg->Zl,getElem?_eq_some_iff->ZC,mem_append->ZD,mem_map->ZE,mem_range->ZH,mem_iff_getElem?->ZI,pairwise_iff_getElem->ZO
open _root_.List.Pairwise renaming filter->Yg,nil->Yv
open _root_.List.Sublist renaming refl->XN
open _root_.Nat renaming le_refl->Hi,lt_of_lt_of_le->VF,zero_le->VG,le_trans->VK,zero_add->Wk,lt_or_ge->Xd,le_of_lt->Yt
open _root_.Option renaming some->Bs,none->B0,map_some->WA,ne_none_iff_exists'->ZJ,isSome_iff_exists->ZQ
open _root_.Option.some renaming injEq->VN
variable {b β:Bool}{c:Cm}{a tx:Int}{h:Int->Option Int}{v v':LY}{L':List AW}{l l':List Cm}{ms:List Ms}{ks:List Nat}{ps:List Pr}{m x:Ms}{i j n q s:Nat}{d:Nd}{p:Pr}{t:Tg}{C V V' g:S2}
set_option linter.all false
set_option maxRecDepth 100000
set_option maxHeartbeats 16000000
def CJ(H:Hs)(s:Nat)(x:Bv):(H.ax s x).sh s=x:=Aq _ _ _
def q71(H:Hs)(s:Nat)(x y:Bv):(H.ax s x).ax s y=H.ax s y:=by unfold Hs.ax;rw[Vm]
def q8f(H:Hs)(s:Nat):H.ax s (H.sh s)=H:=by unfold Hs.ax;rw[qd3]
structure BQ(H:Hs)(s:Nat):Prop where
 m:H.m<=60
 wn:∀i,1<=i->i<=H.m->(H.tx i).ak.length<=1000
 tab:Dy (H.sh s).tab
 sto:Dz (H.sh s).sto
def BQ.cY{H:Hs}(h:BQ H s){T:Tb}(a:Dy T):BQ (H.ax s {H.sh s with tab:=T}) s:=⟨h.m,h.wn,by rw[CJ];exact a,by rw[CJ];exact h.sto⟩
def BQ.dJ{H:Hs}(h:BQ H s){K:Kp}(a:Dz K):BQ (H.ax s {H.sh s with sto:=K}) s:=⟨h.m,h.wn,by rw[CJ];exact h.tab,by rw[CJ];exact a⟩
def BQ.cU{H:Hs}(h:BQ H s)(d:Nat):BQ (H.ax s {H.sh s with done:=d}) s:=⟨h.m,h.wn,by rw[CJ];exact h.tab,by rw[CJ];exact h.sto⟩
def BQ.b6{H:Hs}{s:Nat}(h:BQ H s)(T:Tb)(tx:Int):BQ (H.b6 T tx) s:=⟨h.m,λi c a=>VK (WC _ _) (h.wn i c a),h.tab,h.sto⟩
def BQ.bF{H:Hs}{s:Nat}(h:BQ H s)(tx:Int):BQ (H.bF s tx) s:=(h.cY (h.tab.bF tx)).b6 _ _
def MP(T:Tb)(tx:Int)(h:ps[j]? = Bs p):CU T tx (ps.take (j+1))=Ap (CU T tx (ps.take j)) tx (sx p.key) 2:=by unfold CU;rw[VV,h,WV];rfl
def MK(K:Kp)(t:Int)(h:ps[j]? = Bs p):Dd K t (ps.take (j+1))=(CT (Dd K t (ps.take j)) 0 ⟨sx p.key,sx p.val,p.aR,t⟩).2:=by unfold Dd;rw[VV,h,WV];rfl
def NG(K:Kp)(c:Cm){a:Cm}(h:l[j]? = Bs a):Br K (l.take (j+1)) c=if a.aj=2/\a.tx=c.tx then Dd (Br K (l.take j) c) c.ah a.ae else Br K (l.take j) c:=by unfold Br;rw[VV,h,WV];rfl
def Hs.bG(H:Hs)(s:Nat)(l:List Cm)(i:Nat)(c:Cm):Hs:=(H.bb s l i c).ax s { (H.bb s l i c).sh s with done:=i+1}
def q6f{H:Hs}{k:Nat}(a:(H.sh s).done=i)(d:l[i]? = Bs c):Hs.bu s l (k+1) H=Hs.bu s l k (H.bG s l i c):=by show(match l[(H.sh s).done]? with|none=>H|some c=>Hs.bu s l k ((H.bb s l (H.sh s).done c).ax s { (H.bb s l (H.sh s).done c).sh s with done:=(H.sh s).done+1}))=_;rw[a,d];rfl
def BQ.bb{H:Hs}{s i:Nat}{l:List Cm}{c:Cm}(h:BQ H s)(d:Eo c)(hl:∀a∈l,Eo a):BQ (H.bb s l i c) s:=by unfold Hs.bb;split;exact h.cY (Dy.prep d.tx _ h.tab d.ps);split;exact(h.dJ (Dz.comm d _ h.sto (λa f=>hl a (WG f)))).bF _;split;exact h.bF _;exact h
def BQ.bG{H:Hs}{s i:Nat}{l:List Cm}{c:Cm}(h:BQ H s)(d:Eo c)(hl:∀a∈l,Eo a):BQ (H.bG s l i c) s:=(h.bb d hl).cU _
structure BK(H H':Hs)(s:Nat):Prop where
 n:H'.n=H.n
 c:H'.c=H.c
 m:H'.m=H.m
 net:H'.net=H.net
 ah:H'.ah=H.ah
 sh:∀k,k≠s->H'.sh k=H.sh k
 nd:(H'.sh s).nd=(H.sh s).nd
 aq:(H'.sh s).aq=(H.sh s).aq
 ad:(H'.sh s).ad=(H.sh s).ad
 size:(H'.sh s).size=(H.sh s).size
 tx:∀i,(H'.tx i).aa=(H.tx i).aa/\(H'.tx i).ae=(H.tx i).ae/\(H'.tx i).af=(H.tx i).af/\(H'.tx i).aw=(H.tx i).aw/\(H'.tx i).ah=(H.tx i).ah
 ak:∀i,∀a∈(H'.tx i).ak,a∈(H.tx i).ak
def BK.refl(H:Hs)(s:Nat):BK H H s:=⟨rfl,rfl,rfl,rfl,rfl,λ_ _=>rfl,rfl,rfl,rfl,rfl,λ_=>⟨rfl,rfl,rfl,rfl,rfl⟩,λ_ _ h=>h⟩
def BK.trans{A B C:Hs}{s:Nat}(h:BK A B s)(k:BK B C s):BK A C s:=
 ⟨k.n.trans h.n,k.c.trans h.c,k.m.trans h.m,k.net.trans h.net,k.ah.trans h.ah,λi c=>(k.sh i c).trans (h.sh i c),k.nd.trans h.nd,k.aq.trans h.aq,k.ad.trans h.ad,k.size.trans h.size,
  λi=>⟨(k.tx i).1.trans (h.tx i).1,(k.tx i).2.1.trans (h.tx i).2.1,(k.tx i).2.2.1.trans (h.tx i).2.2.1,(k.tx i).2.2.2.1.trans (h.tx i).2.2.2.1,(k.tx i).2.2.2.2.trans (h.tx i).2.2.2.2⟩,λi a d=>h.ak i a (k.ak i a d)⟩
def BK.ax{H:Hs}{s:Nat}{x:Bv}(g:x.nd=(H.sh s).nd)(f:x.aq=(H.sh s).aq)(d:x.ad=(H.sh s).ad)(c:x.size=(H.sh s).size):BK H (H.ax s x) s:=
 ⟨rfl,rfl,rfl,rfl,rfl,λ_ a=>Ay a _,by rw[CJ];exact g,by rw[CJ];exact f,by rw[CJ];exact d,by rw[CJ];exact c,λ_=>⟨rfl,rfl,rfl,rfl,rfl⟩,λ_ _ h=>h⟩
def BK.b6(H:Hs)(s:Nat)(T:Tb)(tx:Int):BK H (H.b6 T tx) s:=
 ⟨rfl,rfl,rfl,rfl,rfl,λ_ _=>rfl,rfl,rfl,rfl,rfl,λ_=>⟨rfl,rfl,rfl,rfl,rfl⟩,λ_ _ h=>(YO.1 h).1⟩
def BK.bF(H:Hs)(s:Nat)(tx:Int):BK H (H.bF s tx) s:=(BK.ax (x:={H.sh s with tab:=Bp (H.sh s).tab tx}) rfl rfl rfl rfl).trans (BK.b6 _ _ _ _)
def J3(H:Hs)(s:Nat)(tx:Int):((H.bF s tx).sh s).done=(H.sh s).done:=by show((H.ax s _).sh s).done=_;rw[CJ]
def BK.bb(H:Hs)(s i:Nat)(l:List Cm)(c:Cm):BK H (H.bb s l i c) s:=by unfold Hs.bb;split;exact BK.ax rfl rfl rfl rfl;split;exact(BK.ax (x:={H.sh s with sto:=Br (H.sh s).sto (l.take i) c}) rfl rfl rfl rfl).trans (BK.bF _ _ _);split;exact BK.bF _ _ _;exact BK.refl _ _
def BK.bG(H:Hs)(s i:Nat)(l:List Cm)(c:Cm):BK H (H.bG s l i c) s:=(BK.bb H s i l c).trans (BK.ax (x:={ (H.bb s l i c).sh s with done:=i+1}) rfl rfl rfl rfl)
def BK.bu{s:Nat}{l:List Cm} : ∀(k:Nat)(H:Hs),BK H (Hs.bu s l k H) s
 |0,H=>BK.refl _ _
 |k+1,H=>by
  unfold Hs.bu;split;exact BK.refl _ _;exact(BK.bG H s _ l _).trans (BK.bu k _)
def BK.take(H:Hs)(s:Nat):BK H (H.take s) s:=by unfold Hs.take;split;exact BK.refl _ _;exact BK.bu _ _
def BQ.bu{s:Nat}{l:List Cm}(hl:∀a∈l,Eo a):∀(k:Nat)(H:Hs),BQ H s->BQ (Hs.bu s l k H) s
 |0,H,h=>h
 |k+1,H,h=>by
  unfold Hs.bu;split;exact h;rename_i c d;exact BQ.bu hl k _ ((h.bb (hl c (N2 d)) hl).cU _)
structure He(m:Ms):Prop where
 fr:0<=m.ar/\m.ar<=60
 tw:0<=m.a8/\m.a8<=60
 aY:m.aj=3->Eo m.aY
 cd:m.aY.ae.length<=20
structure FD(t:Bu):Prop where
 cd:t.ae.length<=20
 ps:∀p∈t.ae,Uk p
 sh:∀k e,t.af k=Bs e->(k=0\/k=1)/\True
 pl:∀k e,t.aw k=Bs e->k=0\/k=1
 wn:∀a∈t.ak,a.1∈names
 wnd:(t.ak.map (·.1)).Nodup
structure Ct(s j:Nat)(d:Nd):Prop where
 id:d.id=10*s+j
 aI:∀x∈d.aI,0<=x/\x<=60
 a4:∀a∈d.a4,Eo a
def EE(H:Hs):Nat:=((Wh 1 H.m).filter λi=>decide ((H.tx i).ah≠0)).length
structure Wf(H:Hs):Prop where
 n4:H.n<=4
 c3:H.c<=3
 cr:H.m<=60
 nd:∀s j,s<H.c->j<H.n->Ct s j ((H.sh s).nd j)
 tab:∀s,s<H.c->Dy (H.sh s).tab
 sto:∀s,s<H.c->Dz (H.sh s).sto
 aq:∀s,s<H.c->∀i,(H.sh s).aq i=VD->0<=i/\i<=60
 net:∀m∈H.net.l,He m
 down:∀i,H.net.aq i=VD->0<=i/\i<=60
 tx:∀i,1<=i->i<=H.m->FD (H.tx i)
 tm:H.ah=EE H
 dY:∀i,1<=i->i<=H.m->0<=(H.tx i).ah/\(H.tx i).ah<=H.ah
def tcnt_le(H:Hs):EE H<=H.m:=by unfold EE;exact VK (WC _ _) Z3
def FD.cC{t:Bu}(h:FD t):t.ak.length<=4:=by
 have c:(t.ak.map (·.1)).length<=names.length:=List.Nodup.length_le_of_subset h.wnd (λx d=>by
  obtain⟨a,f,rfl⟩:=ZE.1 d;exact h.wn a f)
 rw[V0]at c;exact c
variable {H H':Hs}
def Wf.bU(h:Wf H):0<=H.ah/\H.ah<=60:=by have:=h.tm;have:=tcnt_le H;have:=h.cr;omega
def Wf.idOk(h:Wf H)(hs:s<H.c)(a:j<H.n):FB ((H.sh s).nd j).id:=by have:=(h.nd s j hs a).id;have:=h.c3;have:=h.n4;exact Gu Z0 Z0
def Wf.ej(h:Wf H)(hs:s<H.c):BQ H s:=⟨h.cr,λi c a=>Z4 ((h.tx i c a).cC),h.tab s hs,h.sto s hs⟩
def FD.sub{t t':Bu}(h:FD t)(d:t'.ae=t.ae)(l:t'.af=t.af)(g:t'.aw=t.aw)(c:t'.ak.Sublist t.ak):FD t':=
 ⟨by rw[d];exact h.cd,by rw[d];exact h.ps,by rw[l];exact h.sh,by rw[g];exact h.pl,λa f=>h.wn a (c.subset f),h.wnd.sublist (c.map _)⟩
def PF(c:H'.m=H.m)(a:∀i,(H'.tx i).ah=(H.tx i).ah):EE H'=EE H:=by unfold EE;rw[c];congr 1;apply XK;intro i _;rw[a]
def Wf.of(h:Wf H)(u:H'.n=H.n)(n:H'.c=H.c)(o:H'.m=H.m)(t:H'.ah=H.ah)(q:∀s j,s<H.c->j<H.n->Ct s j ((H'.sh s).nd j))(f:∀s,s<H.c->Dy (H'.sh s).tab)(g:∀s,s<H.c->Dz (H'.sh s).sto)
  (c:∀s,s<H.c->(H'.sh s).aq=(H.sh s).aq) (l:∀m∈H'.net.l,He m) (a:H'.net.aq=H.net.aq) (p:∀i,1<=i->i<=H.m->FD (H'.tx i)) (d:∀i,(H'.tx i).ah=(H.tx i).ah):Wf H':=
 ⟨by rw[u];exact h.n4,by rw[n];exact h.c3,by rw[o];exact h.cr,by rw[n,u];exact q,by rw[n];exact f,by rw[n];exact g,by rw[n];exact λs hs i r=>h.aq s hs i (by rw[<- c s hs];exact r),l,
  λi r=>h.down i (by rw[<- a];exact r),by rw[o];exact p,by rw[t,PF o d];exact h.tm,by rw[o,t];exact λi x v=>by rw[d];exact h.dY i x v⟩
def FT{s:Nat}{l:List Cm} : ∀(k:Nat)(H:Hs)(i:Nat),((Hs.bu s l k H).tx i).ak.Sublist (H.tx i).ak
 |0,H,i=>XN _
 |k+1,H,i=>by
  unfold Hs.bu;split;exact XN _;rename_i c a;refine(FT k _ i).trans ?_;show(((H.bb s l (H.sh s).done c)).tx i).ak.Sublist _;unfold Hs.bb;split;exact XN _;split;exact XI;split;exact XI;exact XN _
def Ml(H:Hs)(s i:Nat):((H.take s).tx i).ak.Sublist (H.tx i).ak:=by unfold Hs.take;split;exact XN _;exact FT _ _ _
def Wf.take(h:Wf H){s:Nat}(hs:s<H.c):Wf (H.take s):=by
 have c:=BK.take H s;have f:BQ (H.take s) s:=by
  unfold Hs.take;split;exact h.ej hs;rename_i j g;refine BQ.bu (λa m=>?_) _ _ (h.ej hs);have l:j<H.n:=by
   have:=WY g;unfold Bv.ai at this;exact ZH.1 (YO.1 this).1
  exact(h.nd s j hs l).a4 a m
 refine h.of c.n c.c c.m c.ah (λk j d g=>?_) (λk d=>?_) (λk d=>?_) (λk d=>?_) (by rw[c.net];exact h.net) (by rw[c.net]) (λi o n=>(h.tx i o n).sub (c.tx i).2.1 (c.tx i).2.2.1 (c.tx i).2.2.2.1 (Ml H s i)) (λi=>(c.tx i).2.2.2.2);by_cases e:k=s;rw[e,c.nd];exact h.nd s j hs g;rw[c.sh k e];exact h.nd k j d g;by_cases e:k=s;rw[e];exact f.tab;rw[c.sh k e];exact h.tab k d;by_cases e:k=s;rw[e];exact f.sto;rw[c.sh k e];exact h.sto k d;by_cases e:k=s;rw[e,c.aq];rw[c.sh k e]
def qcb:∀(ms:List Ms)(s:Be)(m:Ms),m∈(EW s ms).l->m∈s.l\/m∈ms
 |[],s,m,h=>eR h
 |x::ms,s,m,h=>by
  obtain h|h:=qcb ms (AR s x) m h;unfold AR at h;split at h;exact eR h;obtain h|h:=ZD.1 h;exact eR h;rw[VU]at h;subst h;exact eS (VB ..);exact eS (VE _ h)
def Wf.aO(h:Wf H){ms:List Ms}(c:∀m∈ms,He m):Wf (H.aO ms):=
 h.of rfl rfl rfl rfl h.nd h.tab h.sto (λ_ _=>rfl) (λm a=>(qcb ms H.net m a).elim (h.net m) (c m)) (q38 ms H.net) h.tx (λ_=>rfl)
def Wf.au(h:Wf H){s j:Nat}{d:Nd}(g:Ct s j d):Wf (H.au s j d):=by refine h.of rfl rfl rfl rfl (λk i a c=>?_) (λk a=>?_) (λk a=>?_) (λk a=>?_) h.net rfl h.tx (λ_=>rfl);show Ct k i ((Af H.sh s {H.sh s with nd:=Af (H.sh s).nd j d} k).nd i);by_cases e:k=s;subst e;rw[Aq];show Ct k i (Af (H.sh k).nd j d i);by_cases f:i=j;subst f;rw[Aq];exact g;rw[Ay f];exact h.nd k i a c;rw[Ay e];exact h.nd k i a c;show Dy (Af H.sh s {H.sh s with nd:=Af (H.sh s).nd j d} k).tab;by_cases e:k=s;subst e;rw[Aq];exact h.tab k a;rw[Ay e];exact h.tab k a;show Dz (Af H.sh s {H.sh s with nd:=Af (H.sh s).nd j d} k).sto;by_cases e:k=s;subst e;rw[Aq];exact h.sto k a;rw[Ay e];exact h.sto k a;show(Af H.sh s {H.sh s with nd:=Af (H.sh s).nd j d} k).aq=_;by_cases e:k=s;subst e;rw[Aq];rw[Ay e]
def wf_to(h:Ct s j d)(b:Int):0<=d.a8 b/\d.a8 b<=60:=by
 unfold Nd.a8;cases e:d.aI[(d.aN+b).toNat]? with
 |none=>simp
 |some x=>exact h.aI x (N2 e)
def Ct.ed(h:Ct s j d)(hs:s<3)(a:j<4):0<=d.id/\d.id<=60:=Z4 h.id
def Hw(h:Ct s j d)(hs:s<3)(c:j<4)(kind b k:Int)(a:kind≠3):He (d.b9 kind b k):=⟨h.ed hs c,wf_to h b,λe=>ZB e a,by show cm0.ae.length<=20;decide⟩
def qbu(h:Ct s j d)(hs:s<3)(f:j<4){k:Nat}(a:k<d.a4.length):He (d.a6 k):=by
 have c:Eo ((d.a4[k]?).getD cm0):=by rw[K0 a];exact h.a4 _ (Wy a)
 exact⟨h.ed hs f,wf_to h 1,λ_=>c,c.cd⟩
def q9v(h:Ct s j d)(hs:s<3)(c:j<4):Ct s j d.aD.1/\∀m∈d.aD.2,He m:=by unfold Nd.aD;split;exact⟨h,λm a=>by cases a⟩;split;refine⟨⟨h.id,h.aI,h.a4⟩,λm a=>?_⟩;split at a;rw[VU.1 a];exact Hw h hs c _ _ _ Z2;cases a;exact⟨h,λm a=>by rw[VU.1 a];exact Hw h hs c _ _ _ Z2⟩
def Hu(h:Ct s j d)(f:Eo c):Ct s j (d.push c):=⟨h.id,h.aI,λa g=>(ZD.1 g).elim (h.a4 a) (λh=>by rw[VU.1 h];exact f)⟩
def Od(h:Ct s j d)(hs:s<3)(f:j<4)(a:Eo c):Ct s j (d.aP c).1/\∀m∈(d.aP c).2,He m:=by unfold Nd.aP;split;exact q9v (Hu h a) hs f;exact⟨Hu h a,λm g=>by rw[VU.1 g];exact qbu (Hu h a) hs f (by show _<(d.a4++[c]).length;simp)⟩
def RS(h:Ct s j d)(hs:s<3)(f:j<4)(g:Eo c)(b:Bool):Ct s j (d.add c b).1.1/\∀m∈(d.add c b).1.2,He m:=by unfold Nd.add;split;exact⟨h,λm a=>by cases a⟩;split;exact⟨h,λm a=>by cases a⟩;exact Od h hs f g
def Ob(h:Ct s j d)(hs:s<3)(c:j<4)(f:He m):Ct s j (d.step m).1/\∀x∈(d.step m).2,He x:=by rw[qdc];split;exact⟨h,λx a=>by cases a⟩;split;exact⟨h,λx a=>by rw[VU.1 a];exact Hw h hs c _ _ _ Z2⟩;split;refine⟨h,λx a=>?_⟩;obtain⟨k,g,rfl⟩:=ZE.1 a;rw[XJ]at g;exact qbu h hs c Z0;split;rename_i l;exact Od h hs c (f.aY l.1);split;refine⟨⟨h.id,h.aI,h.a4⟩,λx a=>?_⟩;split at a;rw[VU.1 a];exact Hw h hs c _ _ _ Z2;cases a;exact⟨h,λx a=>by cases a⟩
def Oc(h:Ct s j d)(e:Int){c:List Int}(f:∀x∈c,0<=x/\x<=60):Ct s j (d.bS e c):=by unfold Nd.bS;split;exact⟨h.id,f,λa g=>by cases g⟩;exact⟨h.id,f,h.a4⟩
def My(H:Hs)(s j:Nat):H.au s j ((H.sh s).nd j)=H:=by unfold Hs.au Hs.ax;rw[qd3];show({H with sh:=Af H.sh s (H.sh s)} : Hs)=H;rw[qd3]
def Wf.add(h:Wf H){s j:Nat}(hs:s<H.c)(a:j<H.n){c:Cm}(d:Eo c)(b:Bool):Wf (H.add s j c b).2:=by
 have g:s<3:=Z4 h.c3;have f:j<4:=Z4 h.n4;unfold Hs.add;split;exact h;obtain⟨m,l⟩:=RS (h.nd s j hs a) g f d b;exact((h.au m).aO l).take hs
def Db(s:Nat)(t:Tg):Prop:=Dr s t\/R9 t
def Mn(H:Hs)(s i:Nat)(l:List Cm)(c:Cm):((H.bb s l i c).sh s).done=(H.sh s).done:=by unfold Hs.bb;split;rw[CJ];split;rw[J3,CJ];split;rw[J3];rfl
def cund:Tryz.prog.underlying 66=Bs (.slice 69):=Tryz.underlying66
def celem:Tryz.prog.elem 66=69:=by kernel_rfl
def csize(w:D0):(sizeOf 69).run Tryz.prog w=.ok 4 w:=by kernel_rfl
def Hf(P:Av)(own:Ah)(s:Nat)(c:Hs)(a:D0)(wr:D0):Prop:=∃own',HI wr own' P c/\HZ (Db s) a own wr own'
def TkRel(P:Av)(own:Ah)(H:Hs)(s:Nat)(l:List Cm)(c:D0)(wr:D0):Prop:=
 ∃(i:Nat)(a:Hs),Hf P own s a c wr/\BQ a s/\BK H a s/\(a.sh s).done=i/\Hs.bu s l (l.length-(H.sh s).done) H=Hs.bu s l (l.length-i) a
def O8(P:Av)(own:Ah)(H:Hs)(s:Nat)(w:D0)(e:WE)(w':D0):Prop:=e=ZY (ZZ #[])/\∃own',HI w' own' P (H.take s)/\HZ (Db s) w own w' own'
def Ut(P:Av)(s:Nat)(c:Hs)(x:BI)(d:D0)(a:Ah)(v:S2)(wr:D0):Prop:=
 ∃(p:Nat)(own':Ah),v=Wm eQ p/\p<=x.n/\HI wr own' P (c.ax s {c.sh s with tab:=CU (c.sh s).tab x.c.tx (x.c.ae.take p)})/\HZ (Db s) d a wr own'
def LO(P:Av)(s:Nat)(c:Hs)(x:BI)(l:List Cm)(i:Nat)(d:D0)(a:Ah)(v:S2)(wr:D0):Prop:=
 ∃(q:Nat)(own':Ah),v=Wm eQ q/\q<=i/\HI wr own' P (c.ax s {c.sh s with sto:=Br (c.sh s).sto (l.take q) x.c})/\HZ (Db s) d a wr own'
def Us(P:Av)(s:Nat)(c:Hs)(f:Kp)(x y:BI)(d:D0)(a:Ah)(v:S2)(wr:D0):Prop:=
 ∃(p:Nat)(own':Ah),v=Wm eQ p/\p<=y.n/\HI wr own' P (c.ax s {c.sh s with sto:=Dd f x.c.ah (y.c.ae.take p)})/\HZ (Db s) d a wr own'
variable {w w':D0}{own own':Ah}{P:Av}
def HZ.c5{Z:Tg->Prop}{g:Nat}{t:TypeId}{a:Array S2}(c:HZ Z w own w' own')(f:Ae w g t a)(d:own g=B0):Ae w' g t a:=c.fr.al f (λh=>h.bR d)
def HI.free(h:HI w own P H){b:Nat}(a:w.heap.size<=b):own b=B0:=by
 cases e:own b with
 |none=>rfl
 |some t=>have:=h.lt b (by rw[e];simp);omega
def Sf(h:HI w own P H)(hs:s<H.c)(hn:H.n<=100)(bq:∀j,j<H.n->FB ((H.sh s).nd j).id)(bn:BQ H s)(bj:∀j,j<H.n->∀a∈((H.sh s).nd j).a4,Eo a) :
  VX Tryz.prog 52 #[pw P.g,pw (P.gs s)] w (O8 P own H s w):=by
 have a0:=LH (Gl h hs hn bq);have ae:H.take s=match H.head s with|none=>H|some j=>Hs.bu s ((H.sh s).nd j).a4 (((H.sh s).nd j).a4.length-(H.sh s).done) H:=rfl
 have bp:∀j,H.head s=Bs j->j<H.n:=λj e=>by
  have:=WY e;unfold Bv.ai at this;exact ZH.1 (YO.1 this).1
 have HH:=LH h;have c6:=LH bn;have bG:=LH bj;clear h bq bn bj;rcases hh:H.head s with _|j
 ·rw[hh]at ae;unfold Ff at a0;rw[hh]at a0;have aM:=LH ae;clear ae hh;unfold pw Dw at *;go_enter Tryz.func52,Tryz.ntmps52;go_wp2_with fail;refine a0.o.mono ?_;rintro e w1 ⟨rfl,a6⟩;have l:O8 P own H s w (ZY (ZZ #[])) w1:=⟨rfl,own,by rw[aM.o];exact HH.o.below a6,HZ.below own a6⟩
  have HF:=LH l;clear l a6;go_wp2_with fail;refine bodyPost_ret (results_none rfl _ _ _) rfl ?_;exact HF.o
 have hj:=bp j hh;rw[hh]at ae;unfold Ff at a0;rw[hh]at a0;have aM:=LH ae;clear ae bp hh;unfold Dw at a0;unfold pw at *;go_enter Tryz.func52,Tryz.ntmps52;go_wp2_with fail;refine a0.o.mono ?_;rintro e w1 ⟨rfl,a6⟩;have b8:=HH.o.below a6;obtain⟨C,V,L,b6,bx⟩:=b8.nd s j hs hj;have bO:=LH (qaz b6);have be:=LH a6;have c9:=LH bx;have bM:=LH b6;have bc:=LH b8;clear a6 bx b6 b8 a0;go_wp2_with fail;refine bO.o.mono ?_;rintro e w2 ⟨A5,k5,rfl,a4,aJ,aq⟩;have bz:=bc.o.below aJ;have aK:=bM.o.aW aJ;have aS:=aK.a4;have ct:=aK.len;have bU:L.length<=k5:=by obtain⟨_,_,e5,h5,_⟩:=AM a4;injection e5 with _ _ e5;omega
 have aE:=LH (λb hb=>bc.o.free (aq b hb));have aX:=LH a4;have ce:=LH bz;have ca:=LH aK;have ci:=LH (be.o.trans (aJ.mono be.o.size));have az:=LH (λa (ha:a∈AQ L)=>bG.o j hj a (by rw[<- aS];exact ha));rw[<- aS]at aM;have c8:=LH (λW c (hz:HZ (Db s) w2 own W c)=>ca.o.fr hz.fr (λb hb bQ=>by
  have:=bQ.c6 (c9.o b hb);obtain (h|h|h|h|h)|⟨i,h⟩:=this<;> cases h))
 have bb:=LH (λW c (hz:HZ (Db s) w2 own W c)=>RB aX.o aE.o hz);clear a4 aJ aq bz aK bO bM bc be bG aE aX;have ck:(AQ L).length=L.length:=by simp[AQ]
 go_wp2_with fail;go_loopw [6] (λ_ wr=>TkRel P own H s (AQ L) w2 wr) (λ_ wr=>L.length-(intOf ((wr.cell? ⟨P.gs s,7,B0⟩).getD undef)).toNat)
 case atStart=>exact⟨(H.sh s).done,H,⟨own,ce.o,HZ.refl _ _ _⟩,c6.o,BK.refl _ _,rfl,rfl⟩
 obtain⟨i,n,⟨c,ag,a7⟩,ap,ab,aI,U⟩:=hrel;have a3:s<n.c:=by rw[ab.c];exact hs
 obtain⟨v,hv⟩:=ag.sh s a3;obtain⟨_,_,_,_,c7,gl⟩:=hv.cells;rw[aI]at c7;by_cases bS:i<L.length
 ·have d1:decide ((i:Int)<(L.length:Int))=VD:=ZA Z0;obtain⟨gz,kz,bV,_,_⟩:=MU (bb.o _ _ a7) Z0;injection bV with hA5 _ hk5;subst hA5 hk5;obtain⟨cv,ol,x,bB,aT,hx,l0,l1,l2,l3⟩:=rd4 (Rd.a7 (bb.o _ _ a7)) rfl bS;simp only[VN,Xe,and_true]at bB;obtain⟨rfl,rfl⟩:=bB;rw[Wk]at l0 l1 l2 l3;have HX:=LH hx;have b1:(AQ L)[i]? = Bs x.c:=by rw[AQ,VQ,hx];rfl
  have bZ:=LH b1;have I:=LH (az.o x.c (N2 b1));have bv:Ae (wr.alloc (eT #[.int eQ x.c.aj,.int eQ x.c.tx,.int eQ x.c.ah,WK x.A x.n x.k] 69)) wr.heap.size 69 #[.int eQ x.c.aj,.int eQ x.c.tx,.int eQ x.c.ah,WK x.A x.n x.k]:=Ae.b4 wr _ _;have b5:VI wr.heap.size wr (wr.alloc (eT #[.int eQ x.c.aj,.int eQ x.c.tx,.int eQ x.c.ah,WK x.A x.n x.k] 69)):=(VC _ _).alloc (Hi _) _;have aU:c wr.heap.size=B0:=ag.free (Hi _);have aC:=LH (ag.below b5);have ah:=LH (a7.trans (HZ.below c b5));have ac:=LH aU;have S:=LH bv;have J:=LH ap;have bJ:=LH ab;have bd:=LH aI;have bH:=LH U;have bP:w2.heap.size<=wr.heap.size:=a7.fr.size;have C7:=LH c7;clear hx b1 bv b5 aU ap ab aI U ag a7 hv;go_upto_block 1 with (fail)
  clear c7;go_cut [] (λwx=>Hf P own s (n.bb s (AQ L) i x.c) w2 wx)
  case first=>
   have c7:=C7.o;go_upto_region 6 with (fail)
   clear l0 l1 l2 l3 c7 aT d1;generalize bt:wr.alloc (eT #[.int eQ x.c.aj,.int eQ x.c.tx,.int eQ x.c.ah,WK x.A x.n x.k] 69)=F at *;generalize cl:wr.heap.size=R at *;have aa:=LH (λW own' (hz:HZ (Db s) F c W own')=>hz.c5 S.o ac.o);have aN:=LH (λW own' (hz:HZ (Db s) F c W own')=>c8.o W own' (ah.o.trans hz));clear bt;have q0:=S.o.cell 0;have q1:=S.o.cell 1;have q2:=S.o.cell 2;have q3:=S.o.cell 3;simp only[NW,Ft,O0]at q0 q1 q2 q3;have ql:=S.o.lt;clear C7;by_cases k2:x.c.aj=2
   ·rw[k2]at q0;have aA:=LH (show n.bb s (AQ L) i x.c=n.ax s {n.sh s with tab:=CU (n.sh s).tab x.c.tx x.c.ae} by unfold Hs.bb;rw[Z8 k2]);have am:Ut P s n x F c (.int eQ (0:Nat)) F:=⟨0,c,rfl,VG _,by rw[X3];show HI F c P (n.ax s {n.sh s with tab:=(n.sh s).tab});rw[q8f];exact aC.o,HZ.refl _ _ _⟩
    have ba:=LH am;clear am;have b0:=(aN.o _ _ (HZ.refl _ _ _)).own x (N2 HX.o);have cs:x.c.ae.length=x.n:=b0.2.1;have cr:x.n<=100000:=b0.2.2;clear b0;go_wp2_with fail;go_loopw [47] (Ut P s n x F c) (λv _=>x.n-(intOf v).toNat)
    case atStart=>exact ba.o
    obtain⟨p,g,rfl,hp,u,m⟩:=hrel;by_cases b3:(p:Int)<x.n
    ·have bh:=((aN.o _ _ m).own x (N2 HX.o)).bB;obtain⟨gp,op,A,hA,b4,af,p0,p1,p2⟩:=bh.aN (k:=p) Z0;have bK:=LH af;have cd:=LH u;have bW:=LH m;have dl:decide ((p:Int)<(x.n:Int))=VD:=ZA Z0;have aV:=(aa.o _ _ m).lt;have bm:Ae (wr.alloc (eT #[.string A.key,.string A.val,ZX A.aR] 45)) wr.heap.size 45 #[.string A.key,.string A.val,ZX A.aR]:=Ae.b4 wr _ _;have ai:=LH bm;have M:=(VC wr.heap.size wr).alloc (Hi _) (eT #[.string A.key,.string A.val,ZX A.aR] 45);have aO:=LH ((aa.o _ _ m).below M aV);have a9:=LH (u.below M);have c5:=LH (u.free (Hi _));have cf:=LH (show g R=B0 from(m.ext R S.o.lt).trans ac.o);have Z:=LH (m.trans (HZ.below g M));clear bh af u m bm cd bW M aV;go_upto_region 11 with (fail)
     clear p0 p1 p2 b4 dl hA;generalize wr.alloc (eT #[.string A.key,.string A.val,ZX A.aR] 45)=w6 at *;generalize wr.heap.size=pb at *;have aR:=J.o.cY (T:=CU (n.sh s).tab x.c.tx (x.c.ae.take p)) (Dy.prep I.o.tx _ J.o.tab (λq hq=>I.o.ps q (WG hq)));have aw:=a9.o.below (VC w6.heap.size w6).drew;have bo:=qb6 aw (show s<_ from a3) x.c.tx 2 A.key I.o.tx (I.o.ps A (N2 bK.o)).1 (eS rfl) aR.tab;have bN:=LH bo;have r1:w6.drew.cell? ⟨R,1,B0⟩=Bs (.int eQ x.c.tx):=aO.o.cell 1;have r2:w6.drew.cell? ⟨pb,0,B0⟩=Bs (.string A.key):=ai.o.cell 0;have ay:=LH (Z.o.trans (HZ.below g (VC w6.heap.size w6).drew));clear bo aw aR a9 Z;refine nW ?_;refine CR (λW=>W.cell? ⟨R,1,B0⟩=Bs (.int eQ x.c.tx)/\W.cell? ⟨pb,0,B0⟩=Bs (.string A.key)) 12 (λ_ _ _ _ _ h=>h) (λf=>?_);have d:=Wo r1 r2;refine nD 0 [1,2,7,8,9,10,11] f d ?_;refine nD 1 [2,7,8,9,10,11] f d ?_;refine nD 2 [7,8,9,10,11] f d ?_;refine nD 3 [4,7,8,9,10,11] f d ?_;refine nA 4 [7,8,9,10,11] rfl rfl f d (λw' a2=>by obtain⟨h1,h2⟩:=a2;go_simp;rfl) ?_;refine nD 5 [6,7,8,9,10,11] f d ?_;refine nA 6 [7,8,9,10,11] rfl rfl f d (λw' a2=>by obtain⟨h1,h2⟩:=a2;go_simp;rfl) ?_;clear d r1 r2;refine nG 7 (λKK Y=>?_);go_simp;refine bN.o.mono ?_;rintro e w7 ⟨co,l7,cx,A7,bD,N,rfl,_,E,z,_,_⟩;rw[q71,CJ]at E;have an:Ut P s n x F c (.int eQ ((p+1:Nat):Int)) w7:=⟨p+1,N,rfl,Z0,by rw[MP _ _ bK.o];exact E,ay.o.trans (z.mono (λt ht=>eR ht))⟩
     have c2:=LH an;have d:=Wo ((z.c5 (show Ae w6.drew R _ _ from aO.o) cf.o).cell 1) ((z.c5 (show Ae w6.drew pb _ _ from ai.o) c5.o).cell 0);clear an E z bN;go_simp;refine Y _ _ (λ_=>d) ?_;clear Y KK;refine nD 8 [9,10,11] f d ?_;refine nD 9 [] f d ?_;refine nD 10 [] f d ?_;refine nD 11 [] f d ?_;clear d;refine nX ?_;clear f;go_wp2_with fail;go_roundw;exact c2.o;simp[intOf];omega
    have dl:decide ((p:Int)<(x.n:Int))=L1:=Z9 Z0;rw[VS Z0]at u;have l:Hf P own s (n.bb s (AQ L) i x.c) w2 wr:=⟨g,by rw[aA.o];exact u,ah.o.trans m⟩
    have HF:=LH l;clear l u m;go_wp2_with fail;go_meet;exact HF.o
   have e2:(x.c.aj == 2)=L1:=Z6 k2;by_cases k3:x.c.aj=3
   ·have aA:=LH (show n.bb s (AQ L) i x.c=(n.ax s {n.sh s with sto:=Br (n.sh s).sto ((AQ L).take i) x.c}).bF s x.c.tx by unfold Hs.bb;rw[Z7 k2,Z8 k3]);rw[k3]at q0;clear k2 e2;have am:LO P s n x (AQ L) i F c (.int eQ (0:Nat)) F:=⟨0,c,rfl,VG _,by rw[X3];show HI F c P (n.ax s {n.sh s with sto:=(n.sh s).sto});rw[q8f];exact aC.o,HZ.refl _ _ _⟩
    have ba:=LH am;clear am;obtain⟨v3,bk⟩:=aC.o.sh s a3;obtain⟨_,_,_,_,bC,cu⟩:=bk.cells;rw[bd.o]at bC;have s1:=q47 66 cund celem csize F gz L.length k5 i (i:Int) rfl Z0;clear bk;go_wp2_with fail;clear q0 q1 q2 q3 bC s1;go_loopw [73] (LO P s n x (AQ L) i F c) (λv _=>i-(intOf v).toNat)
    case atStart=>exact ba.o
    obtain⟨q,g,rfl,hq,u,m⟩:=hrel;have aO:=LH (aa.o _ _ m);by_cases bl:(q:Int)<i
    ·have bR:q<L.length:=by omega
     have dl:decide ((q:Int)<(i:Int))=VD:=ZA bl;obtain⟨gy,oy,y,bA,bT,hy,y0,y1,y2,y3⟩:=rd4 (Rd.a7 (bb.o _ _ (ah.o.trans m))) rfl bR;simp only[VN,Xe,and_true]at bA;obtain⟨rfl,rfl⟩:=bA;rw[Wk]at y0 y1 y2 y3;have HY:=LH hy;have aZ:(AQ L)[q]? = Bs y.c:=by rw[AQ,VQ,hy];rfl
     have aL:=LH (NG (n.sh s).sto x.c aZ);have bF:=LH (az.o y.c (N2 aZ));have M:=(VC wr.heap.size wr).alloc (Hi _) (eT #[.int eQ y.c.aj,.int eQ y.c.tx,.int eQ y.c.ah,WK y.A y.n y.k] 69);have bY:=LH (Ae.b4 wr 69 #[.int eQ y.c.aj,.int eQ y.c.tx,.int eQ y.c.ah,WK y.A y.n y.k]);have cz:=LH (u.free (Hi _));have a9:=LH (u.below M);have Z:=LH (m.trans (HZ.below g M));clear M u m hy aZ aO;go_upto_region 17 with (fail)
     clear y0 y1 y2 y3 bT dl;generalize wr.alloc (eT #[.int eQ y.c.aj,.int eQ y.c.tx,.int eQ y.c.ah,WK y.A y.n y.k] 69)=w6 at *;generalize wr.heap.size=yb at *;have ak:=bY.o;have q0:=ak.cell 0;have q1:=ak.cell 1;have q3:=ak.cell 3;simp only[NW,Ft,O0]at q0 q1 q3;have cn:=ak.lt;have ar:=aa.o _ _ Z.o;have c1:=ar.cell 1;simp only[NW,Ft,O0]at c1;have cy:=ar.lt;clear ak ar;by_cases a1:y.c.aj=2
     ·rw[a1]at q0;by_cases ad:y.c.tx=x.c.tx
      ·have et:(y.c.tx == x.c.tx)=VD:=Z6 ad;have bX:=LH (aL.o.trans (Z8 ⟨a1,ad⟩));clear aL a1 ad;have aQ:=J.o.dJ (K:=Br (n.sh s).sto ((AQ L).take q) x.c) (Dz.comm I.o _ J.o.sto (λa ha=>az.o a (WG ha)));have cc:=LH (show Dz (Br (n.sh s).sto ((AQ L).take q) x.c) by have:=aQ.sto;rw[CJ]at this;exact this);have bI:=LH (show Us P s n (Br (n.sh s).sto ((AQ L).take q) x.c) x y F c (.int eQ (0:Nat)) w6 from⟨0,g,rfl,VG _,a9.o,Z.o⟩);have aY:=(aN.o _ _ Z.o).own y (N2 HY.o);have cq:y.c.ae.length=y.n:=aY.2.1;have cp:y.n<=100000:=aY.2.2;clear aY aQ a9;go_wp2_with fail;clear q0 q1 q3 c1 et;go_loopw [90] (Us P s n (Br (n.sh s).sto ((AQ L).take q) x.c) x y F c) (λv _=>y.n-(intOf v).toNat)
       case atStart=>exact bI.o
       obtain⟨p,N,rfl,hp,E,z⟩:=hrel;by_cases b3:(p:Int)<y.n
       ·have dl:decide ((p:Int)<(y.n:Int))=VD:=ZA b3;have bg:=((aN.o _ _ z).own y (N2 HY.o)).bB;obtain⟨gp,op,A,hA,b4,af,p0,p1,p2⟩:=bg.aN (k:=p) Z0;have c4:=LH (MK (Br (n.sh s).sto ((AQ L).take q) x.c) x.c.ah af);have c0:=LH (bF.o.ps A (N2 af));have M:=(VC wr.heap.size wr).alloc (Hi _) (eT #[.string A.key,.string A.val,ZX A.aR] 45);have ai:=LH (Ae.b4 wr 45 #[.string A.key,.string A.val,ZX A.aR]);have bi:Dz (Dd (Br (n.sh s).sto ((AQ L).take q) x.c) x.c.ah (y.c.ae.take p)):=Dz.puts I.o.ah.1 I.o.ah.2 _ cc.o (λr hr=>bF.o.ps r (WG hr));have aP:=TH ((E.below M).below (VC _ _).drew) (show s<_ from a3) x.c.ah A I.o.ah c0.o (by rw[CJ];exact bi);have bL:=LH aP;have bE:=LH ((z.trans (HZ.below N M)).trans (HZ.below N (VC _ _).drew));have aW:=(aa.o _ _ bE.o)
        have cg:=LH aW;clear bg af M bi aP E z aW;go_upto_region 21 with (fail)
        clear p0 p1 p2 b4 dl hA;generalize wr.alloc (eT #[.string A.key,.string A.val,ZX A.aR] 45)=w8 at *;generalize wr.heap.size=pb at *;have r1:w8.drew.cell? ⟨R,2,B0⟩=Bs (.int eQ x.c.ah):=cg.o.cell 2;have r2:w8.drew.cell? ⟨pb,0,B0⟩=Bs (.string A.key):=ai.o.cell 0;have r3:w8.drew.cell? ⟨pb,1,B0⟩=Bs (.string A.val):=ai.o.cell 1;have r4:w8.drew.cell? ⟨pb,2,B0⟩=Bs (ZX A.aR):=ai.o.cell 2;refine nW ?_;refine CR (λW=>W.cell? ⟨R,2,B0⟩=Bs (.int eQ x.c.ah)/\W.cell? ⟨pb,0,B0⟩=Bs (.string A.key)/\W.cell? ⟨pb,1,B0⟩=Bs (.string A.val)/\W.cell? ⟨pb,2,B0⟩=Bs (ZX A.aR)) 6 (λ_ _ _ _ _ h=>h) (λf=>?_);have d:=Wo r1 (Wo r2 (Wo r3 r4));refine nD 0 [1,2,6] f d ?_;refine nD 1 [2,6] f d ?_;refine nD 2 [6] f d ?_;refine nD 3 [4,6] f d ?_;refine nA 4 [6] rfl rfl f d (λw' a2=>by obtain⟨h1,h2,h3,h4⟩:=a2;go_simp;rfl) ?_;refine nA 5 [6] rfl rfl f d (λw' a2=>by obtain⟨h1,h2,h3,h4⟩:=a2;go_simp;rfl) ?_;clear d r1 r2 r3 r4;refine nG 6 (λKK Y=>?_);go_simp;refine bL.o.mono ?_;rintro e w9 ⟨cw,bf,rfl,b7,bw⟩;rw[q71,CJ]at b7;have a8:=LH (show Us P s n (Br (n.sh s).sto ((AQ L).take q) x.c) x y F c (.int eQ ((p+1:Nat):Int)) w9 from⟨p+1,bf,rfl,Z0,by rw[c4.o];exact b7,bE.o.trans (bw.mono (λt ht=>eR ht))⟩);clear b7 bw bL;go_simp;refine Y _ _ nZ ?_;clear Y KK;refine nX ?_;clear f;go_wp2_with fail;go_roundw;exact a8.o;simp[intOf];omega
       have dl:decide ((p:Int)<(y.n:Int))=L1:=Z9 b3;rw[show y.c.ae.take p=y.c.ae from VS Z0]at E;have a8:=LH (show LO P s n x (AQ L) i F c (.int eQ ((q+1:Nat):Int)) wr from⟨q+1,N,rfl,Z0,by rw[bX.o];exact E,z⟩);clear E z;go_wp2_with fail;go_roundw;exact a8.o;simp[intOf];omega
      have et:(y.c.tx == x.c.tx)=L1:=Z6 ad;have a8:=LH (show LO P s n x (AQ L) i F c (.int eQ ((q+1:Nat):Int)) w6 from⟨q+1,g,rfl,Z0,by rw[aL.o,Z7 (λh=>ad h.2)];exact a9.o,Z.o⟩);clear a1 ad;go_wp2_with fail;go_roundw;exact a8.o;simp[intOf];omega
     have ek:(y.c.aj == 2)=L1:=Z6 a1;have a8:=LH (show LO P s n x (AQ L) i F c (.int eQ ((q+1:Nat):Int)) w6 from⟨q+1,g,rfl,Z0,by rw[aL.o,Z7 (λh=>a1 h.1)];exact a9.o,Z.o⟩);clear a1;go_wp2_with fail;go_roundw;exact a8.o;simp[intOf];omega
    have dl:decide ((q:Int)<(i:Int))=L1:=Z9 bl;obtain rfl:q=i:=by omega
    have Q:=LH (J.o.dJ (K:=Br (n.sh s).sto ((AQ L).take q) x.c) (Dz.comm I.o _ J.o.sto (λa ha=>az.o a (WG ha))));go_wp2_with fail;have O:=aa.o _ _ m;have r1:wr.drew.cell? ⟨R,1,B0⟩=Bs (.int eQ x.c.tx):=O.cell 1;have aB:=LH (q60 (u.below (VC wr.heap.size wr).drew) (show s<_ from a3) x.c.tx (Gu (Z4 I.o.tx) (Z4 I.o.tx)) Q.o.tab);have b9:=LH ((ah.o.trans m).trans (HZ.below g (VC wr.heap.size wr).drew));have aG:=LH O;have aF:=LH (show g R=B0 from(m.ext R S.o.lt).trans ac.o);clear u m O;refine nW ?_;refine CR (λW=>W.cell? ⟨R,1,B0⟩=Bs (.int eQ x.c.tx)) 8 (λ_ _ _ _ _ h=>h) (λf=>?_);have d:=r1;refine nD 0 [8] f d ?_;refine nD 1 [8] f d ?_;refine nD 2 [3,4,7,8] f d ?_;refine nD 3 [4,7,8] f d ?_;refine nD 4 [7,8] f d ?_;refine nD 5 [6,7,8] f d ?_;refine nD 6 [7,8] f d ?_;clear d r1;refine nG 7 (λKK Y=>?_);go_simp;refine aB.o.mono ?_;rintro e w7 ⟨V7,gs,N,rfl,B,G,br,X,E,z⟩;obtain⟨A7,bD,rfl,_,_⟩:=AM B;have a5:=q7c (s:=s) E (VK Q.o.m Z0) (λa h1 h2=>Q.o.wn a h1 h2) B G Z0;rw[X]at a5;have aD:=LH a5;have ay:=LH (b9.o.trans (z.mono (λt ht=>eR ht)));have ax:w7.cell? ⟨R,1,B0⟩=Bs (.int eQ x.c.tx):=(z.c5 (show Ae wr.drew R _ _ from aG.o) aF.o).cell 1;clear a5 B G E X z aB;go_simp;refine Y _ _ (λ_=>ax) ?_;clear Y KK ax;refine nG 8 (λKK Y=>?_);go_simp;refine aD.o.mono ?_;rintro e w8 ⟨rfl,aj,av,au⟩;go_simp;refine Y _ _ nZ ?_;clear Y KK;refine nX ?_;clear f aD;have l:Hf P own s ((n.ax s {n.sh s with sto:=Br (n.sh s).sto ((AQ L).take q) x.c}).bF s x.c.tx) w2 w8:=⟨aj,av,ay.o.trans (au.mono (λt ht=>eS ht))⟩
    rw[<- aA.o]at l;have HF:=LH l;clear l av au;go_wp2_with fail;go_meet;exact HF.o
   have e3:(x.c.aj == 3)=L1:=Z6 k3;by_cases k4:x.c.aj=4
   ·have aA:=LH (show n.bb s (AQ L) i x.c=n.bF s x.c.tx by unfold Hs.bb;rw[Z7 k2,Z7 k3,Z8 k4]);rw[k4]at q0;clear k2 e2 k3 e3;obtain⟨g,u,m⟩:∃o,HI F o P n/\HZ (Db s) F c F o:=⟨c,aC.o,HZ.refl _ _ _⟩
    have Q:=J;obtain⟨cm,cj⟩:∃W,W=F:=⟨F,rfl⟩
    go_wp2_with fail;have O:=aa.o _ _ m;have r1:F.drew.cell? ⟨R,1,B0⟩=Bs (.int eQ x.c.tx):=O.cell 1;have aB:=LH (q60 (u.below (VC F.heap.size F).drew) (show s<_ from a3) x.c.tx (Gu (Z4 I.o.tx) (Z4 I.o.tx)) Q.o.tab);have b9:=LH ((ah.o.trans m).trans (HZ.below g (VC F.heap.size F).drew));have aG:=LH O;have aF:=LH (show g R=B0 from(m.ext R S.o.lt).trans ac.o);clear u m O;refine nW ?_;refine CR (λW=>W.cell? ⟨R,1,B0⟩=Bs (.int eQ x.c.tx)) 8 (λ_ _ _ _ _ h=>h) (λf=>?_);have d:=r1;refine nD 0 [8] f d ?_;refine nD 1 [8] f d ?_;refine nD 2 [3,4,7,8] f d ?_;refine nD 3 [4,7,8] f d ?_;refine nD 4 [7,8] f d ?_;refine nD 5 [6,7,8] f d ?_;refine nD 6 [7,8] f d ?_;clear d r1;refine nG 7 (λKK Y=>?_);go_simp;refine aB.o.mono ?_;rintro e w7 ⟨V7,gs,N,rfl,B,G,br,X,E,z⟩;obtain⟨A7,bD,rfl,_,_⟩:=AM B;have a5:=q7c (s:=s) E (VK Q.o.m Z0) (λa h1 h2=>Q.o.wn a h1 h2) B G Z0;rw[X]at a5;have aD:=LH a5;have ay:=LH (b9.o.trans (z.mono (λt ht=>eR ht)));have ax:w7.cell? ⟨R,1,B0⟩=Bs (.int eQ x.c.tx):=(z.c5 (show Ae F.drew R _ _ from aG.o) aF.o).cell 1;clear a5 B G E X z aB;go_simp;refine Y _ _ (λ_=>ax) ?_;clear Y KK ax;refine nG 8 (λKK Y=>?_);go_simp;refine aD.o.mono ?_;rintro e w8 ⟨rfl,aj,av,au⟩;go_simp;refine Y _ _ nZ ?_;clear Y KK;refine nX ?_;clear f aD;have l:Hf P own s (n.bF s x.c.tx) w2 w8:=⟨aj,av,ay.o.trans (au.mono (λt ht=>eS ht))⟩
    rw[<- aA.o]at l;have HF:=LH l;clear l av au;go_wp2_with fail;go_meet;exact HF.o
   have e4:(x.c.aj == 4)=L1:=Z6 k4;have l:Hf P own s (n.bb s (AQ L) i x.c) w2 F:=⟨c,by unfold Hs.bb;rw[Z7 k2,Z7 k3,Z7 k4];exact aC.o,ah.o⟩
   have HF:=LH l;clear l k2 k3 k4;go_wp2_with fail;go_meet;exact HF.o
  obtain⟨g,u,m⟩:=hcut;rename D0=>w5
  obtain⟨v5,al⟩:=u.sh s (by rw[(BK.bb n s i (AQ L) x.c).c];exact a3);obtain⟨_,_,_,_,k7,kl⟩:=al.cells;have z7:=al.tab.al.frozen 7;rw[Mn,bd.o]at k7;have b2:=al.cU (i+1);have aH:Fr (OS g (Dr s)) w5 (w5.setCell ⟨P.gs s,7,B0⟩ (.int eQ ((i+1:Nat):Int))):=(Fr.aL (P.gs s) w5 7 _).mono (λb _ e=>⟨_,by rw[e];exact al.gt,eR rfl⟩);have aw:=u.setSh' (x':={ (n.bb s (AQ L) i x.c).sh s with done:=i+1}) rfl aH (Ext.refl g _) (λb hb=>VF (u.lt b hb) aH.size) ⟨_,b2⟩;have ao:TkRel P own H s (AQ L) w2 (w5.setCell ⟨P.gs s,7,B0⟩ (.int eQ ((i+1:Nat):Int))):=by
   refine⟨i+1,n.bG s (AQ L) i x.c,⟨g,aw,m.trans ⟨Ext.refl g _,aH.mono (λ_ _ ⟨t,a,b⟩=>⟨t,a,eR b⟩),λ_ _ h=>h⟩⟩,J.o.bG I.o az.o,bJ.o.trans (BK.bG _ _ _ _ _),by unfold Hs.bG;rw[CJ],?_⟩;rw[bH.o,show(AQ L).length-i=((AQ L).length-(i+1))+1 by omega];exact q6f bd.o bZ.o
  have bu:=b2.cells.2.2.2.2.1;have c3:=LH ao;have ch:=LH bu;clear ao bu aw aH b2 al u m l0 l1 l2 l3 d1 aT;go_wp2_with fail;go_roundw
  case rel=>exact c3.o
  rw[show(((w5.setCell ⟨P.gs s,7,B0⟩ (.int eQ ((i:Int)+1))).cell? ⟨P.gs s,7,B0⟩).getD undef)=.int eQ ((i:Int)+1)from congrArg (λo=>o.getD undef) ch.o,C7.o];simp[intOf];omega
 have d1:decide ((i:Int)<(L.length:Int))=L1:=Z9 Z0;rw[show(AQ L).length-i=0 by omega]at U;have l:O8 P own H s w (ZY (ZZ #[])) wr:=⟨rfl,c,by rw[aM.o,U];exact ag,(HZ.below own ci.o).trans a7⟩
 have HF:=LH l;clear l ag a7 U hv ap ab aI;go_wp2_with fail
 go_end0
 exact HF.o
def Tm(s j:Nat)(t:Tg):Prop:=t=.nd s j
def SM(t:Tg):Prop:=t=.hs\/t=.net
def HI.node(h:HI w own P H){d:S2}{L f:List BI}{u:Nd}(n:∀b,CZ (P.gn s j) C V L b->own b=Bs (.nd s j))
  (o:BT w' 0 (P.gn s j) g d f u) (p:Fr (CZ (P.gn s j) C V L) w w') (m:∀q,CZ (P.gn s j) g d f q->CZ (P.gn s j) C V L q\/w.heap.size<=q) :
  ∃own',HI w' own' P (H.au s j u)/\HZ (Tm s j) w own w' own'/\∀b,w.heap.size<=b->own' b=B0\/own' b=Bs (.nd s j):=by
 have c:Fr (OS own (Tm s j)) w w':=p.mono (λb _ a=>⟨_,n b a,rfl⟩);have r:Ext own (Ej own w.heap.size (CZ (P.gn s j) g d f) (.nd s j)) w.heap.size:=SV;have l:=SR (own:=own) (t:=.nd s j) p.size (λb a=>(o.a9 a).2);refine⟨_,h.setNd' c r l ⟨g,d,f,o,λb a=>SS ((m b a).imp (n b) id) a⟩,⟨r,c,(by first|exact RC Z3|exact λ_ _ h=>h)⟩,λb a=>?_⟩;unfold Ej;rw[Z7 Z0];split;exact eS rfl;exact eR rfl
def Pe(P:Av)(H:Hs)(own:Ah)(s j:Nat)(a:Nd)(ms:List Ms)(w:D0)(V:S2)(w':D0):Prop:=
 BM w.heap.size ms V w'/\∃own',HI w' own' P (H.au s j a)/\HZ (Tm s j) w own w' own'/\∀b,w.heap.size<=b->own' b=B0\/own' b=Bs (.nd s j)
def QP(h:HI w own P H)(hs:s<H.c)(o:j<H.n)(m:Ms)(A:Option Addr)(n k:Nat)(q:Gr w w.heap.size A n m.aY.ae)(l:A=B0->k=0)(g:n<=100000) :
  VX Tryz.prog 51 #[pw (P.gn s j),.agg #[Wm eQ m.aj,Wm eQ m.ar,Wm eQ m.a8,Wm eQ m.ad,Wm eQ m.n,Wm eQ m.aY.aj,Wm eQ m.aY.tx,Wm eQ m.aY.ah,WK A n k]] w
   λe w'=>∃V,e=ZY V/\Pe P H own s j (((H.sh s).nd j).step m).1 (((H.sh s).nd j).step m).2 w V w':=by
 obtain⟨C,V,L,r,d⟩:=h.nd s j hs o;refine(St r m A n k q l g).mono ?_;rintro e w' ⟨t,u,v,rfl,f,a,p,c⟩;exact⟨t,rfl,f,h.node d a p c⟩
def QO(h:HI w own P H)(hs:s<H.c)(g:j<H.n) :
  VX Tryz.prog 55 #[pw (P.gn s j)] w λe w'=>∃V,e=ZY V/\Pe P H own s j ((H.sh s).nd j).aD.1 ((H.sh s).nd j).aD.2 w V w':=by
 obtain⟨C,V,L,m,c⟩:=h.nd s j hs g;refine(q99 m).mono ?_;rintro e w' ⟨n,rfl,f,a,l⟩;exact⟨n,rfl,f,h.node c a (l.mono (λb _ e=>eR e)) (λq d=>eR d)⟩
def QS(h:HI w own P H)(hs:s<H.c)(m:j<H.n)(x:BI)(o:Gr w w.heap.size x.A x.n x.c.ae)(l:x.A=B0->x.k=0)(g:x.n<=100000) :
  VX Tryz.prog 120 #[pw (P.gn s j),.agg #[Wm eQ x.c.aj,Wm eQ x.c.tx,Wm eQ x.c.ah,WK x.A x.n x.k]] w
   λe w'=>∃V b,e=ZY (ZZ #[Wm eQ (((H.sh s).nd j).add x.c b).2.1,V,IM (((H.sh s).nd j).add x.c b).2.2])/\Pe P H own s j (((H.sh s).nd j).add x.c b).1.1 (((H.sh s).nd j).add x.c b).1.2 w V w':=by
 obtain⟨C,V,L,p,d⟩:=h.nd s j hs m;refine(add_any p x o l g).mono ?_;rintro e w' ⟨q,r,t,b,rfl,f,a,n,c⟩;exact⟨q,b,rfl,f,h.node d a n c⟩
def KS(h:HI w own P H)(hs:s<H.c)(q:j<H.n)(e:Int)(a:List Int)(A:Option Addr)(k:Nat)(u:w.ownsRow 0 3 1 (WK A a.length k) a.length (a.map (Wm eQ)))(t:((H.sh s).nd j).ad<e)(f:a.length<=6)(d:a.Nodup)(c:∀x∈a,FB x)(l:((H.sh s).nd j).id∈a) :
  VX Tryz.prog 75 #[pw (P.gn s j),.agg #[Wm eQ e,WK A a.length k]] w
   λn w'=>∃V,n=ZY (ZZ #[V,ZS])/\Pe P H own s j (((H.sh s).nd j).bS e a).aD.1 (((H.sh s).nd j).bS e a).aD.2 w V w':=by
 obtain⟨C,V,L,v,o⟩:=h.nd s j hs q;refine(NN v e a A k u t f d c l).mono ?_;rintro n w' ⟨y,E,z,B,rfl,p,g,r,m⟩;exact⟨y,rfl,p,h.node o g r m⟩
def Hv(h:He m):FB m.ar/\FB m.a8:=⟨Gu (Z4 h.fr) (Z4 h.fr),Gu (Z4 h.tw) (Z4 h.tw)⟩
def EP.dS{c m:Nat}{net net':Be}{time:Int}(h:EP w own P c m net time v)(o:Fr (OS own SM) w w')(n:Ext own own' w.heap.size)(g:v'.Vr=v.Vr)(f:v'.Vt=v.Vt)
  (q:AO w' 0 P.g 0 92 (P0 v' time) v'.Vn v'.D 100 v'.L net'.aq v'.df) (p:AI v'.L=net'.l) (l:∀b,FN v' b->own' b=Bs .net) (d:∀x∈v'.L,x.n<=100000):EP w' own' P c m net' time v':=by
 refine⟨q,p,l,d,?_,λb a=>?_,?_,λb a=>?_,(n _ h.nt.al.lt).trans h.gt⟩;rw[g];exact o.own h.shr (λb a hs=>by obtain e|e:=hs.c6 (h.ck b a)<;> cases e);rw[g]at a;exact(n b (h.shr.lt b a).2).trans (h.ck b a);rw[f];exact o.own h.txr (λb a hs=>by obtain e|e:=hs.c6 (h.cf b a)<;> cases e);rw[f]at a;exact(n b (h.txr.lt b a).2).trans (h.cf b a)
def Iw{c m:Nat}{net:Be}{time:Int}(h:EP w own P c m net time v)(d:Fr (B7 P.g v.Vn v.D) w w'):Fr (OS own SM) w w':=
 d.mono (λb _ a=>by
  obtain rfl|a|a:=a;exact⟨_,h.gt,eR rfl⟩;exact⟨_,h.bI b (eR a.symm),eS rfl⟩;exact⟨_,h.bI b (eS (eR a.symm)),eS rfl⟩)
def HSendP(P:Av)(H:Hs)(own:Ah)(ms:List Ms)(w:D0)(e:WE)(w':D0):Prop:=
 ∃d own',e=ZY (Wm eQ d)/\HI w' own' P (H.aO ms)/\HZ SM w own w' own'
def q81(h:HI w own P H){B:Nat}(W:BM B ms V w)(R:∀b,B<=b->own b≠Bs .hs/\own b≠Bs .net)(p:∀m∈ms,He m)(J:Wf H)(E:ms.length<=100000) :
  VX Tryz.prog 50 #[pw P.g,V] w (HSendP P H own ms w):=by
 obtain⟨v,n⟩:=h.hs;obtain⟨A,k,M,rfl,l,r,hM⟩:=W;have hl:ms.length=M.length:=by rw[<- r];simp[AI]
 have y:∀b,B<=b->¬B7 P.g v.Vn v.D b:=λb a z=>by
  obtain rfl|z|z:=z;exact(R _ a).1 n.gt;exact(R _ a).2 (n.bI b (eR z.symm));exact(R _ a).2 (n.bI b (eS (eR z.symm)))
 have Y:N6 w (B7 P.g v.Vn v.D) A ms.length M:=by
  refine⟨hl.symm,by rw[hl]at l ⊢;exact Rd.a7 l,λg I e h0=>y g ?_,λx f=>⟨⟨(hM x f).1.2,Rd.a7 (hM x f).1.1⟩,λg I e h0=>y g ?_⟩⟩;exact(l.lt g (by rw[e];rfl)).1;exact((hM x f).1.1.lt g (by rw[e];rfl)).1
 refine(J0 0 P.g 0 100 ms.length k _ _ v.Vn v.D v.L H.net.aq v.df A M w n.nt Y E (λx f=>?_)).mono ?_;have C:x.m∈ms:=by rw[<- r];exact ZE.2 ⟨x,f,rfl⟩
 refine⟨(Hv (p _ C)).1,(Hv (p _ C)).2,(hM x f).2,λe=>?_⟩;obtain⟨c,_⟩|⟨_,_,_,c,_⟩:=(hM x f).1.1.2;injection c;rw[e]at c;cases c;rintro e w' ⟨V',L',lost',d,rfl,N,S,hs,Z,X⟩;have G:=Iw n Z;have e2:H.net=⟨AI v.L,H.net.aq⟩:=by rw[n.cb]
 have o:(H.aO ms).net=⟨AI L',H.net.aq⟩:=by
  show EW H.net ms=_;rw[e2];rw[<- r];exact hs
 have Q:Ext own (Ej own w.heap.size (FN {v with Vn:=V',L:=L',df:=lost'}) .net) w.heap.size:=SV;have F:AO w' 0 P.g 0 92 (P0 {v with Vn:=V',L:=L',df:=lost'} H.ah) V' v.D 100 L' H.net.aq lost':=S;have O:∀b,FN {v with Vn:=V',L:=L',df:=lost'} b->own b=Bs .net\/w.heap.size<=b:=λb a=>by
  obtain a|a|⟨x,f,a⟩:=a;obtain c|⟨q,c,T⟩:=X;exact eR (n.bI b (eR (by rw[<- c];exact a)));have u:V'.ownBlock=Bs b:=a;rw[c]at u;injection u with u;exact eS Z0;exact eR (n.bI b (eS (eR a)));obtain c|c:=N x f;exact eR (n.bI b (eS (eS ⟨x,c,a⟩)));exact eS (c b a)
 have K:=n.dS (net':=(H.aO ms).net) (v':={v with Vn:=V',L:=L',df:=lost'}) G Q rfl rfl (by rw[o];exact F) (by rw[o]) (λb a=>SS (O b a) a) (λx f=>?_)
 ·refine⟨d,_,rfl,?_,⟨Q,G,(by first|exact RC Z3|exact λ_ _ h=>h)⟩⟩;have:=h.setHs' (net':=(H.aO ms).net) (time':=H.ah) (Ii G (λt U=>U.elim eR (λe=>eS (eR e)))) Q (SR G.size (λb a=>F.a9 a)) ⟨_,K⟩;exact this
 have c:x.m∈(H.aO ms).net.l:=by rw[o];exact ZE.2 ⟨x,f,rfl⟩
 have T:=((J.aO p).net x.m c).cd;rw[(S.own x f).2]at T;omega
def NY(s:Nat)(t:Tg):Prop:=(∃j,t=.nd s j)\/SM t\/Db s t
def qea(h:(d.add c b).2.2≠0):(d.add c b).1.1=d:=by unfold Nd.add at h ⊢;split;rfl;rename_i f;rw[Z7 f]at h;split;rfl;rename_i a;rw[Z7 a]at h;exact ZB rfl h
def qb4(h:HI w own P H)(a:Wf H)(hs:s<H.c):VX Tryz.prog 52 #[pw P.g,pw (P.gs s)] w (O8 P own H s w):=
 Sf h hs (Z4 a.n4) (λj c=>a.idOk hs c) (a.ej hs) (λj c=>(a.nd s j hs c).a4)
def q83(h:HI w own P H)(a:Wf H)(hs:s<H.c):VX Tryz.prog 61 #[pw (P.gs s)] w (Ff P H s w):=
 Gl h hs (Z4 a.n4) (λj c=>a.idOk hs c)
def UF(P:Av)(H:Hs)(own:Ah)(s j:Nat)(c:Cm)(w:D0)(e:WE)(w':D0):Prop:=
 ∃b own',e=ZY (Wm eQ (H.add s j c b).1)/\HI w' own' P (H.add s j c b).2/\HZ (NY s) w own w' own'
def q9m(h:HI w own P H)(N:Wf H)(hs:s<H.c)(hj:j<H.n)(x:BI)(Q:Gr w w.heap.size x.A x.n x.c.ae)(hk:x.A=B0->x.k=0)(hn:x.n<=100000)(hc:Eo x.c) :
  VX Tryz.prog 94 #[pw P.g,pw (P.gs s),pw (P.gn s j),.agg #[Wm eQ x.c.aj,Wm eQ x.c.tx,Wm eQ x.c.ah,WK x.A x.n x.k]] w (UF P H own s j x.c w):=by
 have g:VI w.heap.size w (w.alloc (eT #[Wm eQ x.c.aj,Wm eQ x.c.tx,Wm eQ x.c.ah,WK x.A x.n x.k] 69)):=(VC _ _).alloc (Hi _) _;have f:Ae (w.alloc (eT #[Wm eQ x.c.aj,Wm eQ x.c.tx,Wm eQ x.c.ah,WK x.A x.n x.k] 69)) w.heap.size 69 #[Wm eQ x.c.aj,Wm eQ x.c.tx,Wm eQ x.c.ah,WK x.A x.n x.k]:=Ae.b4 w _ _;have a3:=LH (h.below g);have HA:=LH (QS (h.below g) hs hj x ⟨Q.1,(Q.2.below g).more g.size⟩ hk hn);have I:=LH (HZ.below (Z:=NY s) own g);have Y:=f.cell 0;have q1:=f.cell 1;have X:=f.cell 2;have W:=f.cell 3;have ql:=f.lt;simp only[NW,Ft,O0]at Y q1 X W;clear h g f Q;unfold pw at *;go_enter Tryz.func94,Tryz.ntmps94;go_upto_region 1 with (fail)
 generalize (w.alloc _)=w1 at *;generalize w.heap.size=cb at *;go_wp2_with fail;refine HA.o.mono ?_;rintro e w2 ⟨V,b,rfl,O,z,m,o,p⟩;clear Y q1 X W ql HA;by_cases d:(((H.sh s).nd j).add x.c b).2.2=0
 ·have a:H.add s j x.c b=((((H.sh s).nd j).add x.c b).2.1,(((H.au s j (((H.sh s).nd j).add x.c b).1.1).aO (((H.sh s).nd j).add x.c b).1.2)).take s):=by
   unfold Hs.add;rw[Z7 (by rw[d];simp)]
  have K:=LH a;have n:=RS (N.nd s j hs hj) (show s<3 by have:=N.c3;omega) (show j<4 by have:=N.n4;omega) hc b;have l:=N.au n.1;have r:(((H.sh s).nd j).add x.c b).1.2.length<=100000:=by
   obtain⟨A,k,M,e,a1,a2,_⟩:=O;unfold Nd.add;split;simp;split;simp;unfold Nd.aP Nd.aD;split;split;simp;split;split<;>simp;simp;simp
  have B:=q81 m O (λq hq=>by obtain e|e:=p q hq<;> (rw[e];simp)) n.2 l r;have v:=LH B;have S:=LH (I.o.trans (o.mono (λt u=>eR ⟨j,u⟩)));have T:=LH (l.aO n.2);unfold IM;rw[d,Z8 rfl];obtain⟨A,k,M,rfl,_⟩:=O;unfold pw at v;clear a n l B r p m o d;go_wp2_with fail;refine v.o.mono ?_;rintro e w3 ⟨d3,a0,rfl,G,E⟩;have J:=LH (qb4 G T.o (show s<_ from hs));have R:=LH (S.o.trans (E.mono (λt u=>eS (eR u))));unfold pw at J;clear G E v;go_wp2_with fail;refine J.o.mono ?_;rintro e w4 ⟨rfl,y,F,C⟩;have c:UF P H own s j x.c w (ZY (Wm eQ (((H.sh s).nd j).add x.c b).2.1)) w4:=⟨b,y,by rw[K.o],by rw[K.o];exact F,R.o.trans (C.mono (λt u=>eS (eS u)))⟩
  have U:=LH c;clear c F C;go_wp2_with fail;go_ret;exact U.o
 have a:H.add s j x.c b=(-1,H):=by unfold Hs.add;rw[Z8 d]
 rw[qea d,My]at m;have c:UF P H own s j x.c w (ZY (Wm eQ (-1))) w2:=⟨b,z,by rw[a],by rw[a];exact m,I.o.trans (o.mono (λt u=>eR ⟨j,u⟩))⟩
 have U:=LH c;unfold IM;rw[Z7 d];clear c m o O a d;go_wp2_with fail;go_ret;exact U.o
def GX:(Tryz.prog.info? 3).map (λi=>(i.zero,i.size,i.bytes))=Bs (Bs (Wm eQ 0),1,8):=by kernel_rfl
def Bu.bW(t:Bu):List Int:=t.ag.map λk:Nat=>(k:Int)
def D5{t:Bu}{k:Nat} : k∈t.ag↔(k=0\/k=1)/\t.af k≠B0:=by unfold Bu.ag;rw[YO];simp only[Ye,X9,or_false,Option.isSome_iff_ne_none]
def Cb{t:Bu}{k:Nat}(h:k∈t.ag):k<2:=by obtain rfl|rfl:=(D5.1 h).1<;> omega
def qbi(t:Bu):t.ag.length<=2:=WC _ _
def Rf{t:Bu}(c:∀k e,t.af k=Bs e->(k=0\/k=1)/\True){l:List Int}(d:l.Nodup)(f:∀o,o∈l↔t.af o≠B0):D3 l=t.bW:=by refine Mu (JU d) ?_ (λa=>?_);unfold Bu.bW Bu.ag;rw[Xb];refine Yg _ ?_;simp;rw[GM,f a];unfold Bu.bW;rw[List.mem_map];constructor;intro h;obtain⟨e,m⟩:=ZJ.1 h;obtain rfl|rfl:=(c a e m).1;exact⟨0,D5.2 ⟨eR rfl,h⟩,rfl⟩;exact⟨1,D5.2 ⟨eS rfl,h⟩,rfl⟩;rintro ⟨k,g,rfl⟩;exact(D5.1 g).2
def Fu(t:Bu)(w:D0)(e:WE)(w':D0):Prop:=∃V,e=ZY V/\w'.ownsRow w.heap.size 3 1 V t.ag.length (t.bW.map (Wm eQ))/\VI w.heap.size w w'
def CmRel(W:D0)(f:Int->Option Int)(c r:Nat)(v:S2)(wr:D0):Prop:=
 ∃(left:Int->Bool)(a:Nat)(l:List Int),Ed BP wr c r 100 (Dl f) left a/\l.length+a<=100/\wr.ownsRow (W.heap.size+1) 3 1 v l.length (l.map (Wm eQ))/\l.Nodup/\
  (∀o,o∈l↔left o=L1/\f o≠B0)/\VI W.heap.size W wr/\W.heap.size+1<=wr.heap.size
section
variable {w w':D0}{own own':Ah}{P:Av}{H:Hs}
open Classical in
def qbj(h:HI w own P H)(wf:Wf H)(h1:1<=i)(Y:i<=H.m):VX Tryz.prog 68 #[pw (P.gt i)] w (Fu (H.tx i) w):=by
 obtain⟨v,hv⟩:=h.tx i h1 Y;obtain⟨_,_,_,c3,_,_,_,gl⟩:=hv.cells;have ab:=LH hv.af;have a6:=LH (wf.tx i h1 Y).sh;have ao:=LH hv.af.lt;have a1:(H.tx i).bW.length=(H.tx i).ag.length:=by unfold Bu.bW;simp
 have ap:=LH a1;generalize H.tx i=t at *;clear h wf hv a1;unfold pw;go_enter Tryz.func68,Tryz.ntmps68;go_wp2_with (at_range;refine q32 rfl _ 61 3 rfl Tryz.underlying61 rfl ab.o ?_;intro w0 a4 C af BJ)
 try go_frame
 go_loopw [3] (λv wr=>CmRel w t.af _ w.heap.size v wr) (λ_ wr=>wr.rangeLeft v.bs w.heap.size)
 case atStart=>exact⟨_,a4,[],C,(Z6 C.eD),VW _ _ _ _,List.nodup_nil,(λo=>by
  simp only[X9,false_iff];rintro ⟨h1,h2⟩;obtain⟨e,he⟩:=ZJ.1 h2;simp[Dl,he]at h1),af.bH,Z0⟩
 obtain⟨left,av,l,R,a0,E,T,F,a2,O⟩:=hrel;have a8:=LH R;clear R;have d:=LH E;clear E;have aa:=LH T;clear T;have x:=LH F;clear F;have y:=LH a2;clear a2;have M:=LH a0;clear a0;have ai:=LH O;clear O;go_wp2_with (at_next;refine q3m rfl _ rfl rfl a8.o ?_ ?_)
 ·intro ae;have A:=Gj (w.heap.size+1) l.length _ l wr d.o rfl (Z4 M.o);have a5:=LH A;clear A;obtain⟨A2,c2,ah,_,au⟩:=AM d.o;subst ah;go_wp2_with fail;refine a5.o.mono ?_;rintro e w9 ⟨rfl,f,Z⟩;have K:=Rf a6.o aa.o (λo=>by
   rw[x.o o];exact⟨λh=>h.2,λh=>⟨ae o (by
    obtain⟨e,he⟩:=ZJ.1 h;obtain rfl|rfl:=(a6.o o e he).1<;> exact Gu Z0 Z0),h⟩⟩)
  have r:l.length=t.ag.length:=by rw[<- ap.o,<- K];exact(List.length_mergeSort l).symm
  rw[K,r]at f;have G:Fu t w (ZY (WK A2 l.length c2)) w9:=⟨_,rfl,by rw[r];exact MJ f Z0,y.o.trans (Z.below (λi Y=>Z4 ((d.o.lt i Y).1)) (Z4 y.o.size))⟩
  have HF:=LH G;clear G Z f r K;go_wp2_with fail;go_ret;exact HF.o
 intro o v9 w3 I ar W c B X J Q ag;obtain⟨m,hm,rfl⟩:∃m,t.af o=Bs m/\v9=Wm eQ m:=by
  unfold Dl at c;cases e:t.af o with
  |none=>rw[e]at c;cases c
  |some m=>rw[e]at c;injection c with c;exact⟨m,rfl,c.symm⟩
 have a3:VI w.heap.size w w3:=y.o.trans (J.below (λi (Y:i=_)=>Z0) (Z4 y.o.size));have q:=J.own d.o (λb N (e:b=_)=>Z4 ((d.o.lt b N).1));have aq:=LH a3;clear a3;have a9:=LH q;clear q;have am:=LH hm;clear hm;have a7:=LH B;clear B c;have an:=LH W;clear W;rw[show BP.val o=Wm eQ o from rfl]at ag ⊢;have ac:=LH X;clear X J;have aj:=LH Q;clear Q;have ad:l.length<=100:=Z4 M.o;go_wp2_with (at_builtin;refine stop ?_)
 refine CD ?_;have z:w.heap.size+1<=w3.heap.size:=Z5 ai.o aj.o;refine Oq w3 _ rfl (.tmp 14) (.tmp 16) 26 rfl (w.heap.size+1) 3 (Wm eQ 0) 1 8 Tryz.underlying26 GX rfl Z2 _ _ _ #[Wm eQ o] rfl a9.o 1 rfl _ rfl rfl (by simp[Wx]) Zx Z0 z ?_;intro v' w8 S V;have u:VI (w.heap.size+1) w3 w8:=V.below (λb N=>(a9.o.lt b N).1) z;have g:Ed BP w8 v.bs w.heap.size 100 (Dl t.af) _ I:=a7.o.cg (u.block _ (Z4 ao.o)) (u.block _ Z0);have n:CmRel w t.af v.bs w.heap.size v' w8:=by
  refine⟨_,I,l++[o],g,by have:=M.o;have:=ac.o;simp;omega,Z6 S,?_,λp=>?_,aq.o.trans (u.mono Z0),Z4 u.size⟩;refine List.nodup_append.2 ⟨aa.o,Z3,λa ha b N=>?_⟩;simp at N;subst N;rintro rfl;have:=((x.o a).1 ha).1;rw[an.o]at this;cases this;rw[List.mem_append,x.o p,VU];by_cases e:p=o;subst e;simp[am.o];simp[e]
 have U:w8.rangeLeft v.bs w.heap.size<wr.rangeLeft v.bs w.heap.size:=by rw[g.left_eq,a8.o.left_eq];exact ac.o
 have ak:=LH n;have al:=LH U;clear n U g u S V;go_wp2_with fail;go_roundw
 case rel=>exact ak.o
 case measure=>exact al.o
end
def EV(l:List UInt8):Nat:=(l.map λb=>b.toNat).sum
def q79(x:Sx):Aa x=EV x % 2:=rfl
def PH{l:List UInt8}{b:UInt8}(h:l[i]? = Bs b):EV (l.take (i+1))=EV (l.take i)+b.toNat:=by unfold EV;rw[VV,h];simp
def sumB_le(l:List UInt8):EV l<=l.length*255:=by
 induction l with
 |nil=>simp[EV]
 |cons b l a=>
  have e:EV (b::l)=b.toNat+EV l:=by simp[EV]
  have:=b.toNat_lt;rw[e,Wi];omega
def RM(h:n<=1000000):Xt (n:Int)=n:=Xk _ ⟨Z0,Z0⟩
def RN{a b:Nat}(h:a<=1000000)(c:b<=1000000):Xt ((a:Int)+b)=((a+b:Nat):Int):=by rw[Xk _ ⟨Z0,Z0⟩];rfl
def u8_le(b:UInt8):b.toNat<=1000000:=Z4 b.toNat_lt
def sum_le{a:Nat}(h:a<=n*255)(c:n<=1000):a<=1000000:=by omega
def SmRel(x:ByteArray)(w:D0)(c a:S2)(wr:D0):Prop:=∃i:Nat,a=Wm eQ i/\i<=x.size/\c=Wm eQ (EV ((sx x).take i))/\wr=w
def Gm(h:HI w own P H)(q:H.c=3)(x:ByteArray)(B:x.size<=1000):VX Tryz.prog 60 #[pw P.g,ZV x] w λe w'=>e=ZY (Wm eQ (Aa (sx x)))/\w'=w:=by
 obtain⟨v,m⟩:=h.hs;obtain⟨_,y,_,_,E⟩:=m.cells;obtain⟨A,c,p,_,_⟩:=AM m.shr;rw[p,q]at y;clear h m p;unfold pw;go_enter Tryz.func60,Tryz.ntmps60;go_wp2_with fail;go_loopw [5,9] (SmRel x w) (λ_ u _=>x.size-(intOf u).toNat)
 case atStart=>exact⟨0,rfl,VG _,rfl,rfl⟩
 obtain⟨i,rfl,C,rfl,rfl⟩:=hrel;have d:(sx x).length=x.size:=by rw[J5]
 have a:=sumB_le ((sx x).take i);have n:((sx x).take i).length<=1000:=by simp;omega
 by_cases o:i<x.size
 ·have t:decide ((i:Int)<(x.size:Int))=VD:=ZA Z0;go_wp2_with fail;have r:(sx x)[i]? = Bs x[i]:=by
   unfold sx;rw[Array.getElem?_toList];exact Array.getElem?_eq_getElem o
  have l:=RM (u8_le x[i]);have g:=RN (sum_le a n) (u8_le x[i]);go_roundw
  case rel=>
   rw[l,g];exact⟨i+1,rfl,Z0,by rw[PH r],rfl⟩
  case measure=>simp[intOf];omega
 have t:decide ((i:Int)<(x.size:Int))=L1:=Z9 Z0;rw[VS Z0]at a ⊢;have f:((EV (sx x):Nat):Int).tmod 2=((Aa (sx x):Nat):Int):=by rw[q79];rfl
 have z:=LH f;rw[d]at a;clear f d;go_wp2_with fail;go_ret;exact⟨by rw[q79];rfl,rfl⟩
def Ka:(Tryz.prog.info? 45).map (λi=>(i.zero,i.size,i.bytes))=Bs (Bs (.agg #[ZV ⟨#[]⟩,ZV ⟨#[]⟩,ZX L1]),3,40):=by kernel_rfl
def Jh(k:Nat)(l:List Pr):List Pr:=l.filter λp=>Aa (sx p.key) == k
def Ta{k:Nat}{l:List Pr}(h:l[j]? = Bs p):Jh k (l.take (j+1))=if Aa (sx p.key) == k then Jh k (l.take j)++[p]else Jh k (l.take j):=by unfold Jh;rw[VV,h,List.filter_append];cases e:(Aa (sx p.key) == k)<;>simp[e]
def Uv(k:Nat)(l:List Pr)(w:D0)(c a:S2)(wr:D0):Prop:=
 ∃j:Nat,a=Wm eQ j/\j<=l.length/\wr.ownsRow w.heap.size 45 3 c (Jh k (l.take j)).length ((Jh k (l.take j)).flatMap Dj)/\VI w.heap.size w wr
def OfP(k:Nat)(l:List Pr)(w:D0)(e:WE)(w':D0):Prop:=
 ∃A c,e=ZY (WK A (Jh k l).length c)/\w'.ownsRow w.heap.size 45 3 (WK A (Jh k l).length c) (Jh k l).length ((Jh k l).flatMap Dj)/\VI w.heap.size w w'/\(A=B0->c=0)
def Kd{base e size k:Nat}{A:Option Addr}{xs:List S2}(h:w.ownsRow base e size (WK A n k) n xs):A=B0->k=0:=λc=>by
 obtain⟨a,_⟩|⟨g,cap,d,a,_⟩:=h.2;injection a;rw[c]at a;cases a
def of_any{k:Nat}(h:HI w own P H)(K:Wf H)(hc:H.c=3)(S:1<=i)(N:i<=H.m):VX Tryz.prog 95 #[pw P.g,pw (P.gt i),Wm eQ k] w (OfP k (H.tx i).ae w):=by
 obtain⟨v,J⟩:=h.tx i S N;obtain⟨_,_,c2,_,_,_,_,gl⟩:=J.cells;obtain⟨A,c,R,_,_⟩:=AM J.ae;rw[R]at c2;have HR:=LH (Rd.a7 (R▸J.ae));have HW:=LH (K.tx i S N).ps;have X:=(K.tx i S N).cd;have HH:=LH h;generalize (H.tx i).ae=l at *;clear h K J R;unfold pw;go_enter Tryz.func95,Tryz.ntmps95;go_wp2_with fail;go_loopw [7,15] (Uv k l w) (λ_ u _=>l.length-(intOf u).toNat)
 case atStart=>exact⟨0,rfl,VG _,VW _ _ _ _,VC _ _⟩
 obtain⟨j,rfl,hj,a,d⟩:=hrel;by_cases a0:(j:Int)<l.length
 ·obtain⟨gp,op,p,rfl,Q,q,p0,p1,p2⟩:=Gr.aN (w:=wr) (B:=w.heap.size) (A:=A) (n:=l.length) (l:=l) (k:=j) ⟨rfl,HR.o.below d⟩ Z0;have O:gp<wr.heap.size:=VF Q d.size;have f:=(VC wr.heap.size wr).alloc (Hi _) (eT #[ZV p.key,ZV p.val,ZX p.aR] 45);have m:=LH (Ae.b4 wr 45 #[ZV p.key,ZV p.val,ZX p.aR]);have y:=HW.o p (N2 q);have C:=Gm (HH.o.below (d.trans (f.mono d.size))) hc p.key (by have:=Ex y.1;rw[J5];omega);have I:=LH C;have g:=LH (Ta (k:=k) q);have T:=LH (Jc a f);have U:=LH (d.trans (f.mono d.size));have a1:(Jh k (l.take j)).length<=20:=VK (WC _ _) Zz;have M:=q79 (sx p.key);have o:=LH (show((Aa (sx p.key):Nat):Int)=k↔Aa (sx p.key)=k by omega);clear y q a d f C M;unfold pw at I;go_upto_region 5 with (fail)
  clear p0 p1 p2 O;generalize wr.alloc (eT #[ZV p.key,ZV p.val,ZX p.aR] 45)=w3 at *;generalize wr.heap.size=pb at *;have W:=m.o.cell 0;have q1:=m.o.cell 1;have V:=m.o.cell 2;have ql:=m.o.lt;simp only[NW,Ft,O0]at W q1 V;go_wp2_with (at_builtin;refine stop ?_)
  refine I.o.mono ?_;rintro e w4 ⟨rfl,rfl⟩;by_cases x:Aa (sx p.key)=k
  ·have Y:(((Aa (sx p.key):Nat):Int) == (k:Int))=VD:=by rw[beq_iff_eq];exact o.o.2 x
   have r:=LH (g.o.trans (Z8 (by rw[beq_iff_eq];exact x)));clear x g o;go_wp2_with (at_builtin;refine stop ?_)
   refine CD ?_;have z:=U.o.size;refine Oq w4 _ rfl (.tmp 25) (.tmp 27) 67 rfl w.heap.size 45 _ 3 40 Tryz.underlying67 Ka rfl Z2 _ _ _ #[ZV p.key,ZV p.val,ZX p.aR] rfl T.o 1 rfl _ rfl rfl (by simp[Wx]) Zx Z0 z ?_;intro v' w8 E F;have t:=LH (show Uv k l w v' (Wm eQ ((j+1:Nat):Int)) w8 from⟨j+1,rfl,Z0,by rw[r.o,VJ,List.flatMap_append];simpa [Dj]using E,U.o.trans (F.below (λb d=>(T.o.lt b d).1) z)⟩);clear E F Y W q1 V ql;go_wp2_with fail;go_roundw;exact t.o;simp[intOf];omega
  have Y:(((Aa (sx p.key):Nat):Int) == (k:Int))=L1:=by rw[beq_eq_false_iff_ne];exact λe=>x (o.o.1 e)
  have r:=LH (g.o.trans (Z7 (by rw[beq_iff_eq];exact x)));have t:=LH (show Uv k l w u7 (Wm eQ ((j+1:Nat):Int)) w4 from⟨j+1,rfl,Z0,by rw[r.o];exact T.o,U.o⟩);clear x g o;go_wp2_with fail;go_roundw;exact t.o;simp[intOf];omega
 obtain rfl:j=l.length:=by omega
 rw[WU]at a;obtain⟨Z,G,rfl,_,_⟩:=AM a;have HF:=LH (show OfP k l w (ZY (WK Z (Jh k l).length G)) wr from⟨Z,G,rfl,a,d,Kd a⟩);clear a d;go_wp2_with fail;go_ret;exact HF.o
def Ge(h:Dr s t):BZ t:=by obtain h|h|h|h|h:=h<;> subst h<;>exact⟨Z3,Z3,λ_=>Z3⟩
def Sv(h:R9 t):BZ t:=by obtain⟨i,h⟩:=h;subst h;exact⟨Z3,Z3,λ_=>Z3⟩
def DH(h:t=.tx i):BZ t:=by subst h;exact⟨Z3,Z3,λ_=>Z3⟩
def st_hs(h:t=.hs):BZ t:=by subst h;exact⟨Z3,Z3,λ_=>Z3⟩
def q91(h:SM t):BZ t:=by obtain h|h:=h<;> subst h<;>exact⟨Z3,Z3,λ_=>Z3⟩
def Ol(h:t=.nd s j):BZ t:=by subst h;exact⟨Z3,Z3,λ_=>Z3⟩
def Sw(h:Db s t):BZ t:=h.elim Ge Sv
def Ic(h:NY s t):BZ t:=by obtain⟨j,h⟩|h|h:=h;exact Ol h;exact q91 h;exact Sw h
def Cf(P:Av)(own:Ah)(H':Hs)(w w':D0):Prop:=∃own',HI w' own' P H'/\AC w own w' own'
def To(d:Nd)(c:Cm)(b:Bool):(d.add c b).1=(d.add c L1).1/\(d.add c b).2.2=(d.add c L1).2.2:=by unfold Nd.add;split;exact⟨rfl,rfl⟩;split<;>exact⟨rfl,rfl⟩
def O4(H:Hs)(s j:Nat)(c:Cm)(b:Bool):(H.add s j c b).2=(H.add s j c L1).2:=by obtain⟨d,a⟩:=To ((H.sh s).nd j) c b;unfold Hs.add;rw[d,a];split<;>rfl
def tellC(H:Hs)(i:Nat)(kind:Int):Cm:=⟨kind,i,if kind=3 then(H.tx i).ah else 0,[]⟩
def J6{H:Hs}{k:Nat}{kind:Int}(h:H.head k=B0):H.aC i kind k=H:=by unfold Hs.aC;rw[h]
def Jd{H:Hs}{k:Nat}{kind:Int}(h:H.head k=Bs j):H.aC i kind k=if place ((H.sh k).nd j).a4 kind i=B0/\place ((H.sh k).nd j).a4 2 i≠B0 then(H.add k j (tellC H i kind) L1).2 else H:=by unfold Hs.aC;rw[h];rfl
def q5e{kind id:Int}(h:place l kind id=B0):qam l kind id = -1:=by unfold qam;rw[h]
def q5d{kind id:Int}{p:Nat}(h:place l kind id=Bs p):qam l kind id=p:=by unfold qam;rw[h]
def q61{H:Hs}(h:H.head s=Bs j):j<H.n:=by have:=WY h;unfold Bv.ai at this;exact ZH.1 (YO.1 this).1
def Dt(H:Hs)(s j:Nat)(c:Cm)(b:Bool):(H.add s j c b).2.n=H.n/\(H.add s j c b).2.c=H.c/\(H.add s j c b).2.m=H.m/\(H.add s j c b).2.ah=H.ah/\∀i,((H.add s j c b).2.tx i).aa=(H.tx i).aa/\((H.add s j c b).2.tx i).ae=(H.tx i).ae/\((H.add s j c b).2.tx i).af=(H.tx i).af/\((H.add s j c b).2.tx i).aw=(H.tx i).aw/\((H.add s j c b).2.tx i).ah=(H.tx i).ah:=by unfold Hs.add;split;exact⟨rfl,rfl,rfl,rfl,λ_=>⟨rfl,rfl,rfl,rfl,rfl⟩⟩;have hs:=BK.take ((H.au s j (((H.sh s).nd j).add c b).1.1).aO (((H.sh s).nd j).add c b).1.2) s;exact⟨hs.n,hs.c,hs.m,hs.ah,hs.tx⟩
def Ee(H:Hs)(i:Nat)(kind:Int)(k:Nat):(H.aC i kind k).n=H.n/\(H.aC i kind k).c=H.c/\(H.aC i kind k).m=H.m/\(H.aC i kind k).ah=H.ah/\∀a,((H.aC i kind k).tx a).aa=(H.tx a).aa/\((H.aC i kind k).tx a).ae=(H.tx a).ae/\((H.aC i kind k).tx a).af=(H.tx a).af/\((H.aC i kind k).tx a).aw=(H.tx a).aw/\((H.aC i kind k).tx a).ah=(H.tx a).ah:=by
 cases h:H.head k with
 |none=>rw[J6 h];exact⟨rfl,rfl,rfl,rfl,λ_=>⟨rfl,rfl,rfl,rfl,rfl⟩⟩
 |some j=>
  rw[Jd h];split;exact Dt _ _ _ _ _;exact⟨rfl,rfl,rfl,rfl,λ_=>⟨rfl,rfl,rfl,rfl,rfl⟩⟩
def Wf.dA{H:Hs}(h:Wf H)(f:1<=i)(c:i<=H.m)(kind:Int):Eo (tellC H i kind):=by have:=h.cr;have g:=h.dY i f c;have d:=h.bU;refine⟨⟨by show(1:Int)<=(i:Int);omega,by show(i:Int)<=60;omega⟩,?_,by show 0<=20;omega,λp a=>by cases a⟩;show 0<=(if kind=3 then(H.tx i).ah else 0)/\(if kind=3 then(H.tx i).ah else 0)<=60;split<;>omega
def Wf.aC{H:Hs}(h:Wf H){i k:Nat}(d:1<=i)(c:i<=H.m)(a:k<H.c)(kind:Int):Wf (H.aC i kind k):=by
 cases e:H.head k with
 |none=>rw[J6 e];exact h
 |some j=>
  rw[Jd e];split;exact h.add a (q61 e) (h.dA d c kind) L1;exact h
def telld(H:Hs)(i:Nat)(kind:Int)(ks:List Nat):Hs:=ks.foldl (Hs.aC i kind) H
def UZ(i:Nat)(kind:Int):∀(ks:List Nat)(H:Hs),(telld H i kind ks).n=H.n/\(telld H i kind ks).c=H.c/\(telld H i kind ks).m=H.m/\(telld H i kind ks).ah=H.ah/\∀a,((telld H i kind ks).tx a).aa=(H.tx a).aa/\((telld H i kind ks).tx a).ae=(H.tx a).ae/\((telld H i kind ks).tx a).af=(H.tx a).af/\((telld H i kind ks).tx a).aw=(H.tx a).aw/\((telld H i kind ks).tx a).ah=(H.tx a).ah
 |[],H=>⟨rfl,rfl,rfl,rfl,λ_=>⟨rfl,rfl,rfl,rfl,rfl⟩⟩
 |k::ks,H=>by
  obtain⟨n,m,a3,l,a5⟩:=Ee H i kind k;obtain⟨h,g,f,d,c⟩:=UZ i kind ks (H.aC i kind k);exact⟨h.trans n,g.trans m,f.trans a3,d.trans l,λa=>⟨(c a).1.trans (a5 a).1,(c a).2.1.trans (a5 a).2.1,(c a).2.2.1.trans (a5 a).2.2.1,(c a).2.2.2.1.trans (a5 a).2.2.2.1,(c a).2.2.2.2.trans (a5 a).2.2.2.2⟩⟩
def Wf.br{i:Nat}{kind:Int}(a:1<=i):∀(ks:List Nat) {H:Hs},Wf H->i<=H.m->(∀k∈ks,k<H.c)->Wf (telld H i kind ks)
 |[],_,h,_,_=>h
 |k::ks,H,h,hi,hk=>by
  obtain⟨_,d,a3,_⟩:=Ee H i kind k;exact Wf.br a ks (h.aC a hi (hk k (VB ..)) kind) (by rw[a3];exact hi) (λq c=>by rw[d];exact hk q (VE _ c))
def Mi{H:Hs}{k:Nat}{kind:Int}(h:ks[q]? = Bs k):telld H i kind (ks.take (q+1))=(telld H i kind (ks.take q)).aC i kind k:=by unfold telld;rw[VV,h,WV];rfl
def Hg(P:Av)(own:Ah)(H:Hs)(i:Nat)(kind:Int)(ks:List Nat)(a:D0)(v:S2)(wr:D0):Prop:=∃q:Nat,v=Wm eQ q/\q<=ks.length/\Cf P own (telld H i kind (ks.take q)) a wr
def Is{base k:Nat}(h:w.ownsRow base 3 1 V n ((ks.map λk:Nat=>(k:Int)).map (Wm eQ)))(f:k<n)(o:n=ks.length):∃g c,V=WK (Bs ⟨g,0,B0⟩) n c/\g<w.heap.size/\∃x:Nat,ks[k]? = Bs x/\w.cell? ⟨g,k,B0⟩=Bs (Wm eQ x):=by obtain⟨g,c,e,l,u,a,m⟩:=US h f;have d:ks[k]? = Bs ks[k]:=K0 Z0;rw[VQ,VQ,d]at a;simp only[WA,VN]at a;exact⟨g,c,e,l,ks[k],d,by rw[m,<- a]⟩
def q7i{kind:Int}(h:HI w own P H)(wf:Wf H)(hc:H.c=3)(h1:1<=i)(hi:i<=H.m):VX Tryz.prog 67 #[pw P.g,pw (P.gt i),Wm eQ kind] w λe w'=>e=ZY (ZZ #[])/\Cf P own (H.b3 i kind) w w':=by
 have aq:=LH (qbj h wf h1 hi);have HH:=LH h;have aM:=LH wf;have aN:=LH (show H.b3 i kind=telld H i kind (H.tx i).ag from rfl);have aE:=LH (λk (hk:k∈(H.tx i).ag)=>Cb hk);have aW:=qbi (H.tx i);unfold Fu Bu.bW at aq;generalize (H.tx i).ag=ks at *;clear h wf;unfold pw at *;go_enter Tryz.func67,Tryz.ntmps67;go_wp2_with fail;refine aq.o.mono ?_;rintro e w1 ⟨V,rfl,G,ad⟩;obtain⟨A,c,rfl,_,_⟩:=AM G;have aD:=LH G;have aP:=LH ad;have aO:=LH (HH.o.below ad);have ap:=LH (λb (hb:(WK A ks.length c).ownBlock=Bs b)=>HH.o.free (G.lt b hb).1);clear G ad aq HH;go_wp2_with fail;go_loopw [15] (Hg P own H i kind ks w1) (λv _=>ks.length-(intOf v).toNat)
 case atStart=>exact⟨0,rfl,VG _,own,aO.o,HZ.refl _ _ _⟩
 obtain⟨q,rfl,hq,d,E,X⟩:=hrel;by_cases aT:(q:Int)<ks.length
 ·obtain⟨r,c',hV,hr,k,hk,aI⟩:=Is (RB aD.o ap.o X) (k:=q) Z0 rfl;injection hV with hA _ hcp;subst hA hcp;have aV:=aE.o k (N2 hk);have Z:=LH (Mi (H:=H) (i:=i) (kind:=kind) hk);have aa:=UZ i kind (ks.take q) H;have O:Wf (telld H i kind (ks.take q)):=aM.o.br h1 _ hi (λa ha=>Z4 (aE.o a (WG ha)));have aJ:(telld H i kind (ks.take q)).c=3:=aa.2.1.trans hc;have aS:(telld H i kind (ks.take q)).m=H.m:=aa.2.2.1;generalize telld H i kind (ks.take q)=H2 at *;obtain⟨vh,a9⟩:=E.hs;obtain⟨_,c3,_,_,gl⟩:=a9.cells;obtain⟨r3,k3,az,aR,ay⟩:=a9.dh (s:=k) Z0;rw[az,aJ]at c3;have aU:(k:Int)<3:=by omega
  have an:=LH (q83 E O (s:=k) Z0);unfold pw at ay an;have aH:=LH E;have aB:=LH X;have K:=LH O;clear E X O hk a9 az aa;go_wp2_with fail;refine an.o.mono ?_;rintro e w3 ⟨rfl,ac⟩;have a2:=LH (aH.o.below ac);have ah:=LH (aB.o.trans (HZ.below d ac));clear aI c3 ay gl aH aB an ac;rcases a4:H2.head k with _|j
  ·have o:=LH (show Hg P own H i kind ks w1 (Wm eQ ((q+1:Nat):Int)) w3 from⟨q+1,rfl,Z0,d,by rw[Z.o,J6 a4];exact a2.o,ah.o⟩);unfold Dw;go_wp2_with fail;go_roundw;exact o.o;simp[intOf];omega
  have ab:=q61 a4;obtain⟨C,V2,L,hN,aL⟩:=a2.o.nd k j Z0 ab;have aF:=LH (qaz hN);have au:=hN.a4;have aX:=hN.len;obtain⟨vt,ar⟩:=a2.o.tx i h1 Z0;obtain⟨d0,_,_,_,_,d5,_,dl⟩:=ar.cells;have HT:=LH (Jd (i:=i) (kind:=kind) a4);rw[<- au]at HT;clear hN aL ar a4;unfold Dw pw;go_wp2_with fail;refine aF.o.mono ?_;rintro e w4 ⟨A5,k5,rfl,y,M,_⟩;have am:=LH (a2.o.below M);have ag:=LH (ah.o.trans (HZ.below d M));have ax:=(M.cell (p:=⟨P.gt i,0,B0⟩) dl).trans d0;have a5:=VF dl M.size;have aw:=(M.cell (p:=⟨P.gt i,5,B0⟩) dl).trans d5;have a1:=LH (q7s 0 _ _ L kind i w4 y rfl Z0);have aj:=LH y;clear d0 d5 dl y M aF a2 ah;rcases R:place (AQ L) kind i with _|p1
  ·rw[q5e R]at a1;go_wp2_with fail;refine a1.o.mono ?_;rintro e w5 ⟨rfl,z⟩;have al:=LH (am.o.below z);have af:=LH (ag.o.trans (HZ.below d z));have a8:=(z.cell (p:=⟨P.gt i,0,B0⟩) a5).trans ax;have a7:=(z.cell (p:=⟨P.gt i,5,B0⟩) a5).trans aw;have J:=VF a5 z.size;have a0:=LH (q7s 0 _ _ L 2 i w5 (Jc aj.o z) rfl Z0);clear z am ag ax aw a5 a1;rcases Q:place (AQ L) 2 i with _|p2
   ·rw[q5e Q]at a0;have ai:=LH (HT.o.trans (Z7 (λh=>h.2 Q)));go_wp2_with fail;refine a0.o.mono ?_;rintro e u ⟨rfl,f⟩;have o:=LH (show Hg P own H i kind ks w1 (Wm eQ ((q+1:Nat):Int)) u from⟨q+1,rfl,Z0,d,by rw[Z.o,ai.o];exact al.o.below f,af.o.trans (HZ.below d f)⟩);clear f;go_wp2_with fail;go_roundw;exact o.o;simp[intOf];omega
   rw[q5d Q]at a0;have aC:=LH (HT.o.trans (Z8 ⟨R,by rw[Q];simp⟩));go_wp2_with fail;refine a0.o.mono ?_;rintro e u ⟨rfl,f⟩;have aG:=LH (al.o.below f);have aA:=LH (af.o.trans (HZ.below d f));have aQ:=(f.cell (p:=⟨P.gt i,0,B0⟩) J).trans a8;have a6:=(f.cell (p:=⟨P.gt i,5,B0⟩) J).trans a7;have I:=VF J f.size;clear f al af a8 a7 J a0 R Q;by_cases S:kind=3
   ·
    have g:tellC H2 i kind=⟨kind,i,(H2.tx i).ah,[]⟩:=by unfold tellC;rw[Z8 S]
    have x:=K.o.dA h1 (show i<=H2.m by omega) kind;rw[g]at x;have Y:=aC;rw[g]at Y;have a3:=LH (λW (hW:HI W d P H2)=>q9m hW K.o (show k<H2.c by omega) ab ⟨⟨kind,i,(H2.tx i).ah,[]⟩,B0,0,0⟩ ⟨rfl,Rd.bo W W.heap.size 3 B0⟩ (λ_=>rfl) (VG _) x);have n:=(VC u.heap.size u).alloc (Hi _) (eT #[Wm eQ kind,Wm eQ i,Wm eQ (H2.tx i).ah,WK B0 0 0] 69);have T:=Ae.b4 u 69 #[Wm eQ kind,Wm eQ i,Wm eQ (H2.tx i).ah,WK B0 0 0];have l:=n;have t:=T;have ak:=LH (aG.o.below l);have ae:=LH (aA.o.trans (HZ.below d l));have m:=LH t;have t0:=(n.cell (p:=⟨P.gt i,5,B0⟩) I).trans a6;have aK:u.heap.size<(u.alloc (eT #[Wm eQ kind,Wm eQ i,Wm eQ (H2.tx i).ah,WK B0 0 0] 69)).heap.size:=by simp
    have av:=VF I n.size;subst S;have F:=a3.o _ ak.o;unfold pw at F;have ao:=LH F;clear F g x n T l t a3;go_upto_region 11 with (fail)
    clear t0;generalize (u.alloc _)=w7 at *;have c0:=m.o.cell 0;have c1:=m.o.cell 1;have c2:=m.o.cell 2;have c3:=m.o.cell 3;have cl:=m.o.lt;simp only[NW,Ft,O0]at c0 c1 c2 c3;go_wp2_with fail;refine ao.o.mono ?_;rintro e w8 ⟨b8,N,rfl,B,U⟩;rw[O4]at B;have o:=LH (show Hg P own H i 3 ks w1 (Wm eQ ((q+1:Nat):Int)) w8 from⟨q+1,rfl,Z0,N,by rw[Z.o,Y.o];exact B,ae.o.trans (U.mono (λ_ h=>Ic h))⟩);clear B U c0 c1 c2 c3 cl;go_wp2_with fail;go_roundw;exact o.o;simp[intOf];omega
   have g:tellC H2 i kind=⟨kind,i,0,[]⟩:=by unfold tellC;rw[Z7 S]
   have x:=K.o.dA h1 (show i<=H2.m by omega) kind;rw[g]at x;have Y:=aC;rw[g]at Y;have a3:=LH (λW (hW:HI W d P H2)=>q9m hW K.o (show k<H2.c by omega) ab ⟨⟨kind,i,0,[]⟩,B0,0,0⟩ ⟨rfl,Rd.bo W W.heap.size 3 B0⟩ (λ_=>rfl) (VG _) x);have n:=(VC u.heap.size u).alloc (Hi _) (eT #[Wm eQ kind,Wm eQ i,Wm eQ 0,WK B0 0 0] 69);have T:=Ae.b4 u 69 #[Wm eQ kind,Wm eQ i,Wm eQ 0,WK B0 0 0];have l:=n;have t:=T;have ak:=LH (aG.o.below l);have ae:=LH (aA.o.trans (HZ.below d l));have m:=LH t;have t0:=(n.cell (p:=⟨P.gt i,5,B0⟩) I).trans a6;have aK:u.heap.size<(u.alloc (eT #[Wm eQ kind,Wm eQ i,Wm eQ 0,WK B0 0 0] 69)).heap.size:=by simp
   have av:=VF I n.size;have dk:(kind == 3)=L1:=Z6 S;clear S;have F:=a3.o _ ak.o;unfold pw at F;have ao:=LH F;clear F g x n T l t a3;go_upto_region 11 with (fail)
   clear t0;generalize (u.alloc _)=w7 at *;have c0:=m.o.cell 0;have c1:=m.o.cell 1;have c2:=m.o.cell 2;have c3:=m.o.cell 3;have cl:=m.o.lt;simp only[NW,Ft,O0]at c0 c1 c2 c3;go_wp2_with fail;refine ao.o.mono ?_;rintro e w8 ⟨b8,N,rfl,B,U⟩;rw[O4]at B;have o:=LH (show Hg P own H i kind ks w1 (Wm eQ ((q+1:Nat):Int)) w8 from⟨q+1,rfl,Z0,N,by rw[Z.o,Y.o];exact B,ae.o.trans (U.mono (λ_ h=>Ic h))⟩);clear B U c0 c1 c2 c3 cl;go_wp2_with fail;go_roundw;exact o.o;simp[intOf];omega
  rw[q5d R]at a1;have ai:=LH (HT.o.trans (Z7 (λh=>by rw[R]at h;cases h.1)));go_wp2_with fail;refine a1.o.mono ?_;rintro e u ⟨rfl,f⟩;have o:=LH (show Hg P own H i kind ks w1 (Wm eQ ((q+1:Nat):Int)) u from⟨q+1,rfl,Z0,d,by rw[Z.o,ai.o];exact am.o.below f,ag.o.trans (HZ.below d f)⟩);clear f;go_wp2_with fail;go_roundw;exact o.o;simp[intOf];omega
 obtain rfl:q=ks.length:=by omega
 rw[WU]at E;have HF:=LH (show Cf P own (H.b3 i kind) w wr from⟨d,by rw[aN.o];exact E,(HZ.below own aP.o).trans X⟩);clear E X;go_wp2_with fail
 go_end0
 exact⟨rfl,HF.o⟩
def UT(H:Hs)(i:Nat)(t:Bu):(H.ay i t).tx i=t:=Aq _ _ _
def Wf.ay{H:Hs}(h:Wf H){i:Nat}{t:Bu}(a:FD t)(c:t.ah=(H.tx i).ah):Wf (H.ay i t):=by refine h.of rfl rfl rfl rfl h.nd h.tab h.sto (λ_ _=>rfl) h.net rfl (λk f d=>?_) (λk=>?_);show FD (Af H.tx i t k);by_cases e:k=i;subst e;rw[Aq];exact a;rw[Ay e];exact h.tx k f d;show(Af H.tx i t k).ah=_;by_cases e:k=i;subst e;rw[Aq];exact c;rw[Ay e]
def Wf.bF{H:Hs}(h:Wf H){s:Nat}(hs:s<H.c)(tx:Int):Wf (H.bF s tx):=by have a:=BK.bF H s tx;have d:=(h.ej hs).bF tx;refine h.of a.n a.c a.m a.ah (λk j c f=>?_) (λk c=>?_) (λk c=>?_) (λk c=>?_) (by rw[a.net];exact h.net) (by rw[a.net]) (λi l g=>(h.tx i l g).sub rfl rfl rfl XI) (λi=>(a.tx i).2.2.2.2);by_cases e:k=s;rw[e,a.nd];exact h.nd s j hs f;rw[a.sh k e];exact h.nd k j c f;by_cases e:k=s;rw[e];exact d.tab;rw[a.sh k e];exact h.tab k c;by_cases e:k=s;rw[e];exact d.sto;rw[a.sh k e];exact h.sto k c;by_cases e:k=s;rw[e,a.aq];rw[a.sh k e]
def reld(H:Hs)(i:Nat)(ks:List Nat):Hs:=ks.foldl (λ(H:Hs) k=>H.bF k i) H
def PV{H:Hs}{k:Nat}(h:ks[q]? = Bs k):reld H i (ks.take (q+1))=(reld H i (ks.take q)).bF k i:=by unfold reld;rw[VV,h,WV];rfl
def Gv(i:Nat):∀(ks:List Nat)(H:Hs),(reld H i ks).c=H.c/\(reld H i ks).n=H.n/\(reld H i ks).m=H.m/\(reld H i ks).ah=H.ah/\∀a,((reld H i ks).tx a).aa=(H.tx a).aa/\((reld H i ks).tx a).ae=(H.tx a).ae/\((reld H i ks).tx a).af=(H.tx a).af/\((reld H i ks).tx a).aw=(H.tx a).aw/\((reld H i ks).tx a).ah=(H.tx a).ah
 |[],H=>⟨rfl,rfl,rfl,rfl,λ_=>⟨rfl,rfl,rfl,rfl,rfl⟩⟩
 |k::ks,H=>by
  have hs:=BK.bF H k i;obtain⟨h,g,f,d,c⟩:=Gv i ks (H.bF k i);exact⟨h.trans hs.c,g.trans hs.n,f.trans hs.m,d.trans hs.ah,λa=>⟨(c a).1.trans (hs.tx a).1,(c a).2.1.trans (hs.tx a).2.1,(c a).2.2.1.trans (hs.tx a).2.2.1,(c a).2.2.2.1.trans (hs.tx a).2.2.2.1,(c a).2.2.2.2.trans (hs.tx a).2.2.2.2⟩⟩
def Wf.cK(i:Nat):∀(ks:List Nat) {H:Hs},Wf H->(∀k∈ks,k<H.c)->Wf (reld H i ks)
 |[],_,h,_=>h
 |k::ks,H,h,hk=>Wf.cK i ks (h.bF (hk k (VB ..)) i) (λq a=>by rw[(BK.bF H k i).c];exact hk q (VE _ a))
def Hs.an(H:Hs)(i:Nat):Hs:=H.ay i {H.tx i with aa:=4,ak:=[]}
def I9(H:Hs)(i:Nat):H.a3 i=(reld (H.an i) i (H.tx i).ag).b3 i 4:=rfl
def Wf.an{H:Hs}(h:Wf H){i:Nat}(c:1<=i)(a:i<=H.m):Wf (H.an i):=h.ay ((h.tx i c a).sub rfl rfl rfl (List.nil_sublist _)) rfl
def Wf.b3{H:Hs}(h:Wf H)(f:H.c=3){i:Nat}(d:1<=i)(c:i<=H.m)(kind:Int):Wf (H.b3 i kind):=h.br d _ c (λk a=>Z4 (Cb a))
def Wf.a3{H:Hs}(h:Wf H)(g:H.c=3){i:Nat}(d:1<=i)(c:i<=H.m):Wf (H.a3 i):=by rw[I9];have a:=Gv i (H.tx i).ag (H.an i);exact((h.an d c).cK i _ (λk f=>by show k<H.c;have:=Cb f;omega)).b3 (a.1.trans g) d (by rw[a.2.2.1];exact c) 4
def AbRel(P:Av)(own:Ah)(c:Hs)(i:Nat)(ks:List Nat)(a:D0)(v:S2)(wr:D0):Prop:=∃q:Nat,v=Wm eQ q/\q<=ks.length/\Cf P own (reld c i (ks.take q)) a wr
def q4g(h:HI w own P H)(wf:Wf H)(hc:H.c=3)(G:1<=i)(hi:i<=H.m):VX Tryz.prog 40 #[pw P.g,pw (P.gt i)] w λe w'=>e=ZY (ZZ #[])/\Cf P own (H.a3 i) w w':=by
 obtain⟨v,E⟩:=h.tx i G hi;have f1:=E.al.frozen 1;have f8:=E.al.frozen 8;obtain⟨_,k1,_,_,_,_,k8,gl⟩:=E.cells;obtain⟨A8,c8,a9,_,_⟩:=AM E.ak;have a1:=E.cZ 4;have a0:=a1.cX (Ext.refl own _) (Fr.refl _ _) (VW _ _ _ _) (λb hb=>by cases hb) (V':=WK B0 0 0) (l':=[]);have y:Fr (OS own (λt=>t=.tx i)) w ((w.setCell ⟨P.gt i,1,B0⟩ (Wm eQ 4)).setCell ⟨P.gt i,8,B0⟩ (WK B0 0 0)):=(((Fr.refl _ w).setCell (p:=⟨P.gt i,1,B0⟩) (.inl ⟨_,E.gt,rfl⟩) _).setCell (p:=⟨P.gt i,8,B0⟩) (.inl ⟨_,E.gt,rfl⟩) _)
 have f:=h.setTx' y (Ext.refl own _) (λb hb=>VF (h.lt b hb) y.size) ⟨_,a0⟩;have B:=LH (show HI _ own P (H.an i)from f);have ad:=LH (show AC w own _ own from⟨Ext.refl own _,y.mono (λ_ _ ⟨t,a,b⟩=>⟨t,a,DH b⟩),λ_ _ h=>h⟩);have Q:=LH (wf.an G hi);have z:=qbj B.o Q.o G hi;have a2:((H.an i).tx i).ag=(H.tx i).ag:=by unfold Hs.an;rw[UT];rfl
 unfold Fu Bu.bW at z;rw[a2]at z;have ah:=LH z;have R:=LH (λk (hk:k∈(H.tx i).ag)=>Cb hk);have aB:=qbi (H.tx i);have aq:=LH (I9 H i);rw[a9]at k8;generalize (H.tx i).ag=ks at *;have a4:(H.an i).c=3:=hc;have ai:(H.an i).m=H.m:=rfl;clear h wf E a1 a0 y f z a2 a9;unfold pw at *;go_enter Tryz.func40,Tryz.ntmps40;go_wp2_with fail;refine ah.o.mono ?_;rintro e w1 ⟨V,rfl,o,M⟩;obtain⟨A,c,rfl,_,_⟩:=AM o;have ae:=LH o;have ap:=LH (B.o.below M);have am:=LH (ad.o.trans (HZ.below own M));have T:=LH (λb (hb:(WK A ks.length c).ownBlock=Bs b)=>B.o.free (o.lt b hb).1);clear o M ah B ad k1 k8 f1 f8 gl;go_wp2_with fail;go_loopw [16] (AbRel P own (H.an i) i ks w1) (λv _=>ks.length-(intOf v).toNat)
 case atStart=>exact⟨0,rfl,VG _,own,ap.o,HZ.refl _ _ _⟩
 obtain⟨q,rfl,hq,Y,f,x⟩:=hrel;by_cases ay:(q:Int)<ks.length
 ·obtain⟨r,c',hV,hr,k,hk,aj⟩:=Is (RB ae.o T.o x) (k:=q) Z0 rfl;injection hV with hA _ hcp;subst hA hcp;have aA:=R.o k (N2 hk);have an:=LH (PV (H:=H.an i) (i:=i) hk);have m:=Gv i (ks.take q) (H.an i);have d:Wf (reld (H.an i) i (ks.take q)):=Q.o.cK i _ (λa ha=>Z4 (R.o a (WG ha)));have ak:(reld (H.an i) i (ks.take q)).c=3:=m.1.trans a4;have ax:(reld (H.an i) i (ks.take q)).m=H.m:=m.2.2.1.trans ai;generalize reld (H.an i) i (ks.take q)=H2 at *;obtain⟨vh,I⟩:=f.hs;obtain⟨_,c3,_,_,gl⟩:=I.cells;obtain⟨r3,k3,a8,aw,a3⟩:=I.dh (s:=k) Z0;rw[a8,ak]at c3;have az:(k:Int)<3:=by omega
  obtain⟨vt,Z⟩:=f.tx i G Z0;have t0:wr.drew.cell? ⟨P.gt i,0,B0⟩=Bs (Wm eQ i):=Z.cells.1;have J:k<H2.c:=by omega
  have af:=LH (q60 (f.below (VC wr.heap.size wr).drew) J i (Gu Z0 (Z4 d.cr)) (d.tab k J));have ag:=LH (d.ej J);have O:=LH (x.trans (HZ.below Y (VC wr.heap.size wr).drew));unfold pw at a3;clear f x d hk I a8 m Z;go_upto_region 6 with (fail)
  clear aj c3 a3 gl;refine nW ?_;refine CR (λW=>W.cell? ⟨P.gt i,0,B0⟩=Bs (Wm eQ i)) 10 (λ_ _ _ _ _ h=>h) (λg=>?_);have l:=t0;refine nD 0 [10] g l ?_;refine nD 1 [10] g l ?_;refine nD 2 [3,4,9,10] g l ?_;refine nD 3 [4,9,10] g l ?_;refine nD 4 [9,10] g l ?_;refine nD 5 [6,7,8,9,10] g l ?_;refine nD 6 [7,8,9,10] g l ?_;refine nD 7 [8,9,10] g l ?_;refine nD 8 [9,10] g l ?_;clear l t0;refine nG 9 (λKK hK=>?_);go_simp;refine af.o.mono ?_;rintro e w7 ⟨V7,gs,ar,rfl,n,u,au,F,N,a7⟩;obtain⟨A7,aC,rfl,_,_⟩:=AM n;obtain⟨av,C⟩:=N.tx i G (show i<=H2.m by omega);have ac:=C.cells.1;have K:=q7c (s:=k) N (VK ag.o.m Z0) (λa G h2=>ag.o.wn a G h2) n u Z0;rw[F]at K;have S:=LH K;have al:=LH (O.o.trans (a7.mono (λ_ h=>Ge h)));unfold pw at S;clear K n u N F a7 af C;go_simp;refine hK _ _ (λ_=>ac) ?_;clear hK KK ac;refine nG 10 (λKK hK=>?_);go_simp;refine S.o.mono ?_;rintro e w8 ⟨rfl,X,ab,a6⟩;go_simp;refine hK _ _ nZ ?_;clear hK KK;refine nX ?_;clear g S;have ao:=LH (show AbRel P own (H.an i) i ks w1 (Wm eQ ((q+1:Nat):Int)) w8 from⟨q+1,rfl,Z0,X,by rw[an.o];exact ab,al.o.trans (a6.mono (λ_ h=>Sv h))⟩);clear ab a6;go_wp2_with fail;go_roundw;exact ao.o;simp[intOf];omega
 obtain rfl:q=ks.length:=by omega
 rw[WU]at f;have m:=Gv i ks (H.an i);have d:Wf (reld (H.an i) i ks):=Q.o.cK i _ (λa ha=>Z4 (R.o a ha));have HT:=LH (q7i (kind:=4) f d (m.1.trans a4) G (show i<=(reld (H.an i) i ks).m by rw[m.2.2.1];exact hi));unfold pw at HT;have O:=LH (am.o.trans x);clear f x d m;go_wp2_with fail;refine HT.o.mono ?_;rintro e w9 ⟨rfl,U,aa,a5⟩;have HF:=LH (show Cf P own (H.a3 i) w w9 from⟨U,by rw[aq.o];exact aa,O.o.trans a5⟩);clear aa a5;go_wp2_with fail
 go_end0
 exact⟨rfl,HF.o⟩
def q8t{i:Nat}{p q:Nat->Bool}(h:p i=L1)(g:q i=VD):∀{l:List Nat},l.Nodup->i∈l->(∀k∈l,k≠i->q k=p k)->(l.filter q).length=(l.filter p).length+1
 |[],_,c,_=>by cases c
 |k::l,hn,c,he=>by
  obtain⟨n,o⟩:=List.nodup_cons.1 hn;obtain e|c:=Ye.1 c;subst e;have:l.filter q=l.filter p:=XK (λa d=>he a (VE _ d) (λe=>n (e▸d)));rw[Zk g,Zl (by rw[h];simp),this];rfl;have f:=q8t h g o c (λa d=>he a (VE _ d));have m:q k=p k:=he k (VB ..) (λe=>n (e▸c));cases e:p k with
  |true=>rw[Zk (by rw[m];exact e),Zk e,Wi,Wi,f]
  |false=>rw[Zl (by rw[m,e];simp),Zl (by rw[e];simp),f]
def Hs.bx(H:Hs)(i:Nat):Hs:={H.ay i {H.tx i with ah:=H.ah+1}with ah:=H.ah+1}
def qd5{H:Hs}(h:Wf H)(i:Nat):H.av i=if (H.tx i).ah=0 then H.bx i else H:=by have:=h.bU;unfold Hs.av Hs.bx;rw[show Xt (H.ah+1)=H.ah+1 from Xk _ ⟨Z0,Z0⟩]
def Mk{H:Hs}(h:Wf H)(a:1<=i)(g:i<=H.m)(c:(H.tx i).ah=0):EE (H.bx i)=EE H+1:=by have d:=h.bU;unfold EE;refine q8t (i:=i) (by simp[c]) ?_ List.nodup_range' (List.mem_range'_1.2 ⟨a,show i<1+H.m by omega⟩) (λk f e=>?_);show decide ((Af H.tx i _ i).ah≠0)=VD;rw[Aq];simp only[ne_eq,decide_not,XQ,decide_eq_false_iff_not];omega;show decide ((Af H.tx i _ k).ah≠0)=_;rw[Ay e]
def Wf.bx{H:Hs}(h:Wf H){i:Nat}(g:1<=i)(f:i<=H.m)(l:(H.tx i).ah=0):Wf (H.bx i):=by have m:=h.bU;have d:=h.tm;refine⟨h.n4,h.c3,h.cr,h.nd,h.tab,h.sto,h.aq,h.net,h.down,λk c a=>?_,?_,λk c a=>?_⟩;show FD (Af H.tx i _ k);by_cases e:k=i;subst e;rw[Aq];exact(h.tx k c a).sub rfl rfl rfl (XN _);rw[Ay e];exact h.tx k c a;show H.ah+1=(EE (H.bx i):Int);rw[Mk h g f l];omega;show 0<=(Af H.tx i _ k).ah/\(Af H.tx i _ k).ah<=H.ah+1;by_cases e:k=i;subst e;rw[Aq];exact⟨by show 0<=H.ah+1;omega,WH _⟩;rw[Ay e];have:=h.dY k c a;omega
def Wf.av{H:Hs}(h:Wf H){i:Nat}(c:1<=i)(a:i<=H.m):Wf (H.av i):=by rw[qd5 h];split;rename_i d;exact h.bx c a d;exact h
def FI(H:Hs)(i:Nat):(H.av i).n=H.n/\(H.av i).c=H.c/\(H.av i).m=H.m/\(H.av i).sh=H.sh/\(H.av i).net=H.net:=by unfold Hs.av;split<;>exact⟨rfl,rfl,rfl,rfl,rfl⟩
def Hs.aF(H:Hs)(i:Nat)(a:Int):Hs:=H.ay i {H.tx i with aa:=a}
def Wf.aF{H:Hs}(h:Wf H){i:Nat}(d:1<=i)(c:i<=H.m)(a:Int):Wf (H.aF i a):=h.ay ((h.tx i d c).sub rfl rfl rfl (XN _)) rfl
def Wf.commit{H:Hs}(h:Wf H)(d:H.c=3){i:Nat}(c:1<=i)(a:i<=H.m):Wf (H.commit i):=(h.aF c a 3).b3 d c a 3
def Wf.eB{H:Hs}(h:Wf H)(c:1<=i)(a:i<=H.m):Eo ⟨3,i,(H.tx i).ah,[]⟩:=by have:=h.dA c a 3;exact this
def AO.da{base g a nd:Nat}{T:TypeId}{q c:Array S2}{D:Option Nat}{L:List AW}{dead:Int->Bool}{lost:Int}{S:Nat->Prop}(h:AO w base g a T q V D nd L dead lost)(f:Fr S w w')(m:∀b,(V.ownBlock=Bs b\/D=Bs b\/∃x∈L,(WK x.A x.n x.k).ownBlock=Bs b)->¬S b)
  (d:Ae w' g T c) (p:c[a]? = Bs V) (o:c[a+1]? = Bs (.map D)) (n:c[a+2]? = Bs (Wm eQ lost)):AO w' base g a T c V D nd L dead lost:=
 ⟨d,p,o,n,f.own h.row (λb d=>m b (eR d)),λx l=>⟨f.own (h.own x l).1 (λb d=>m b (eS (eS ⟨x,l,d⟩))),(h.own x l).2⟩,h.down.fr f (λb d=>m b (eS (eR d))),h.len,h.ne,VK h.bg f.size⟩
def EP.dv{c m:Nat}{net:Be}{time:Int}(h:EP w own P c m net time v)(t:Int):EP (w.setCell ⟨P.g,5,B0⟩ (Wm eQ t)) own P c m net t v:=by
 have g:=Fr.aL P.g w 5 (Wm eQ t);have d:∀b f,own b=Bs f->f≠.hs->¬b=P.g:=λb f a l e=>by rw[e,h.gt]at a;injection a with a;exact l a.symm
 exact⟨h.nt.da g (λb a=>d b _ (h.bI b a) Z3) (h.nt.al.aZ 5 _) rfl rfl rfl,h.cb,h.bI,h.cd,g.own h.shr (λb a=>d b _ (h.ck b a) Z3),h.ck,g.own h.txr (λb a=>d b _ (h.cf b a) Z3),h.cf,h.gt⟩
def HI.bx(h:HI w own P H){i:Nat}(r:1<=i)(q:i<=H.m):HI ((w.setCell ⟨P.g,5,B0⟩ (Wm eQ (H.ah+1))).setCell ⟨P.gt i,5,B0⟩ (Wm eQ (H.ah+1))) own P (H.bx i)/\AC w own ((w.setCell ⟨P.g,5,B0⟩ (Wm eQ (H.ah+1))).setCell ⟨P.gt i,5,B0⟩ (Wm eQ (H.ah+1))) own:=by obtain⟨v,n⟩:=h.hs;have g:Fr (OS own (λt=>t=.hs)) w (w.setCell ⟨P.g,5,B0⟩ (Wm eQ (H.ah+1))):=(Fr.aL P.g w 5 _).mono (λb _ e=>⟨_,by rw[e];exact n.gt,rfl⟩);have o:=Ii g (Z':=OO) (λt e=>eR e);have d:=h.setHs' (net':=H.net) (time':=H.ah+1) o (Ext.refl own _) (λb l=>VF (h.lt b l) o.size) ⟨v,n.dv _⟩;obtain⟨p,f⟩:=d.tx i r q;have c:Fr (OS own (λt=>t=.tx i)) (w.setCell ⟨P.g,5,B0⟩ (Wm eQ (H.ah+1))) ((w.setCell ⟨P.g,5,B0⟩ (Wm eQ (H.ah+1))).setCell ⟨P.gt i,5,B0⟩ (Wm eQ (H.ah+1))):=(Fr.aL (P.gt i) _ 5 _).mono (λb _ e=>⟨_,by rw[e];exact f.gt,rfl⟩);have m:=d.setTx' c (Ext.refl own _) (λb l=>VF (d.lt b l) c.size) ⟨p,f.dv (H.ah+1)⟩;exact⟨m,(⟨Ext.refl own _,g.mono (λ_ _ ⟨t,a,b⟩=>⟨t,a,st_hs b⟩),λ_ _ h=>h⟩:AC w own _ own).trans ⟨Ext.refl own _,c.mono (λ_ _ ⟨t,a,b⟩=>⟨t,a,DH b⟩),λ_ _ h=>h⟩⟩
def HI.aF(h:HI w own P H){i:Nat}(n:1<=i)(l:i<=H.m)(d:Int):HI (w.setCell ⟨P.gt i,1,B0⟩ (Wm eQ d)) own P (H.aF i d)/\AC w own (w.setCell ⟨P.gt i,1,B0⟩ (Wm eQ d)) own:=by obtain⟨g,f⟩:=h.tx i n l;have c:Fr (OS own (λt=>t=.tx i)) w (w.setCell ⟨P.gt i,1,B0⟩ (Wm eQ d)):=(Fr.aL (P.gt i) _ 1 _).mono (λb _ e=>⟨_,by rw[e];exact f.gt,rfl⟩);exact⟨h.setTx' c (Ext.refl own _) (λb m=>VF (h.lt b m) c.size) ⟨g,f.cZ d⟩,⟨Ext.refl own _,c.mono (λ_ _ ⟨t,a,b⟩=>⟨t,a,DH b⟩),λ_ _ h=>h⟩⟩
def UM(P:Av)(own:Ah)(H:Hs)(i:Nat)(w:D0)(e:WE)(w':D0):Prop:=∃b,e=ZY (ZX (H.bj i b).2)/\Cf P own (H.bj i b).1 w w'
def q6s(h:H.head 2=B0):H.bj i b=(H,L1):=by unfold Hs.bj;rw[h]
def q6r{p:Nat}(h:H.head 2=Bs j)(a:place ((H.sh 2).nd j).a4 3 i=Bs p):H.bj i b=if H.ao 2 j<=p then(H,L1)else(H.commit i,VD):=by unfold Hs.bj;rw[h];simp only[a]
def q8v(h:H.head 2=Bs j)(a:place ((H.sh 2).nd j).a4 3 i=B0):H.bj i b =
  if ((H.av i).add 2 j ⟨3,i,((H.av i).tx i).ah,[]⟩ b).1<0 then(((H.av i).add 2 j ⟨3,i,((H.av i).tx i).ah,[]⟩ b).2,L1)
  else if ((H.av i).add 2 j ⟨3,i,((H.av i).tx i).ah,[]⟩ b).2.ao 2 j<=((H.av i).add 2 j ⟨3,i,((H.av i).tx i).ah,[]⟩ b).1 then(((H.av i).add 2 j ⟨3,i,((H.av i).tx i).ah,[]⟩ b).2,L1)
  else(((H.av i).add 2 j ⟨3,i,((H.av i).tx i).ah,[]⟩ b).2.commit i,VD):=by unfold Hs.bj;rw[h];simp only[a]
def Ln(h:HI w own P H)(wf:Wf H)(hc:H.c=3)(v:1<=i)(hi:i<=H.m):VX Tryz.prog 97 #[pw P.g,pw (P.gt i)] w (UM P own H i w):=by
 obtain⟨vh,V⟩:=h.hs;obtain⟨_,c3,_,_,gl⟩:=V.cells;obtain⟨r3,k3,al,aH,aJ⟩:=V.dh (s:=2) Z0;rw[al,hc]at c3;have HH:=LH h;have I:=LH wf;clear h wf V al;unfold pw at *;go_enter Tryz.func97,Tryz.ntmps97;go_upto_region 1 with (fail)
 go_quiet (fail);generalize aa:w.drewN _=w1;have a1:VI w.heap.size w w1:=aa▸CI (VC _ _) _;have a5:=LH (HH.o.below a1);have av:=LH (HZ.below (Z:=BZ) own a1);have a6:=LH (q83 a5.o I.o (s:=2) Z0);unfold pw at a6;clear c3 aJ gl aH a1 HH aa;go_wp2_with fail;refine a6.o.mono ?_;rintro e w2 ⟨rfl,a0⟩;have r:=LH (a5.o.below a0);have G:=LH (av.o.trans (HZ.below own a0));clear a0 a5 av a6;rcases g:H.head 2 with _|j
 ·have t:=LH (show UM P own H i w (ZY (ZX L1)) w2 from⟨L1,by rw[q6s g],own,by rw[q6s g];exact r.o,G.o⟩);unfold Dw;go_wp2_with fail;go_ret;exact t.o
 have ae:=q61 g;obtain⟨C,V2,L,hN,aL⟩:=r.o.nd 2 j Z0 ae;have am:=hN.aW (VC w2.heap.size w2).drew;have aA:=LH (qaz am);have ad:=hN.a4;have b2:=hN.len;obtain⟨vt,ab⟩:=r.o.tx i v hi;obtain⟨d0,d1,_,_,_,d5,_,dl⟩:=ab.cells;have aR:=LH g;clear hN aL am ab;unfold Dw pw;go_upto_region 5 with (fail)
 refine nW ?_;refine CR (λW=>W.cell? ⟨P.gt i,0,B0⟩=Bs (Wm eQ i)) 8 (λ_ _ _ _ _ h=>h) (λa=>?_);have c:w2.drew.cell? ⟨P.gt i,0,B0⟩=Bs (Wm eQ i):=d0;refine nD 0 [1,6,7] a c ?_;refine nD 2 [3,4,5,6,7] a c ?_;refine nD 3 [4,5,6,7] a c ?_;refine nD 4 [5,6,7] a c ?_;refine nD 5 [6,7] a c ?_;clear c;refine nG 1 (λO u=>?_);go_simp;refine aA.o.mono ?_;rintro e w4 ⟨A5,k5,rfl,A,ag,_⟩;have n:=(VC w2.heap.size w2).drew.trans ag;have aC:=LH (r.o.below n);have au:=LH (G.o.trans (HZ.below own n));have Y:=(n.cell (p:=⟨P.gt i,0,B0⟩) dl).trans d0;have af:=VF dl n.size;have az:=LH (q7s 0 _ _ L 3 i w4 A rfl Z0);go_simp;refine u _ _ (λ_=>Y) ?_;clear u O d0 d1 d5 dl A ag n aA r G;refine nG 6 (λO u=>?_);go_simp;refine az.o.mono ?_;rintro e w5 ⟨rfl,M⟩;have q:=LH (aC.o.below M);have a4:=LH (au.o.trans (HZ.below own M));have B:=(M.cell (p:=⟨P.gt i,0,B0⟩) af).trans Y;go_simp;refine u _ _ (λ_=>B) ?_;clear u O M aC au Y af az;refine nG 7 (λO u=>?_);go_simp;refine u _ _ (λ_=>B) ?_;clear u O;refine nX ?_;clear a B;have aP:=ae;obtain⟨aF,l⟩:=q.o.tx i v hi;obtain⟨d0,d1,_,_,_,d5,_,dl⟩:=l.cells;have f5:=l.al.frozen 5;obtain⟨aG,m⟩:=q.o.hs;obtain⟨_,_,_,t5,aq⟩:=m.cells;have g5:=m.nt.al.frozen 5;have aZ:=I.o.bU;clear l m ad;go_upto_if 32 with (fail)
 go_cut [7] (λv7 wx=>∃(b:Bool)(k:Int)(H2:Hs)(d:Ah),v7=Wm eQ k/\HI wx d P H2/\AC w own wx d/\Wf H2/\H2.c=3/\H2.m=H.m/\H2.n=H.n/\H.bj i b=if H2.ao 2 j<=k then(H2,L1)else(H2.commit i,VD))
 case first=>
  rcases hp:place ((H.sh 2).nd j).a4 3 i with _|p
  ·rw[q5e hp];have a8:=LH (λb=>q8v (b:=b) g hp);have ac:=FI H i;have S:=I.o.av v hi;have ax:=LH (qd5 I.o i);have Q:=LH S;have aO:=LH ac;clear g hp ac S;go_upto_if 37 with (fail)
   go_cut [] (λwx=>HI wx own P (H.av i)/\AC w own wx own)
   case first=>
    by_cases x:(H.tx i).ah=0
    ·have dt:((H.tx i).ah == 0)=VD:=Z6 x;have J:=q.o.bx v hi;rw[show H.bx i=H.av i from(ax.o.trans (Z8 x)).symm]at J;have hw:IntKind.i64.wrap (H.ah+1)=H.ah+1:=IntWalk.i64_in _ ⟨Z0,Z0⟩;have t:=LH (show _/\_ from⟨J.1,a4.o.trans J.2⟩);have aI:P.g≠P.gt i:=λe=>by
      obtain⟨aF,l⟩:=q.o.tx i v hi;obtain⟨aG,m⟩:=q.o.hs;have e1:=m.gt;rw[e,l.gt]at e1;cases e1
     have aQ:P.gt i≠P.g:=λe=>aI e.symm
     clear J x;go_wp2_with fail;go_meet;exact t.o
    have dt:((H.tx i).ah == 0)=L1:=Z6 x;have t:=LH (show HI w5 own P (H.av i)/\AC w own w5 own from⟨by rw[ax.o,Z7 x];exact q.o,a4.o⟩);clear x;go_wp2_with fail;go_meet;exact t.o
   obtain⟨a3,aj⟩:=hcut;rename D0=>w6
   obtain⟨aY,aX,aW,aV,aU⟩:=aO.o;obtain⟨aT,z⟩:=a3.tx i v Z0;have e0:w6.drew.cell? ⟨P.gt i,0,B0⟩=Bs (Wm eQ i):=z.cells.1;have e5:w6.drew.cell? ⟨P.gt i,5,B0⟩=Bs (Wm eQ ((H.av i).tx i).ah):=z.cells.2.2.2.2.2.1;have E:=q9m (a3.below (VC w6.heap.size w6).drew) Q.o (s:=2) (j:=j) Z0 Z0 ⟨⟨3,i,((H.av i).tx i).ah,[]⟩,B0,0,0⟩ ⟨rfl,Rd.bo _ _ _ _⟩ (λ_=>rfl) (VG _) (Q.o.eB v Z0);unfold pw at E;have aE:=LH E;have aM:=LH (aj.trans (HZ.below own (VC w6.heap.size w6).drew));clear z E a3 aj d0 d1 d5 dl f5 t5 aq g5;go_upto_region 10 with (fail)
   refine nW ?_;refine CR (λW=>W.cell? ⟨P.gt i,0,B0⟩=Bs (Wm eQ i)/\W.cell? ⟨P.gt i,5,B0⟩=Bs (Wm eQ ((H.av i).tx i).ah)) 12 (λ_ _ _ _ _ h=>h) (λa=>?_);have c:=Wo e0 e5;refine nD 0 [12,13] a c ?_;refine nD 1 [12,13] a c ?_;refine nD 2 [12,13] a c ?_;refine nD 3 [4,5,6,11,12,13] a c ?_;refine nD 4 [5,6,11,12,13] a c ?_;refine nD 5 [6,11,12,13] a c ?_;refine nA 6 [11,12,13] rfl rfl a c (λw' U=>by obtain⟨v,h2⟩:=U;go_simp;rfl) ?_;refine nD 7 [8,9,10,11,12,13] a c ?_;refine nD 8 [9,10,11,12,13] a c ?_;refine nD 9 [10,11,12,13] a c ?_;refine nA 10 [11,12,13] rfl rfl a c (λw' U=>by obtain⟨v,h2⟩:=U;go_simp;rfl) ?_;refine nD 11 [12,13] a c ?_;clear c e0 e5;refine nG 12 (λO u=>?_);go_simp;refine aE.o.mono ?_;rintro e w8 ⟨N,R,rfl,ap,ai⟩;have aB:=LH ap;have ar:=LH (aM.o.trans (ai.mono (λ_ h=>Ic h)));clear ap ai aE;go_simp;refine u _ _ nZ ?_;clear u O;refine nG 13 (λO u=>?_);go_simp;refine u _ _ nZ ?_;clear u O;refine nX ?_;clear a;by_cases f:((H.av i).add 2 j ⟨3,i,((H.av i).tx i).ah,[]⟩ N).1<0
   ·have t:=LH (show UM P own H i w (ZY (ZX L1)) w8 from⟨N,by rw[a8.o N,Z8 f],R,by rw[a8.o N,Z8 f];exact aB.o,ar.o⟩);have dn:=ZA f;clear f;go_wp2_with fail;go_ret;exact t.o
   have K:=Dt (H.av i) 2 j ⟨3,i,((H.av i).tx i).ah,[]⟩ N;have t:=LH (show ∃(b:Bool)(k:Int)(H2:Hs)(d:Ah),Wm eQ ((H.av i).add 2 j ⟨3,i,((H.av i).tx i).ah,[]⟩ N).1=Wm eQ k/\HI w8 d P H2/\AC w own w8 d/\Wf H2/\H2.c=3/\H2.m=H.m/\H2.n=H.n/\H.bj i b=if H2.ao 2 j<=k then(H2,L1)else(H2.commit i,VD)from
    ⟨N,_,_,R,rfl,aB.o,ar.o,Q.o.add Z0 Z0 (Q.o.eB v Z0) N,by rw[K.2.1];omega,by rw[K.2.2.1];omega,by rw[K.1];omega,by rw[a8.o N,Z7 f]⟩)
   have dn:=Z9 f;clear f K;go_wp2_with fail;go_meet;exact t.o
  rw[q5d hp];have t:=LH (show ∃(b:Bool)(k:Int)(H2:Hs)(d:Ah),Wm eQ (p:Int)=Wm eQ k/\HI w5 d P H2/\AC w own w5 d/\Wf H2/\H2.c=3/\H2.m=H.m/\H2.n=H.n/\H.bj i b=if H2.ao 2 j<=k then(H2,L1)else(H2.commit i,VD)from⟨L1,p,H,own,rfl,q.o,a4.o,I.o,hc,rfl,rfl,q6r g hp⟩);clear hp g;go_wp2_with fail;go_meet;exact t.o
 obtain⟨b,k,H2,d,rfl,F,a2,ak,aK,b1,b0,T⟩:=hcut;rename D0=>w7
 obtain⟨C2,V3,L2,an,_⟩:=F.nd 2 j Z0 Z0;have ay:=LH (qc6 an);have X:=F.aF v (show i<=H2.m by omega) 3;obtain⟨aS,y⟩:=F.tx i v Z0;obtain⟨_,s1,_,_,_,_,_,sl⟩:=y.cells;have s2:=y.al.frozen 1;have aw:=LH (q7i (kind:=3) X.1 (ak.aF v Z0 3) aK v (show i<=H2.m by omega));have r:=LH F;have G:=LH a2;have aN:=LH (a2.trans X.2);have a7:=LH T;clear an X y F a2 T ak d0 d1 d5 dl f5 t5 aq g5 g;unfold pw at aw;by_cases o:H2.ao 2 j<=k
 ·have dn:decide (((H2.sh 2).nd j).ao<=k)=VD:=ZA o;have t:=LH (show UM P own H i w (ZY (ZX L1)) w7 from⟨b,by rw[a7.o,Z8 o],d,by rw[a7.o,Z8 o];exact r.o,G.o⟩);clear o;go_wp2_with fail;refine ay.o.mono ?_;rintro e w8 ⟨rfl,rfl⟩;go_wp2_with fail;go_ret;exact t.o
 have dn:decide (((H2.sh 2).nd j).ao<=k)=L1:=Z9 o;have aD:=LH (a7.o.trans (Z7 o));clear o;go_wp2_with fail;refine ay.o.mono ?_;rintro e w8 ⟨rfl,rfl⟩;go_wp2_with fail;refine aw.o.mono ?_;rintro e w9 ⟨rfl,a9,ao,ah⟩;have t:=LH (show UM P own H i w (ZY (ZX VD)) w9 from⟨b,by rw[aD.o],a9,by rw[aD.o];exact ao,aN.o.trans ah⟩);clear ao ah;go_wp2_with fail;go_ret;exact t.o
def DB(H:Hs)(i k:Nat):Prop:=(H.tx i).ah > 0\/((H.tx i).af k).getD 0≠(H.sh k).ad\/((H.tx i).aw k).getD 0>=0
def IU(H:Hs)(i k:Nat):Bool:=decide ((H.tx i).ah > 0) || ((H.tx i).af k).getD 0 != (H.sh k).ad || decide (((H.tx i).aw k).getD 0>=0)
def Lu{H:Hs}{k:Nat} : IU H i k=VD↔DB H i k:=by unfold IU DB;simp only[X7,decide_eq_true_eq,bne_iff_ne,ne_eq,or_assoc]
variable {k:Nat}
def q64(h:H.head k=B0):H.aU i k b=(H,Bs L1):=by unfold Hs.aU;rw[h]
def q42{p:Nat}(h:H.head k=Bs j)(a:place ((H.sh k).nd j).a4 2 i=Bs p):H.aU i k b=(H.aS i k p,Bs (decide (H.ao k j > p))):=by unfold Hs.aU;rw[h];simp only[a]
def q65(h:H.head k=Bs j)(d:place ((H.sh k).nd j).a4 2 i=B0)(a:DB H i k)(c:(H.tx i).ah=0):H.aU i k b=(H.a3 i,B0):=by unfold Hs.aU;rw[h];simp only[d];unfold DB at a;rw[Z8 a,Z8 c]
def q86(h:H.head k=Bs j)(d:place ((H.sh k).nd j).a4 2 i=B0)(a:DB H i k)(c:(H.tx i).ah≠0):H.aU i k b=(H,Bs L1):=by unfold Hs.aU;rw[h];simp only[d];unfold DB at a;rw[Z8 a,Z7 c]
def q85(h:H.head k=Bs j)(c:place ((H.sh k).nd j).a4 2 i=B0)(a:¬DB H i k)(d:(H.add k j ⟨2,i,0,(H.tx i).of k⟩ b).1<0):H.aU i k b=((H.add k j ⟨2,i,0,(H.tx i).of k⟩ b).2.a3 i,B0):=by unfold Hs.aU;rw[h];simp only[c];unfold DB at a;rw[Z7 a,Z8 d]
def q87(h:H.head k=Bs j)(c:place ((H.sh k).nd j).a4 2 i=B0)(a:¬DB H i k)(d:¬(H.add k j ⟨2,i,0,(H.tx i).of k⟩ b).1<0):H.aU i k b=((H.add k j ⟨2,i,0,(H.tx i).of k⟩ b).2.aS i k (H.add k j ⟨2,i,0,(H.tx i).of k⟩ b).1,
  Bs (decide ((H.add k j ⟨2,i,0,(H.tx i).of k⟩ b).2.ao k j > (H.add k j ⟨2,i,0,(H.tx i).of k⟩ b).1))):=by unfold Hs.aU;rw[h];simp only[c];unfold DB at a;rw[Z7 a,Z7 d]
def Fo(H:Hs)(i:Nat)(ks:List Nat)(q:Nat)(H2:Hs)(a:Bool):Prop:=∃b:Nat->Bool,∀c:Nat->Bool,(∀x∈ks.take q,c x=b x)->Hs.aG i c ks H VD=Hs.aG i c (ks.drop q) H2 a
def Fo.start(H:Hs)(i:Nat)(ks:List Nat):Fo H i ks 0 H VD:=⟨λ_=>L1,λ_ _=>rfl⟩
def Kf(c:ks.Nodup){k:Nat}(d:ks[q]? = Bs k):k ∉ ks.take q:=λh=>by
 obtain⟨j,g,e⟩:=List.mem_take_iff_getElem.1 h;obtain⟨a,f⟩:=ZC.1 d;exact ZO.1 c j q Z0 a Z0 (e.trans f.symm)
def Fo.next{H H2:Hs}{k:Nat}{a:Bool}(h:Fo H i ks q H2 a)(r:ks.Nodup)(g:ks[q]? = Bs k){n:Bool}{o:Hs}(t:H2.aU i k β=(o,Bs n)):Fo H i ks (q+1) o (a && n):=by
 obtain⟨b,u⟩:=h;obtain⟨p,v⟩:=ZC.1 g;refine⟨Af b k β,λc d=>?_⟩;rw[u c (λx m=>by
  have f:=d x (by rw[VV];exact List.mem_append_left _ m);rw[f];exact Ay (λ(e:x=k)=>Kf r g (by rw[<- e];exact m)) _)]
 rw[XG p,v];have l:c k=β:=by
  have:=d k (by rw[VV,g];simp);rw[this,Aq]
 show(match (H2.aU i k (c k)).2 with|none=>((H2.aU i k (c k)).1,B0)|some a'=>Hs.aG i c (ks.drop (q+1)) (H2.aU i k (c k)).1 (a && a'))=_;rw[l,t]
def Fo.o{H H2:Hs}{k:Nat}{a:Bool}(h:Fo H i ks q H2 a)(l:ks.Nodup)(c:ks[q]? = Bs k){d:Hs}(m:H2.aU i k β=(d,B0)):∃b,Hs.aG i b ks H VD=(d,B0):=by obtain⟨b,n⟩:=h;obtain⟨g,o⟩:=ZC.1 c;refine⟨Af b k β,?_⟩;rw[n _ (λx f=>Ay (λ(e:x=k)=>Kf l c (by rw[<- e];exact f)) _),XG g,o];show(match (H2.aU i k (Af b k β k)).2 with|none=>((H2.aU i k (Af b k β k)).1,B0)|some a'=>Hs.aG i _ (ks.drop (q+1)) (H2.aU i k (Af b k β k)).1 (a && a'))=_;rw[Aq,m]
def Fo.done{H H2:Hs}{a:Bool}(h:Fo H i ks ks.length H2 a)(f:2 ∉ ks)(β:Bool):∃b:Nat->Bool,b 2=β/\Hs.aG i b ks H VD=(H2,Bs a):=by obtain⟨b,d⟩:=h;refine⟨Af b 2 β,Aq _ _ _,?_⟩;rw[d _ (λx c=>Ay (λ(e:x=2)=>f (by rw[<- e];exact WG c)) _),List.drop_length];rfl
def q63{H H2:Hs}{b:Nat->Bool}(h:Hs.aG i b (H.tx i).ag H VD=(H2,B0)):H.ends i b=(H2,VD):=by unfold Hs.ends;rw[h]
def q55{H H2:Hs}{b:Nat->Bool}(h:Hs.aG i b (H.tx i).ag H VD=(H2,Bs L1)):H.ends i b=(H2,L1):=by unfold Hs.ends;rw[h]
def q54{H H2:Hs}{b:Nat->Bool}(h:Hs.aG i b (H.tx i).ag H VD=(H2,Bs VD)):H.ends i b=H2.bj i (b 2):=by unfold Hs.ends;rw[h]
def q2x(t:Bu):t.ag.Nodup:=List.Nodup.sublist XI Z2
def Wf.db{H:Hs}(h:Wf H)(f:1<=i)(d:i<=H.m)(k:Nat):Eo ⟨2,i,0,(H.tx i).of k⟩:=by have a:=h.tx i f d;have:=h.cr;exact⟨⟨by show(1:Int)<=(i:Int);omega,by show(i:Int)<=60;omega⟩,by show(0:Int)<=0/\(0:Int)<=60;omega,VK (WC _ _) a.cd,λp c=>a.ps p (YO.1 c).1⟩
def FD.aS{t:Bu}(h:FD t){k:Nat}(d:k<2)(a:Int):FD {t with aw:=AS t.aw k a}:=by refine⟨h.cd,h.ps,h.sh,λo e c=>?_,h.wn,h.wnd⟩;have c:AS t.aw k a o=Bs e:=c;unfold AS at c;split at c;rename_i e1;omega;exact h.pl o e c
def Wf.aS{H:Hs}(h:Wf H){i k:Nat}(f:1<=i)(d:i<=H.m)(c:k<2)(a:Int):Wf (H.aS i k a):=h.ay ((h.tx i f d).aS c a) rfl
def UK(P:Av)(own:Ah)(H:Hs)(i k j:Nat)(a:Bool)(H2:Hs)(l:D0)(m f:S2)(h:D0):Prop:=
 ∃(β:Bool)(g:Int)(d:Hs)(c:Ah),m=ZX a/\f=Wm eQ g/\HI h c P d/\AC l own h c/\Wf d/\d.c=3/\d.m=H.m/\d.n=H.n/\H2.aU i k β=(d.aS i k g,Bs (decide (d.ao k j > g)))
def LM(P:Av)(own:Ah)(H:Hs)(i:Nat)(ks:List Nat)(d:D0)(f c:S2)(wr:D0):Prop:=
 ∃(q:Nat)(a:Bool)(H2:Hs),c=Wm eQ q/\f=ZX a/\q<=ks.length/\Cf P own H2 d wr/\Wf H2/\H2.c=3/\H2.m=H.m/\H2.n=H.n/\Fo H i ks q H2 a
def LL(P:Av)(own:Ah)(H:Hs)(i:Nat)(w:D0)(e:WE)(w':D0):Prop:=∃b,e=ZY (ZX (H.ends i b).2)/\Cf P own (H.ends i b).1 w w'
def KN{b:Nat}{f:Int->Option Int}(h:Ab BP w b n (Dl f)){o:Int}(c:FB o):(Instr.lookup 61 (.map (Bs b)) (Wm eQ o) L1).run Tryz.prog w=.ok (Wm eQ ((f o).getD 0)) w:=by
 have a:(zeroValue 3).run Tryz.prog w=.ok (Wm eQ 0) w:=by kernel_rfl
 have:=(h.cn Tryz.underlying61 a (x:=o) c).2;rw[show BP.val o=Wm eQ o from rfl]at this;rw[this];unfold Dl;cases f o<;>rfl
def CL.putPlace'{g:Nat}{v:LW}{t:Bu}(h:CL w own i g v t)(f:FD t){k:Nat}(l:k<2)(m:Fr (λb=>b=v.bp) w w')(d:Ab BP w' v.bp 101 (AY (Dl t.aw) (k:Int) (Bs (Wm eQ a)))):CL w' own i g v {t with aw:=AS t.aw k a}:=by
 rw[qdw]at d;refine h.ds m ((d.bK DR (λo _ c=>?_)).mono (by rw[q3y];omega));unfold Dl at c;cases e:AS t.aw k a o with
 |none=>rw[e]at c;exact ZB rfl c
 |some x=>have:=(f.aS l a).pl o x e;exact RA Z0 Z0
def TY(h:HI w own P H)(wf:Wf H)(hc:H.c=3)(h1:1<=i)(hi:i<=H.m):VX Tryz.prog 66 #[pw P.g,pw (P.gt i)] w (LL P own H i w):=by
 have aF:=LH (qbj h wf h1 hi);have HH:=LH h;have bx:=LH wf;have be:=LH (q2x (H.tx i));have HN:=LH (λ(b:Nat->Bool) (H2:Hs)=>(q63 (H:=H) (H2:=H2) (i:=i) (b:=b)));have bn:=LH (λ(b:Nat->Bool) (H2:Hs)=>(q55 (H:=H) (H2:=H2) (i:=i) (b:=b)));have bz:=LH (λ(b:Nat->Bool) (H2:Hs)=>(q54 (H:=H) (H2:=H2) (i:=i) (b:=b)));have bh:=LH (λk (hk:k∈(H.tx i).ag)=>Cb hk);have bK:=qbi (H.tx i);unfold Fu Bu.bW at aF;generalize (H.tx i).ag=ks at *;clear h wf;unfold pw at *;go_enter Tryz.func66,Tryz.ntmps66;go_wp2_with fail;refine aF.o.mono ?_;rintro e w1 ⟨V,rfl,Z,ax⟩;obtain⟨A,c,rfl,_,_⟩:=AM Z;have bb:=LH Z;have am:=LH ax;have bD:=LH (HH.o.below ax);have aE:=LH (λb (Q:(WK A ks.length c).ownBlock=Bs b)=>HH.o.free (Z.lt b Q).1);clear Z ax aF HH;go_wp2_with fail;go_loopw [5,14] (LM P own H i ks w1) (λ_ v _=>ks.length-(intOf v).toNat)
 case atStart=>exact⟨0,VD,H,rfl,rfl,VG _,⟨own,bD.o,HZ.refl _ _ _⟩,bx.o,hc,rfl,rfl,Fo.start H i ks⟩
 obtain⟨q,a,H2,rfl,rfl,hq,⟨g,K,U⟩,a8,z,ah,ag,R⟩:=hrel;by_cases bI:(q:Int)<ks.length
 ·obtain⟨r,c',hV,hr,k,hk,bu⟩:=Is (RB bb.o aE.o U) (k:=q) Z0 rfl;injection hV with hA _ hcp;subst hA hcp;have aM:=bh.o k (N2 hk);obtain⟨vh,aq⟩:=K.hs;obtain⟨_,c3,_,_,gl⟩:=aq.cells;obtain⟨r3,k3,aZ,bH,aS⟩:=aq.dh (s:=k) Z0;rw[aZ,z]at c3;have bJ:(k:Int)<3:=by omega
  have aD:=LH (q83 K a8 (s:=k) Z0);unfold pw at aS aD;have bl:=LH K;have al:=LH U;have M:=LH a8;have aC:=LH (λ(β a2:Bool) (H3:Hs) (he:H2.aU i k β=(H3,Bs a2))=>R.next be.o hk he);have ba:=LH (λ(β:Bool) (H3:Hs) (he:H2.aU i k β=(H3,B0))=>R.o be.o hk he);clear K U a8 hk aq aZ R;go_wp2_with fail;refine aD.o.mono ?_;rintro e w3 ⟨rfl,aw⟩;have ac:=LH (bl.o.below aw);have aB:=LH (al.o.trans (HZ.below g aw));clear bu c3 aS gl bl al aD aw;rcases ai:H2.head k with _|j
  ·have X:=LH (show LM P own H i ks w1 (ZX L1) (Wm eQ ((q+1:Nat):Int)) w3 from⟨q+1,L1,H2,rfl,rfl,Z0,⟨g,ac.o,aB.o⟩,M.o,z,ah,ag,by have:=aC.o L1 L1 H2 (q64 ai);rw[Bool.and_false]at this;exact this⟩);unfold Dw;go_wp2_with fail;go_roundw;exact X.o;simp[intOf];omega
  have au:=q61 ai;obtain⟨C,V2,L,hN,bv⟩:=ac.o.nd k j Z0 au;have b0:=hN.aW (VC w3.heap.size w3).drew;have bi:=LH (qaz b0);have aK:=hN.a4;have bL:=hN.len;obtain⟨vt,aH⟩:=ac.o.tx i h1 Z0;obtain⟨d0,_,_,_,_,_,_,dl⟩:=aH.cells;have O:=LH ai;clear hN bv b0 aH ai;unfold Dw pw;go_upto_region 9 with (fail)
  refine nW ?_;refine CR (λW=>W.cell? ⟨P.gt i,0,B0⟩=Bs (Wm eQ i)) 8 (λ_ _ _ _ _ h=>h) (λd=>?_);have f:w3.drew.cell? ⟨P.gt i,0,B0⟩=Bs (Wm eQ i):=d0;refine nD 0 [1,6,7] d f ?_;refine nD 2 [3,4,5,6,7] d f ?_;refine nD 3 [4,5,6,7] d f ?_;refine nD 4 [5,6,7] d f ?_;refine nD 5 [6,7] d f ?_;clear f;refine nG 1 (λKK y=>?_);go_simp;refine bi.o.mono ?_;rintro e w4 ⟨A5,k5,rfl,a3,aU,_⟩;have G:=(VC w3.heap.size w3).drew.trans aU;have bk:=LH (ac.o.below G);have b5:=LH (aB.o.trans (HZ.below g G));have av:=(G.cell (p:=⟨P.gt i,0,B0⟩) dl).trans d0;have aQ:=VF dl G.size;have bc:=LH (q7s 0 _ _ L 2 i w4 a3 rfl Z0);go_simp;refine y _ _ (λ_=>av) ?_;clear y KK d0 dl a3 aU G bi ac aB;refine nG 6 (λKK y=>?_);go_simp;refine bc.o.mono ?_;rintro e w5 ⟨rfl,ak⟩;have ab:=LH (bk.o.below ak);have aA:=LH (b5.o.trans (HZ.below g ak));have a5:=(ak.cell (p:=⟨P.gt i,0,B0⟩) aQ).trans av;go_simp;refine y _ _ (λ_=>a5) ?_;clear y KK ak bk b5 av aQ bc;refine nG 7 (λKK y=>?_);go_simp;refine y _ _ (λ_=>a5) ?_;clear y KK;refine nX ?_;clear d a5 aK;go_upto_if 37 with (fail)
  go_cut [5,10] (λv5 br wx=>UK P own H i k j a H2 w1 v5 br wx)
  case first=>
   rcases hp:place ((H2.sh k).nd j).a4 2 i with _|p
   ·rw[q5e hp];have HP:=LH hp;obtain⟨bF,Y⟩:=ab.o.tx i h1 Z0;obtain⟨_,_,_,d3,d4,d5,_,dl⟩:=Y.cells;have l1:=λq=>KN (Y.af.drewN q) (o:=(k:Int)) (Gu Z0 Z0)
    have l2:=λq=>KN (Y.aw.drewN q) (o:=(k:Int)) (Gu Z0 Z0)
    obtain⟨bG,an⟩:=ab.o.sh k Z0;obtain⟨_,_,e2,_,_,el⟩:=an.cells;have B:=LH (show IU H2 i k=(decide ((H2.tx i).ah > 0) || ((H2.tx i).af k).getD 0 != (H2.sh k).ad || decide (((H2.tx i).aw k).getD 0>=0))from rfl);clear hp Y an;go_upto_region 11 with (fail)
    go_cut [64] (λbq wx=>bq=ZX (IU H2 i k)/\VI w5.heap.size w5 wx)
    case first=>
     by_cases x1:(H2.tx i).ah > 0
     ·have y1:decide ((H2.tx i).ah > 0)=VD:=ZA x1;have n:=LH (show IU H2 i k=VD by rw[B.o,y1];rfl);clear x1 B;go_quiet (fail);go_wp2_with fail;go_meet;exact⟨by rw[n.o],CI (VC _ _) _⟩
     have y1:decide ((H2.tx i).ah > 0)=L1:=Z9 x1;by_cases x2:((H2.tx i).af k).getD 0=(H2.sh k).ad
     ·have y2:(((H2.tx i).af k).getD 0 != (H2.sh k).ad)=L1:=Z6 x2;by_cases x3:((H2.tx i).aw k).getD 0>=0
      ·have y3:decide (((H2.tx i).aw k).getD 0>=0)=VD:=ZA x3;have n:=LH (show IU H2 i k=VD by rw[B.o,y1,y2,y3];rfl);clear x1 x2 x3 B;go_quiet (fail);go_wp2_with fail;go_meet;exact⟨by rw[n.o],CI (VC _ _) _⟩
      have y3:decide (((H2.tx i).aw k).getD 0>=0)=L1:=Z9 x3;have n:=LH (show IU H2 i k=L1 by rw[B.o,y1,y2,y3];rfl);clear x1 x2 x3 B;go_quiet (fail);go_wp2_with fail;go_meet;exact⟨by rw[n.o],CI (VC _ _) _⟩
     have y2:(((H2.tx i).af k).getD 0 != (H2.sh k).ad)=VD:=Z6 x2;have n:=LH (show IU H2 i k=VD by rw[B.o,y1,y2];rfl);clear x1 x2 B;go_quiet (fail);go_wp2_with fail;go_meet;exact⟨by rw[n.o],CI (VC _ _) _⟩
    obtain⟨rfl,a6⟩:=hcut;rename D0=>w6
    have N:=LH (ab.o.below a6);have a9:=LH (aA.o.trans (HZ.below g a6));have t5:=(a6.cell (p:=⟨P.gt i,5,B0⟩) dl).trans d5;have tl:=VF dl a6.size;clear d3 d4 d5 dl l1 l2 e2 el a6 ab aA B;cases x:IU H2 i k with
    |true=>
     have aj:=Lu.1 x;by_cases ht:(H2.tx i).ah=0
     ·have dt:((H2.tx i).ah == 0)=VD:=Z6 ht;have ad:=LH (q4g N.o M.o z h1 (show i<=H2.m by omega));have aa:=LH (ba.o L1 _ (q65 O.o HP.o aj ht));unfold pw at ad;clear x aj ht;go_wp2_with fail;refine ad.o.mono ?_;rintro e w9 ⟨rfl,E,J,I⟩;have HF:=LH (show LL P own H i w (ZY (ZX VD)) w9 from by
       obtain⟨b,Q⟩:=aa.o;exact⟨b,by rw[HN.o b _ Q],E,by rw[HN.o b _ Q];exact J,(HZ.below own am.o).trans (a9.o.trans I)⟩)
      clear J I;go_wp2_with fail;go_ret;exact HF.o
     have dt:((H2.tx i).ah == 0)=L1:=Z6 ht;have X:=LH (show LM P own H i ks w1 (ZX L1) (Wm eQ ((q+1:Nat):Int)) w6 from⟨q+1,L1,H2,rfl,rfl,Z0,⟨g,N.o,a9.o⟩,M.o,z,ah,ag,by have:=aC.o L1 L1 H2 (q86 O.o HP.o aj ht);rw[Bool.and_false]at this;exact this⟩);clear x aj ht;go_wp2_with fail;go_roundw;exact X.o;simp[intOf];omega
    |false=>
     have bf:=LH (show ¬DB H2 i k from λh=>by rw[Lu.2 h]at x;cases x);obtain⟨ap,m⟩:=N.o.tx i h1 Z0;have c0:w6.drew.cell? ⟨P.gt i,0,B0⟩=Bs (Wm eQ i):=m.cells.1;have ar:=of_any (k:=k) (N.o.below (VC w6.heap.size w6).drew) M.o z h1 (show i<=H2.m by omega);unfold pw at ar;have bd:=LH ar;clear x m ar t5;go_upto_region 16 with (fail)
     refine nW ?_;refine CR (λW=>W.cell? ⟨P.gt i,0,B0⟩=Bs (Wm eQ i)) 12 (λ_ _ _ _ _ h=>h) (λd=>?_);have f:=c0;refine nD 0 [12,13] d f ?_;refine nD 1 [12,13] d f ?_;refine nD 2 [12,13] d f ?_;refine nD 3 [4,5,6,11,12,13] d f ?_;refine nD 4 [5,6,11,12,13] d f ?_;refine nD 5 [6,11,12,13] d f ?_;refine nD 6 [11,12,13] d f ?_;refine nD 7 [10,11,12,13] d f ?_;refine nD 8 [10,11,12,13] d f ?_;refine nD 9 [10,11,12,13] d f ?_;clear f;refine nG 10 (λKK y=>?_);go_simp;refine bd.o.mono ?_;rintro e w7 ⟨A7,c7,rfl,a1,aT,aL⟩;have a0:=(VC w6.heap.size w6).drew.trans aT;have az:=(a0.cell (p:=⟨P.gt i,0,B0⟩) tl).trans c0;have bC:=LH (N.o.below a0);have bw:=LH (a9.o.trans (HZ.below g a0));have af:=M.o.db h1 (show i<=H2.m by omega) k;have aO:(Jh k (H2.tx i).ae).length<=100000:=VK af.cd Z0;have a7:=q9m bC.o M.o (s:=k) (j:=j) Z0 au ⟨⟨2,i,0,Jh k (H2.tx i).ae⟩,A7,(Jh k (H2.tx i).ae).length,c7⟩ ⟨rfl,Rd.a7 a1⟩ aL aO af;unfold pw at a7;have bp:=LH a7;have bB:=LH af;go_simp;refine y _ _ (λ_=>az) ?_;clear y KK aT a0 a1 aL a7 bd c0 af;refine nG 11 (λKK y=>?_);go_simp;refine y _ _ (λ_=>az) ?_;clear y KK az;refine nG 12 (λKK y=>?_);go_simp;refine bp.o.mono ?_;rintro e w8 ⟨b8,aG,rfl,b2,aW⟩;have bj:=LH b2;have b4:=LH (bw.o.trans (aW.mono (λ_ h=>Ic h)));clear b2 aW bp;go_simp;refine y _ _ nZ ?_;clear y KK;refine nG 13 (λKK y=>?_);go_simp;refine y _ _ nZ ?_;clear y KK;refine nX ?_;clear d;have S:=Dt H2 k j ⟨2,i,0,Jh k (H2.tx i).ae⟩ b8;have ae:=M.o.add (s:=k) (j:=j) Z0 au bB.o b8;by_cases u:(H2.add k j ⟨2,i,0,Jh k (H2.tx i).ae⟩ b8).1<0
     ·have ad:=LH (q4g bj.o ae (by rw[S.2.1];exact z) h1 (show i<=_ by rw[S.2.2.1];omega));have aa:=LH (ba.o b8 _ (q85 O.o HP.o bf.o u));unfold pw at ad;have dn:=ZA u;clear u S ae;go_wp2_with fail;refine ad.o.mono ?_;rintro e w9 ⟨rfl,E,J,I⟩;have HF:=LH (show LL P own H i w (ZY (ZX VD)) w9 from by
       obtain⟨b,Q⟩:=aa.o;exact⟨b,by rw[HN.o b _ Q],E,by rw[HN.o b _ Q];exact J,(HZ.below own am.o).trans (b4.o.trans I)⟩)
      clear J I;go_wp2_with fail;go_ret;exact HF.o
     have HF:=LH (show UK P own H i k j a H2 w1 (ZX a) (Wm eQ (H2.add k j ⟨2,i,0,Jh k (H2.tx i).ae⟩ b8).1) w8 from                     ⟨b8,_,_,aG,rfl,rfl,bj.o,b4.o,ae,by rw[S.2.1];exact z,by rw[S.2.2.1];exact ah,by rw[S.1];exact ag,q87 O.o HP.o bf.o u⟩);have dn:=Z9 u;clear u S ae;go_wp2_with fail;go_meet;exact HF.o
   rw[q5d hp];have HF:=LH (show UK P own H i k j a H2 w1 (ZX a) (Wm eQ (p:Int)) w5 from⟨L1,p,H2,g,rfl,rfl,ab.o,aA.o,M.o,z,ah,ag,q42 O.o hp⟩);clear hp;go_wp2_with fail;go_meet;exact HF.o
  obtain⟨β,kk,H3,l,rfl,rfl,ay,aX,aY,aR,aJ,aI,aP⟩:=hcut;rename D0=>w6
  have ao:=LH (aC.o β _ _ aP);obtain⟨ap,m⟩:=ay.tx i h1 Z0;obtain⟨_,_,_,_,d4,_,_,dl⟩:=m.cells;have bg:=LH m.aw;have b9:=LH m;have N:=LH ay;have a9:=LH aX;have b7:=LH aY;clear m ay aX aY aP;have aN:∀w7,Ab BP w7 ap.bp 101 (AY (Dl (H3.tx i).aw) (k:Int) (Bs (Wm eQ kk)))->Fr (λb=>b=ap.bp) w6 w7->HI w7 l P (H3.aS i k kk)/\AC w1 own w7 l:=λw7 T F=>by
   have bt:=b9.o.putPlace' (b7.o.tx i h1 Z0) aM F T;have a4:Fr (OS l (λt=>t=.tx i)) w6 w7:=F.mono (λb _ e=>⟨_,by rw[e];exact b9.o.pt,rfl⟩);exact⟨N.o.setTx' a4 (Ext.refl l _) (λb Q=>VF (N.o.lt b Q) a4.size) ⟨_,bt⟩,a9.o.trans ⟨Ext.refl l _,a4.mono (λ_ _ ⟨t,a,b⟩=>⟨t,a,DH b⟩),λ_ _ h=>h⟩⟩
  have bm:=LH aN;have b6:=LH (b7.o.aS h1 (show i<=H3.m by omega) aM kk);clear aN;cases a with
  |false=>
   go_wp2_with (at_mapUpdate;refine U1 (C:=BP) rfl 61 3 Tryz.underlying61 _ _ _ rfl rfl bg.o Zx (k:Int) (Wm eQ kk) rfl rfl (Gu Z0 Z0) ?_;intro w7 T F)
   have hg:=bm.o w7 T F;have X:=LH (show LM P own H i ks w1 (ZX L1) (Wm eQ ((q+1:Nat):Int)) w7 from⟨q+1,L1,_,rfl,rfl,Z0,⟨l,hg.1,hg.2⟩,b6.o,aR,aJ,aI,ao.o⟩);clear hg T F;go_roundw;exact X.o;simp[intOf];omega
  |true=>
   go_wp2_with (at_mapUpdate;refine U1 (C:=BP) rfl 61 3 Tryz.underlying61 _ _ _ rfl rfl bg.o Zx (k:Int) (Wm eQ kk) rfl rfl (Gu Z0 Z0) ?_;intro w7 T F)
   have hg:=bm.o w7 T F;obtain⟨C7,V7,L7,b1,_⟩:=hg.1.nd k j (show k<H3.c by omega) (show j<H3.n by omega);have bA:=LH (qc6 b1);have X:=LH (show LM P own H i ks w1 (ZX (decide (H3.ao k j > kk))) (Wm eQ ((q+1:Nat):Int)) w7 from⟨q+1,_,_,rfl,rfl,Z0,⟨l,hg.1,hg.2⟩,b6.o,aR,aJ,aI,by have:=ao.o;rw[Bool.true_and]at this;exact this⟩);clear hg T F b1;refine bA.o.mono ?_;rintro e w8 ⟨rfl,rfl⟩;go_wp2_with fail;go_roundw;exact X.o;simp[intOf];omega
 obtain rfl:q=ks.length:=by omega
 have b3:2 ∉ ks:=λh=>by have:=bh.o 2 h;omega
 cases a with
 |false=>
  obtain⟨b,_,Q⟩:=R.done b3 L1;have HF:=LH (show LL P own H i w (ZY (ZX L1)) wr from⟨b,by rw[bn.o b H2 Q],g,by rw[bn.o b H2 Q];exact K,(HZ.below own am.o).trans U⟩);clear K U R Q;go_wp2_with fail;go_ret;exact HF.o
 |true=>
  have bo:=LH (Ln K a8 z h1 (show i<=H2.m by omega));have bE:=LH (λβ=>R.done b3 β);have al:=LH ((HZ.below own am.o).trans U);unfold pw at bo;clear K U R a8;go_wp2_with fail;refine bo.o.mono ?_;rintro e w9 ⟨β,rfl,E,J,I⟩;obtain⟨b,aV,Q⟩:=bE.o β;have hE:=bz.o b H2 Q;rw[aV]at hE;have HF:=LH (show LL P own H i w (ZY (ZX (H2.bj i β).2)) w9 from⟨b,by rw[hE],E,by rw[hE];exact J,al.o.trans I⟩);clear J I hE Q aV;go_wp2_with fail;go_ret;exact HF.o
structure Sm(H H':Hs):Prop where
 n:H'.n=H.n
 c:H'.c=H.c
 m:H'.m=H.m
def Sm.refl(H:Hs):Sm H H:=⟨rfl,rfl,rfl⟩
def Sm.trans{A B C:Hs}(h:Sm A B)(k:Sm B C):Sm A C:=⟨k.n.trans h.n,k.c.trans h.c,k.m.trans h.m⟩
def Sm.add(H:Hs)(s j:Nat)(c:Cm)(b:Bool):Sm H (H.add s j c b).2:=⟨(Dt H s j c b).1,(Dt H s j c b).2.1,(Dt H s j c b).2.2.1⟩
def Sm.b3(H:Hs)(i:Nat)(kind:Int):Sm H (H.b3 i kind):=⟨(UZ i kind _ H).1,(UZ i kind _ H).2.1,(UZ i kind _ H).2.2.1⟩
def Ik(H:Hs)(i:Nat):Sm H (H.a3 i)/\(H.a3 i).ah=H.ah/\∀a,((H.a3 i).tx a).aa=(if a=i then 4 else(H.tx a).aa)/\((H.a3 i).tx a).ae=(H.tx a).ae/\((H.a3 i).tx a).af=(H.tx a).af/\((H.a3 i).tx a).aw=(H.tx a).aw/\((H.a3 i).tx a).ah=(H.tx a).ah:=by
 rw[I9];obtain⟨B,A,a3,z,a5⟩:=Gv i (H.tx i).ag (H.an i);obtain⟨y,x,v,u,t⟩:=UZ i 4 ((reld (H.an i) i (H.tx i).ag).tx i).ag (reld (H.an i) i (H.tx i).ag);refine⟨⟨y.trans A,x.trans B,v.trans a3⟩,u.trans z,λa=>?_⟩;obtain⟨q,p,o,n,m⟩:=a5 a;obtain⟨l,g,f,d,c⟩:=t a;have r:∀a,((H.an i).tx a)=if a=i then {H.tx i with aa:=4,ak:=[]}else H.tx a:=λa=>rfl
 have e:=r a;by_cases h:a=i;subst h;rw[Z8 rfl]at e;rw[Z8 rfl];exact⟨l.trans (q.trans (by rw[e])),g.trans (p.trans (by rw[e])),f.trans (o.trans (by rw[e])),d.trans (n.trans (by rw[e])),c.trans (m.trans (by rw[e]))⟩;rw[Z7 h]at e;rw[Z7 h];exact⟨l.trans (q.trans (by rw[e])),g.trans (p.trans (by rw[e])),f.trans (o.trans (by rw[e])),d.trans (n.trans (by rw[e])),c.trans (m.trans (by rw[e]))⟩
def q29(H:Hs)(i k:Nat)(a:Int)(x:Nat):((H.aS i k a).tx x).aa=(H.tx x).aa:=by show(Af H.tx i _ x).aa=_;by_cases e:x=i;subst e;rw[Aq];rw[Ay e]
structure E1(H:Hs)(i:Nat)(r:Hs×Option Bool):Prop where
 sm:Sm H r.1
 other:∀a,a≠i->(r.1.tx a).aa=(H.tx a).aa
 o:r.2=B0->(r.1.tx i).aa=4
 on:r.2≠B0->(r.1.tx i).aa=(H.tx i).aa
def q6q(H:Hs)(i k:Nat)(b:Bool):E1 H i (H.aU i k b):=by
 have l:∀c:Hs,Sm H c->(∀a,(c.tx a).aa=(H.tx a).aa)->E1 H i (c.a3 i,B0):=λc q o=>by
  obtain⟨u,_,t⟩:=Ik c i;refine⟨q.trans u,λa n=>?_,λ_=>?_,λh=>ZB rfl h⟩;show((c.a3 i).tx a).aa=_;rw[(t a).1,Z7 n,o];show((c.a3 i).tx i).aa=4;rw[(t i).1,Z8 rfl]
 have d:∀(c:Hs)(x:Bool),Sm H c->(∀a,(c.tx a).aa=(H.tx a).aa)->E1 H i (c,Bs x):=λc x q o=>⟨q,λa _=>o a,λh=>(by cases h),λ_=>o i⟩
 cases f:H.head k with
 |none=>rw[q64 f];exact d H L1 (Sm.refl H) (λ_=>rfl)
 |some j=>
  cases g:place ((H.sh k).nd j).a4 2 i with
  |some p=>rw[q42 f g];exact d _ _ ⟨rfl,rfl,rfl⟩ (q29 H i k p)
  |none=>
   by_cases m:DB H i k;by_cases r:(H.tx i).ah=0;rw[q65 f g m r];exact l H (Sm.refl H) (λ_=>rfl);rw[q86 f g m r];exact d H L1 (Sm.refl H) (λ_=>rfl);have hs:=Dt H k j ⟨2,i,0,(H.tx i).of k⟩ b;by_cases n:(H.add k j ⟨2,i,0,(H.tx i).of k⟩ b).1<0;rw[q85 f g m n];exact l _ (Sm.add _ _ _ _ _) (λa=>(hs.2.2.2.2 a).1);rw[q87 f g m n];exact d _ _ ((Sm.add H k j _ b).trans ⟨rfl,rfl,rfl⟩) (λa=>(q29 _ i k _ a).trans (hs.2.2.2.2 a).1)
def Wf.aU{H:Hs}(h:Wf H)(o:H.c=3){i k:Nat}(f:1<=i)(d:i<=H.m)(n:k<2)(b:Bool):Wf (H.aU i k b).1:=by
 cases a:H.head k with
 |none=>rw[q64 a];exact h
 |some j=>
  cases c:place ((H.sh k).nd j).a4 2 i with
  |some p=>rw[q42 a c];exact h.aS f d n p
  |none=>
   by_cases g:DB H i k;by_cases m:(H.tx i).ah=0;rw[q65 a c g m];exact h.a3 o f d;rw[q86 a c g m];exact h;have hs:=Dt H k j ⟨2,i,0,(H.tx i).of k⟩ b;have l:=h.add (s:=k) Z0 (q61 a) (h.db f d k) b;by_cases q:(H.add k j ⟨2,i,0,(H.tx i).of k⟩ b).1<0;rw[q85 a c g q];exact l.a3 (by rw[hs.2.1];exact o) f (by rw[hs.2.2.1];exact d);rw[q87 a c g q];exact l.aS f (by rw[hs.2.2.1];exact d) n _
def q4e(i:Nat)(b:Nat->Bool):∀(ks:List Nat)(H:Hs)(c:Bool),E1 H i (Hs.aG i b ks H c)
 |[],H,c=>⟨Sm.refl H,λ_ _=>rfl,λh=>(by cases h),λ_=>rfl⟩
 |k::ks,H,c=>by
  have d:=q6q H i k (b k);show E1 H i (match (H.aU i k (b k)).2 with|none=>((H.aU i k (b k)).1,B0)|some a=>Hs.aG i b ks (H.aU i k (b k)).1 (c && a));cases e:(H.aU i k (b k)).2 with
  |none=>exact⟨d.sm,d.other,λ_=>d.o e,λh=>ZB rfl h⟩
  |some a=>
   have f:=q4e i b ks (H.aU i k (b k)).1 (c && a);exact⟨d.sm.trans f.sm,λx g=>(f.other x g).trans (d.other x g),f.o,λh=>(f.on h).trans (d.on (by rw[e];simp))⟩
def Wf.aG{i:Nat}{b:Nat->Bool}(f:1<=i):∀(ks:List Nat) {H:Hs} (c:Bool),Wf H->H.c=3->i<=H.m->(∀k∈ks,k<2)->Wf (Hs.aG i b ks H c).1
 |[],H,c,h,_,_,_=>h
 |k::ks,H,c,h,hc,hi,hk=>by
  have g:=q6q H i k (b k);have d:=h.aU hc f hi (hk k (VB ..)) (b k);show Wf (match (H.aU i k (b k)).2 with|none=>((H.aU i k (b k)).1,B0)|some a=>Hs.aG i b ks (H.aU i k (b k)).1 (c && a)).1;cases e:(H.aU i k (b k)).2 with
  |none=>exact d
  |some a=>exact Wf.aG f ks _ d (g.sm.c.trans hc) (by rw[g.sm.m];exact hi) (λx l=>hk x (VE _ l))
def q2e(H:Hs)(i a:Nat):((H.av i).tx a).aa=(H.tx a).aa:=by unfold Hs.av;split;show(Af H.tx i _ a).aa=_;by_cases e:a=i;subst e;rw[Aq];rw[Ay e];rfl
def q67(H:Hs)(i a:Nat):((H.commit i).tx a).aa=if a=i then 3 else(H.tx a).aa:=by have h:=((UZ i 3 ((H.aF i 3).tx i).ag (H.aF i 3)).2.2.2.2 a).1;show((telld (H.aF i 3) i 3 ((H.aF i 3).tx i).ag).tx a).aa=_;rw[h];show(Af H.tx i _ a).aa=_;by_cases e:a=i;subst e;rw[Aq,Z8 rfl];rw[Ay e,Z7 e]
def Sm.commit(H:Hs)(i:Nat):Sm H (H.commit i):=(⟨rfl,rfl,rfl⟩:Sm H (H.aF i 3)).trans (Sm.b3 _ _ _)
structure D1(H:Hs)(i:Nat)(r:Hs×Bool):Prop where
 sm:Sm H r.1
 other:∀a,a≠i->(r.1.tx a).aa=(H.tx a).aa
 yes:r.2=VD->(r.1.tx i).aa≠2
 no:r.2=L1->(r.1.tx i).aa=(H.tx i).aa
def qe4(H:Hs)(i:Nat)(b:Bool):D1 H i (H.bj i b):=by
 have d:∀c:Hs,Sm H c->(∀a,(c.tx a).aa=(H.tx a).aa)->D1 H i (c,L1):=λc q m=>⟨q,λa _=>m a,λh=>(by cases h),λ_=>m i⟩
 have l:∀c:Hs,Sm H c->(∀a,(c.tx a).aa=(H.tx a).aa)->D1 H i (c.commit i,VD):=λc q m=>by
  refine⟨q.trans (Sm.commit c i),λa t=>?_,λ_=>?_,λh=>(by cases h)⟩;show((c.commit i).tx a).aa=_;rw[q67,Z7 t,m];show((c.commit i).tx i).aa≠2;rw[q67,Z8 rfl];decide
 cases o:H.head 2 with
 |none=>rw[q6s o];exact d H (Sm.refl H) (λ_=>rfl)
 |some j=>
  cases r:place ((H.sh 2).nd j).a4 3 i with
  |some p=>
   rw[q6r o r];split;exact d H (Sm.refl H) (λ_=>rfl);exact l H (Sm.refl H) (λ_=>rfl)
  |none=>
   rw[q8v o r];have n:=FI H i;have hs:=Dt (H.av i) 2 j ⟨3,i,((H.av i).tx i).ah,[]⟩ b;have g:Sm H ((H.av i).add 2 j ⟨3,i,((H.av i).tx i).ah,[]⟩ b).2:=(⟨n.1,n.2.1,n.2.2.1⟩:Sm H (H.av i)).trans (Sm.add _ _ _ _ _);have f:∀a,(((H.av i).add 2 j ⟨3,i,((H.av i).tx i).ah,[]⟩ b).2.tx a).aa=(H.tx a).aa:=λa=>((hs.2.2.2.2 a).1).trans (q2e H i a)
   split;exact d _ g f;split;exact d _ g f;exact l _ g f
def Wf.bj{H:Hs}(h:Wf H)(n:H.c=3){i:Nat}(d:1<=i)(c:i<=H.m)(b:Bool):Wf (H.bj i b).1:=by
 cases f:H.head 2 with
 |none=>rw[q6s f];exact h
 |some j=>
  cases m:place ((H.sh 2).nd j).a4 3 i with
  |some p=>
   rw[q6r f m];split;exact h;exact h.commit n d c
  |none=>
   rw[q8v f m];have a:=FI H i;have l:=q61 f;have g:=(h.av d c).add (s:=2) (j:=j) (by rw[a.2.1];omega) (by rw[a.1];exact l) ((h.av d c).eB d (by rw[a.2.2.1];exact c)) b;have hs:=Dt (H.av i) 2 j ⟨3,i,((H.av i).tx i).ah,[]⟩ b;split;exact g;split;exact g;exact g.commit (by rw[hs.2.1,a.2.1];exact n) d (by rw[hs.2.2.1,a.2.2.1];exact c)
def Nz(H:Hs)(i:Nat)(b:Nat->Bool)(d:(H.tx i).aa=2):D1 H i (H.ends i b):=by
 have f:=q4e i b (H.tx i).ag H VD;cases e:(Hs.aG i b (H.tx i).ag H VD).2 with
 |none=>
  rw[q63 (show _=((Hs.aG i b (H.tx i).ag H VD).1,B0)from by rw[<- e])];exact⟨f.sm,f.other,λ_=>by show(((Hs.aG i b (H.tx i).ag H VD).1).tx i).aa≠2;rw[f.o e];decide,λh=>(by cases h)⟩
 |some a=>
  cases a with
  |false=>
   rw[q55 (show _=((Hs.aG i b (H.tx i).ag H VD).1,Bs L1)from by rw[<- e])];exact⟨f.sm,f.other,λh=>(by cases h),λ_=>f.on (by rw[e];simp)⟩
  |true=>
   rw[q54 (show _=((Hs.aG i b (H.tx i).ag H VD).1,Bs VD)from by rw[<- e])];have g:=qe4 (Hs.aG i b (H.tx i).ag H VD).1 i (b 2);exact⟨f.sm.trans g.sm,λx c=>(g.other x c).trans (f.other x c),g.yes,λh=>(g.no h).trans (f.on (by rw[e];simp))⟩
def Wf.ends{H:Hs}(h:Wf H)(g:H.c=3){i:Nat}(l:1<=i)(d:i<=H.m)(b:Nat->Bool):Wf (H.ends i b).1:=by
 have f:=q4e i b (H.tx i).ag H VD;have c:=Wf.aG (b:=b) l (H.tx i).ag VD h g d (λk m=>Cb m);cases e:(Hs.aG i b (H.tx i).ag H VD).2 with
 |none=>rw[q63 (show _=((Hs.aG i b (H.tx i).ag H VD).1,B0)from by rw[<- e])];exact c
 |some a=>
  cases a with
  |false=>rw[q55 (show _=((Hs.aG i b (H.tx i).ag H VD).1,Bs L1)from by rw[<- e])];exact c
  |true=>
   rw[q54 (show _=((Hs.aG i b (H.tx i).ag H VD).1,Bs VD)from by rw[<- e])];exact c.bj (f.sm.c.trans g) l (by rw[f.sm.m];exact d) _
def q20(H:Hs)(i:Nat)(b:Nat->Bool):D1 H i (H.az i b)/\((H.az i b).2=VD->(H.tx i).aa=2):=by
 unfold Hs.az;have c:∀kind,D1 H i (H.b3 i kind,L1):=λkind=>⟨Sm.b3 H i kind,λa _=>((UZ i kind _ H).2.2.2.2 a).1,λh=>(by cases h),λ_=>((UZ i kind _ H).2.2.2.2 i).1⟩
 split;rename_i d;exact⟨Nz H i b d,λ_=>d⟩;split;exact⟨c 3,λh=>(by cases h)⟩;split;exact⟨c 4,λh=>(by cases h)⟩;exact⟨⟨Sm.refl H,λ_ _=>rfl,λh=>(by cases h),λ_=>rfl⟩,λh=>(by cases h)⟩
def Wf.az{H:Hs}(h:Wf H)(c:H.c=3){i:Nat}(d:1<=i)(a:i<=H.m)(b:Nat->Bool):Wf (H.az i b).1:=by unfold Hs.az;split;exact h.ends c d a b;split;exact h.b3 c d a 3;split;exact h.b3 c d a 4;exact h
def PW(H:Hs):Nat:=((Wh 1 H.m).filter λa=>decide ((H.tx a).aa=2)).length
def JX(H:Hs)(c:1<=i)(d:i<=H.m)(b:Nat->Bool):((H.az i b).2=L1->PW (H.az i b).1=PW H)/\((H.az i b).2=VD->PW (H.az i b).1+1=PW H):=by obtain⟨f,g⟩:=q20 H i b;unfold PW;rw[f.sm.m];constructor;intro h;congr 1;apply XK;intro a _;by_cases e:a=i;subst e;rw[f.no h];rw[f.other a e];intro h;refine(q8t (i:=i) (by simp[f.yes h]) (by simp[g h]) List.nodup_range' (List.mem_range'_1.2 ⟨c,Z0⟩) (λk _ e=>by rw[f.other k e])).symm
def qcf(bs:Nat->Nat->Bool):∀(k i:Nat)(r:Hs×Bool),Hs.round bs (k+1) i r=(((Hs.round bs k i r).1.az (i+k) (bs (i+k))).1,((Hs.round bs k i r).1.az (i+k) (bs (i+k))).2 || (Hs.round bs k i r).2)
 |0,i,r=>rfl
 |k+1,i,r=>by
  have:=qcf bs k (i+1) ((r.1.az i (bs i)).1,(r.1.az i (bs i)).2 || r.2);show Hs.round bs (k+1) (i+1) _=_;rw[this,show i+1+k=i+(k+1) by omega];rfl
def qad{bs bs':Nat->Nat->Bool} : ∀(k i:Nat)(r:Hs×Bool),(∀a,i<=a->a<i+k->bs a=bs' a)->Hs.round bs k i r=Hs.round bs' k i r
 |0,_,_,_=>rfl
 |k+1,i,r,h=>by
  show Hs.round bs k (i+1) ((r.1.az i (bs i)).1,_)=Hs.round bs' k (i+1) ((r.1.az i (bs' i)).1,_);rw[h i (Hi _) Z0];exact qad k (i+1) _ (λa d c=>h a Z0 Z0)
def Lv(H:Hs)(s j:Nat):Prop:=j<H.n/\(H.sh s).aq ((H.sh s).nd j).id=L1
def Fy{H:Hs} : j∈(H.sh s).ai H.n↔Lv H s j:=by simp[Bv.ai,Lv]
def BW(s j:Nat):Int:=10*s+j
def lg(H:Hs)(s j:Nat):List Cm:=((H.sh s).nd j).a4
structure Cfg(H:Hs)(s:Nat)(L:List Nat):Prop where
 aH:L.Pairwise (· < ·)
 lt:∀j∈L,j<H.n
 mem:∀j,Lv H s j->j∈L
 nd:∀j,Lv H s j->((H.sh s).nd j).ad=(H.sh s).ad/\((H.sh s).nd j).aI=L.map (BW s)/\∃p,L[p]? = Bs j/\((H.sh s).nd j).aN=(p:Nat)
structure MsI(H:Hs)(s j:Nat)(m:Ms):Prop where
 ep:m.ad<=(H.sh s).ad
 fwd:m.ad=(H.sh s).ad->m.aj=3->∃k:Nat,m.n=k/\(lg H s j)[k]? = Bs m.aY
 st:m.ad=(H.sh s).ad->m.aj=4->∀i,Lv H s i->m.n<=(lg H s i).length
structure B6(H:Hs):Prop where
 n4:H.n<=4
 bL:∀s j,s<H.c->j<H.n->((H.sh s).nd j).id=BW s j
 bX:∀s,s<H.c->∃L,Cfg H s L
 pre:∀s,s<H.c->∀i j,i<=j->Lv H s i->Lv H s j->lg H s j <+: lg H s i
 st:∀s,s<H.c->∀i j,Lv H s i->Lv H s j->((H.sh s).nd i).ao<=(lg H s j).length
 dn:∀s j,s<H.c->j<H.n->H.net.aq (BW s j)=(H.sh s).aq (BW s j)
 ms:∀m∈H.net.l,H.net.aq m.ar=L1/\H.net.aq m.a8=L1/\∃s j,s<H.c/\j<H.n/\m.ar=BW s j/\MsI H s j m
def qdx{t:Nat}(a:j<10)(c:i<10)(h:BW s j=BW t i):s=t/\j=i:=by unfold BW at h;omega
structure AP(H H':Hs):Prop where
 n:H'.n=H.n
 c:H'.c=H.c
 net:H'.net=H.net
 nd:∀s,(H'.sh s).nd=(H.sh s).nd
 aq:∀s,(H'.sh s).aq=(H.sh s).aq
 ad:∀s,(H'.sh s).ad=(H.sh s).ad
def AP.refl(H:Hs):AP H H:=⟨rfl,rfl,rfl,λ_=>rfl,λ_=>rfl,λ_=>rfl⟩
def AP.trans{A B C:Hs}(h:AP A B)(k:AP B C):AP A C:=
 ⟨k.n.trans h.n,k.c.trans h.c,k.net.trans h.net,λs=>(k.nd s).trans (h.nd s),λs=>(k.aq s).trans (h.aq s),λs=>(k.ad s).trans (h.ad s)⟩
def AP.lv(h:AP H H') : Lv H' s j↔Lv H s j:=by unfold Lv;rw[h.n,h.aq,h.nd]
def AP.lg(h:AP H H')(s j:Nat):lg H' s j=lg H s j:=by unfold Go.Proofs.YtccahlhdifadfaaGreatDoor.lg;rw[h.nd]
def AP.bX(h:AP H H'){L:List Nat}(k:Cfg H s L):Cfg H' s L:=
 ⟨k.aH,by rw[h.n];exact k.lt,λj a=>k.mem j (h.lv.1 a),λj a=>by rw[h.nd,h.ad];exact k.nd j (h.lv.1 a)⟩
def AP.msI(h:AP H H')(k:MsI H s j m):MsI H' s j m:=
 ⟨by rw[h.ad];exact k.ep,by rw[h.ad,h.lg];exact k.fwd,by rw[h.ad];exact λe c i a=>by rw[h.lg];exact k.st e c i (h.lv.1 a)⟩
def B6.same(h:B6 H)(k:AP H H'):B6 H':=
 ⟨by rw[k.n];exact h.n4,by rw[k.n,k.c];exact λs j hs a=>by rw[k.nd];exact h.bL s j hs a,by rw[k.c];exact λs hs=>(h.bX s hs).imp λ_ g=>k.bX g,
  by rw[k.c];exact λs hs i j c d a=>by rw[k.lg,k.lg];exact h.pre s hs i j c (k.lv.1 d) (k.lv.1 a),
  by rw[k.c];exact λs hs i j d a=>by rw[k.lg,k.nd];exact h.st s hs i j (k.lv.1 d) (k.lv.1 a),
  by rw[k.c,k.n,k.net];exact λs j hs a=>by rw[k.aq];exact h.dn s j hs a,
  by rw[k.c,k.n,k.net];exact λm f=>by obtain⟨o,n,s,j,hs,a,l,hI⟩:=h.ms m f;exact⟨o,n,s,j,hs,a,l,k.msI hI⟩⟩
def AP.take(H:Hs)(s:Nat):AP H (H.take s):=by
 have h:=BK.take H s;have hs:∀k,((H.take s).sh k).nd=(H.sh k).nd/\((H.take s).sh k).aq=(H.sh k).aq/\((H.take s).sh k).ad=(H.sh k).ad:=λk=>by
  by_cases e:k=s;subst e;exact⟨h.nd,h.aq,h.ad⟩;rw[h.sh k e];exact⟨rfl,rfl,rfl⟩
 exact⟨h.n,h.c,h.net,λk=>(hs k).1,λk=>(hs k).2.1,λk=>(hs k).2.2⟩
def AP.ay(H:Hs)(i:Nat)(t:Bu):AP H (H.ay i t):=⟨rfl,rfl,rfl,λ_=>rfl,λ_=>rfl,λ_=>rfl⟩
def AP.b6(H:Hs)(T:Tb)(tx:Int):AP H (H.b6 T tx):=⟨rfl,rfl,rfl,λ_=>rfl,λ_=>rfl,λ_=>rfl⟩
def AP.ax{H:Hs}{s:Nat}{x:Bv}(d:x.nd=(H.sh s).nd)(c:x.aq=(H.sh s).aq)(a:x.ad=(H.sh s).ad):AP H (H.ax s x):=by
 have hs:∀k,((H.ax s x).sh k).nd=(H.sh k).nd/\((H.ax s x).sh k).aq=(H.sh k).aq/\((H.ax s x).sh k).ad=(H.sh k).ad:=λk=>by
  by_cases e:k=s;subst e;rw[CJ];exact⟨d,c,a⟩;rw[show(H.ax s x).sh k=H.sh k from Ay e _];exact⟨rfl,rfl,rfl⟩
 exact⟨rfl,rfl,rfl,λk=>(hs k).1,λk=>(hs k).2.1,λk=>(hs k).2.2⟩
def AP.bF(H:Hs)(s:Nat)(tx:Int):AP H (H.bF s tx):=(AP.ax (x:={H.sh s with tab:=Bp (H.sh s).tab tx}) rfl rfl rfl).trans (AP.b6 _ _ _)
def Gn{s:Be}(h:x∈(AR s m).l):x∈s.l\/(x=m/\s.aq m.ar=L1/\s.aq m.a8=L1):=by unfold AR at h;split at h;exact eR h;rename_i a;unfold CE at a;simp only[X7,not_or,Bool.not_eq_true]at a;obtain h|h:=ZD.1 h;exact eR h;exact eS ⟨VU.1 h,a.1.1,a.1.2⟩
def qaa:∀(ms:List Ms) {s:Be} {x:Ms},x∈(EW s ms).l->x∈s.l\/(x∈ms/\s.aq x.ar=L1/\s.aq x.a8=L1)
 |[],_,_,h=>eR h
 |m::ms,s,x,h=>by
  have f:x∈(EW (AR s m) ms).l:=h;obtain c|⟨c,d⟩:=qaa ms f;obtain a|⟨rfl,a⟩:=Gn c;exact eR a;exact eS ⟨VB,a⟩;rw[q4v]at d;exact eS ⟨VE _ c,d⟩
def B6.ez(h:B6 H){l:List Ms}(hl:∀m∈l,m∈H.net.l):B6 {H with net:=⟨l,H.net.aq⟩}:=
 ⟨h.n4,h.bL,λs hs=>(h.bX s hs).imp λ_ g=>⟨g.aH,g.lt,g.mem,g.nd⟩,h.pre,h.st,h.dn,λm a=>by
  obtain⟨n,f,s,j,hs,c,d,hI⟩:=h.ms m (hl m a);exact⟨n,f,s,j,hs,c,d,hI.ep,hI.fwd,hI.st⟩⟩
def EH(H:Hs)(s j:Nat)(d:Nd):(H.au s j d).sh s = {H.sh s with nd:=Af (H.sh s).nd j d}:=CJ _ _ _
def Jb(H:Hs){k:Nat}(j:Nat)(d:Nd)(h:k≠s):(H.au s j d).sh k=H.sh k:=Ay h _
def q6m(a:d.id=((H.sh s).nd j).id){t:Nat} : Lv (H.au s j d) t i↔Lv H t i:=by unfold Lv;by_cases e:t=s;subst e;rw[EH];by_cases c:i=j;subst c;simp only[Aq,a];exact Yw;simp only[Ay c];exact Yw;rw[Jb H j d e];exact Yw
def q5i(H:Hs)(s j:Nat)(d:Nd)(t i:Nat):lg (H.au s j d) t i=if t=s/\i=j then d.a4 else lg H t i:=by unfold lg;by_cases e:t=s;subst e;rw[EH];by_cases a:i=j;subst a;simp[Aq];simp[Ay a,a];rw[Jb H j d e];simp[e]
structure NdT(H:Hs)(s j:Nat)(d:Nd)(ms:List Ms):Prop where
 id:d.id=((H.sh s).nd j).id
 ad:d.ad=((H.sh s).nd j).ad
 aI:d.aI=((H.sh s).nd j).aI
 aN:d.aN=((H.sh s).nd j).aN
 grows:lg H s j <+: d.a4
 lo:∀i,i<j->Lv H s i->d.a4 <+: lg H s i
 st:d.ao<=d.a4.length/\∀i,i≠j->Lv H s i->d.ao<=(lg H s i).length
 ms:∀m∈ms,m.ar=d.id/\m.ad=d.ad/\(m.aj=3->∃k:Nat,m.n=k/\d.a4[k]? = Bs m.aY)/\(m.aj=4->m.n<=d.ao)
def getElem?_prefix{α:Type}{l l':List α}(h:l <+: l'){k:Nat}{a:α}(c:l[k]? = Bs a):l'[k]? = Bs a:=by obtain⟨t,rfl⟩:=h;rw[VZ (ZC.1 c).1];exact c
def B6.node(h:B6 H)(hs:s<H.c)(hl:Lv H s j)(t:NdT H s j d ms):B6 ((H.au s j d).aO ms):=by
 have l:∀{a i},Lv ((H.au s j d).aO ms) a i↔Lv H a i:=λ{a i}=>q6m (H:=H) t.id
 have p:∀a i,lg ((H.au s j d).aO ms) a i=if a=s/\i=j then d.a4 else lg H a i:=q5i H s j d
 have o:∀a,((H.au s j d).aO ms).sh a=(H.au s j d).sh a:=λa=>rfl
 have r:∀a,(((H.au s j d).aO ms).sh a).ad=(H.sh a).ad:=λa=>by
  rw[o];by_cases e:a=s;subst e;rw[EH];rw[Jb H j d e]
 have z:∀a i,lg H a i <+: lg ((H.au s j d).aO ms) a i:=λa i=>by
  rw[p];split;rename_i e;obtain⟨rfl,rfl⟩:=e;exact t.grows;exact VO _
 have u:((H.au s j d).aO ms).net.aq=H.net.aq:=q38 _ _;refine⟨h.n4,λa i q n=>?_,λa q=>?_,λa q i k F n A=>?_,λa q i k n A=>?_,λa i q n=>?_,λm B=>?_⟩;rw[o];by_cases e:a=s;subst e;rw[EH];by_cases f:i=j;subst f;simp only[Aq,t.id];exact h.bL a i q n;simp only[Ay f];exact h.bL a i q n;rw[Jb H j d e];exact h.bL a i q n;obtain⟨L,g⟩:=h.bX a q;refine⟨L,g.aH,g.lt,λi n=>g.mem i (l.1 n),λi n=>?_⟩;have J:=g.nd i (l.1 n);rw[r,o];by_cases e:a=s;subst e;rw[EH];by_cases f:i=j;subst f;simp only[Aq,t.ad,t.aI,t.aN];exact J;simp only[Ay f];exact J;rw[Jb H j d e];exact J;have y:=l.1 n;have v:=l.1 A;have E:=h.pre a q i k F y v;rw[p,p];by_cases e:a=s;subst e;by_cases e1:i=j;subst e1;by_cases f:k=i;subst f;exact VO _;rw[Z7 (by simp[f]),Z8 ⟨rfl,rfl⟩];exact E.trans t.grows;rw[Z7 (c:=a=a/\i=j) (by simp[e1])];by_cases f:k=j;subst f;rw[Z8 ⟨rfl,rfl⟩];exact t.lo i Z0 y;rw[Z7 (by simp[f])];exact E;rw[Z7 (by simp[e]),Z7 (by simp[e])];exact E;have y:=l.1 n;have v:=l.1 A;have R:=h.st a q i k y v;have K:=(z a k).length_le;by_cases e:a=s/\i=j;obtain⟨rfl,rfl⟩:=e;rw[o,EH];simp only[Aq];by_cases e:k=i;subst e;rw[p,Z8 ⟨rfl,rfl⟩];exact t.st.1;have:=t.st.2 k e v;omega;have U:(((H.au s j d).aO ms).sh a).nd i=(H.sh a).nd i:=by
  rw[o];by_cases e1:a=s;subst e1;rw[EH];exact Ay (λf=>e ⟨rfl,f⟩) _;rw[Jb H j d e1]
 rw[U];omega;rw[u];have:=h.dn a i q n;rw[o];by_cases e:a=s;subst e;rw[EH];exact this;rw[Jb H j d e];exact this;rw[u];have C:∀{a i:Nat} {x:Ms},MsI H a i x->MsI ((H.au s j d).aO ms) a i x:=λ{a i x} g=>
  ⟨by rw[r];exact g.ep,by rw[r];exact λe1 f=>(g.fwd e1 f).imp λk A=>⟨A.1,getElem?_prefix (z a i) A.2⟩,
   by rw[r];exact λe1 f k A=>Int.le_trans (g.st e1 f k (l.1 A)) (Z4 ((z a k).length_le))⟩
 obtain B|⟨B,I,G⟩:=qaa ms B;obtain⟨I,G,a,i,q,n,S,hI⟩:=h.ms m B;exact⟨I,G,a,i,q,n,S,C hI⟩;obtain⟨Q,O,N,M⟩:=t.ms m B;obtain⟨L,g⟩:=h.bX s hs;have T:d.ad=(H.sh s).ad:=t.ad.trans (g.nd j hl).1;refine⟨I,G,s,j,hs,hl.1,by rw[Q,t.id];exact h.bL s j hs hl.1,by rw[r,O,T];exact WH _,λ_ f=>?_,λ_ f i n=>?_⟩;rw[p,Z8 ⟨rfl,rfl⟩];exact N f;have:=M f;by_cases e:i=j;subst e;rw[p,Z8 ⟨rfl,rfl⟩];have:=t.st.1;omega;have V:=t.st.2 i e (l.1 n);have:=(z s i).length_le;omega
def Oo{L:List Nat}(hs:L.Pairwise (· < ·)){p:Nat}(d:L[p]? = Bs i)(c:L[q]? = Bs j):(p<q->i<j)/\(p<=q->i<=j):=by rw[List.getElem?_eq_some_iff]at d c;obtain⟨g,e1⟩:=d;obtain⟨f,l⟩:=c;have h:=ZO.1 hs;refine⟨λa=>Z4 (h p q g f a),λa=>?_⟩;by_cases e:p=q;subst e;omega;have:=h p q g f Z0;omega
def Mt{L:List Nat}(hs:L.Pairwise (· < ·)){p:Nat}(d:L[p]? = Bs i)(c:L[q]? = Bs j)(h:i<j):p<q:=by obtain a|a:=Xd p q;exact a;have:=(Oo hs c d).2 a;omega
section
variable {H:Hs}{s j:Nat}
structure At(H:Hs)(s j:Nat)(L:List Nat)(p:Nat):Prop where
 bX:Cfg H s L
 ix:L[p]? = Bs j
 aN:((H.sh s).nd j).aN=(p:Nat)
 aI:((H.sh s).nd j).aI=L.map (BW s)
 ad:((H.sh s).nd j).ad=(H.sh s).ad
def B6.aN(h:B6 H)(hs:s<H.c)(hl:Lv H s j):∃L p,At H s j L p:=by obtain⟨L,g⟩:=h.bX s hs;obtain⟨f,d,p,c,a⟩:=g.nd j hl;exact⟨L,p,g,c,a,d,f⟩
def At.tail{L:List Nat}{p:Nat}(a:At H s j L p):((H.sh s).nd j).tail=decide (p+1=L.length):=by unfold Nd.tail;rw[a.aN,a.aI,V0];have:=(ZC.1 a.ix).1;rw[XW];simp only[ge_iff_le,Wl,decide_eq_true_eq,beq_iff_eq];omega
def At.head{L:List Nat}{p:Nat}(a:At H s j L p):((H.sh s).nd j).head=decide (p=0):=by unfold Nd.head;rw[a.aN,XW];simp only[beq_iff_eq,decide_eq_true_eq];omega
def At.ec{L:List Nat}{p:Nat}(a:At H s j L p)(f:p+1=L.length)(d:Lv H s i):i<=j:=by obtain⟨q,c⟩:=ZI.1 (a.bX.mem i d);have:=(ZC.1 c).1;exact(Oo a.bX.aH c a.ix).2 Z0
def At.eA{L:List Nat}(a:At H s j L 0)(d:Lv H s i):j<=i:=by obtain⟨q,c⟩:=ZI.1 (a.bX.mem i d);exact(Oo a.bX.aH a.ix c).2 Z0
def At.a8{L:List Nat}{p:Nat}(a:At H s j L p){b:Int}{q i:Nat}(d:(p:Int)+b=q)(c:L[q]? = Bs i):((H.sh s).nd j).a8 b=BW s i:=by unfold Nd.a8;rw[a.aN,a.aI,d];simp[c]
def q9i(h:B6 H)(hs:s<H.c)(hl:Lv H s j)(d:∀m∈ms,m.ar=((H.sh s).nd j).id/\m.ad=((H.sh s).nd j).ad/\(m.aj=3->∃k:Nat,m.n=k/\((H.sh s).nd j).a4[k]? = Bs m.aY)/\(m.aj=4->m.n<=((H.sh s).nd j).ao)):NdT H s j ((H.sh s).nd j) ms:=
 ⟨rfl,rfl,rfl,rfl,VO _,λi c a=>h.pre s hs i j (Yt c) a hl,⟨h.st s hs j j hl hl,λi _ c=>h.st s hs j i hl c⟩,d⟩
def Tn(h:B6 H)(hs:s<H.c)(hl:Lv H s j):NdT H s j ((H.sh s).nd j).aD.1 ((H.sh s).nd j).aD.2:=by obtain⟨L,p,a⟩:=h.aN hs hl;unfold Nd.aD;rw[Z7 (by rw[a.aN];omega),a.tail];by_cases f:p+1=L.length;rw[ZA f,Z8 rfl];refine⟨rfl,rfl,rfl,rfl,VO _,λi d g=>h.pre s hs i j (Yt d) g hl,⟨WH _,λi _ d=>?_⟩,λm c=>?_⟩;have:=(h.pre s hs i j (a.ec f d) d hl).length_le;show((lg H s j).length:Int)<=_;omega;simp only at c;split at c;rw[VU]at c;subst c;exact⟨rfl,rfl,λe=>(by simp[Nd.b9,Nd.a6]at e),λ_=>WH _⟩;cases c;rw[Z9 f,Z7 Z3];refine q9i h hs hl (λm c=>?_);rw[VU]at c;subst c;exact⟨rfl,rfl,λe=>(by simp[Nd.b9,Nd.a6]at e),λe=>(by simp[Nd.b9,Nd.a6]at e)⟩
def Ko(h:B6 H)(hs:s<H.c)(hl:Lv H s j)(c:Cm)(n:∀i,i<j->Lv H s i->lg H s j++[c] <+: lg H s i):NdT H s j (((H.sh s).nd j).aP c).1 (((H.sh s).nd j).aP c).2:=by obtain⟨L,p,a⟩:=h.aN hs hl;have f:lg H s j <+: lg H s j++[c]:=List.prefix_append _ _;have o:=h.st s hs j j hl hl;unfold Nd.aP;rw[a.tail];by_cases g:p+1=L.length;rw[ZA g,Z8 rfl];unfold Nd.aD;rw[Z7 (by show ¬((H.sh s).nd j).aN<0;rw[a.aN];omega),show(((H.sh s).nd j).push c).tail=VD from(show _=((H.sh s).nd j).tail from rfl).trans (by rw[a.tail,ZA g]),Z8 rfl];refine⟨rfl,rfl,rfl,rfl,f,n,⟨WH _,λi q l=>?_⟩,λm d=>?_⟩;have:=(n i (Z4 (a.ec g l)) l).length_le;show((lg H s j++[c]).length:Int)<=_;omega;simp only at d;split at d;rw[VU]at d;subst d;exact⟨rfl,rfl,λe=>(by simp[Nd.b9,Nd.a6]at e),λ_=>WH _⟩;cases d;rw[Z9 g,Z7 Z3];refine⟨rfl,rfl,rfl,rfl,f,n,⟨?_,λi _ l=>h.st s hs j i hl l⟩,λm d=>?_⟩;show _<=((lg H s j++[c]).length:Int);rw[VJ];show((H.sh s).nd j).ao<=_;omega;rw[VU]at d;subst d;refine⟨rfl,rfl,λ_=>⟨((H.sh s).nd j).a4.length,rfl,?_⟩,λe=>(by simp[Nd.b9,Nd.a6]at e)⟩;show(((H.sh s).nd j).a4++[c])[((H.sh s).nd j).a4.length]? = Bs ((((((H.sh s).nd j).a4++[c])[((H.sh s).nd j).a4.length]?)).getD cm0);simp
def B6.cI(h:B6 H)(g:m∈H.net.l)(hs:s<H.c)(a:i<H.n)(d:m.ar=BW s i):Lv H s i/\MsI H s i m:=by obtain⟨n,_,s2,o,f,l,c,hI⟩:=h.ms m g;have p:=h.n4;obtain⟨rfl,rfl⟩:=qdx Z0 Z0 (d.symm.trans c);refine⟨⟨a,?_⟩,hI⟩;rw[h.bL s i hs a,<- h.dn s i hs a,<- d];exact n
def qdr(h:B6 H)(hs:s<H.c)(hl:Lv H s j)(z:m∈H.net.l):NdT H s j (((H.sh s).nd j).step m).1 (((H.sh s).nd j).step m).2:=by
 have v:NdT H s j ((H.sh s).nd j) []:=q9i h hs hl (λm z=>by cases z);obtain⟨L,p,a⟩:=h.aN hs hl;unfold Nd.step;split;exact v;rename_i U;simp only[not_or]at U;obtain⟨_,g,_⟩:=U;have g:m.ad=(H.sh s).ad:=(Classical.not_not.1 g).trans a.ad;have l:(decide (((H.sh s).nd j).aN > 0) && m.ar == ((H.sh s).nd j).a8 (-1))=VD->∃i,L[p-1]? = Bs i/\0<p/\Lv H s i/\MsI H s i m:=λe=>by
  simp only[Wl,decide_eq_true_eq,beq_iff_eq]at e;obtain⟨e1,R⟩:=e;rw[a.aN]at e1;have y:p-1<L.length:=Z4 ((ZC.1 a.ix).1);obtain⟨i,f⟩:∃i,L[p-1]? = Bs i:=⟨_,K0 y⟩
  have M:=a.bX.lt i (N2 f);obtain⟨X,W⟩:=h.cI z hs M (R.trans (a.a8 Z0 f));exact⟨i,f,Z0,X,W⟩
 have n:(!((H.sh s).nd j).tail && m.ar == ((H.sh s).nd j).a8 1)=VD->∃i,Lv H s i/\MsI H s i m:=λe=>by
  simp only[Wl,beq_iff_eq,XQ]at e;obtain⟨e1,R⟩:=e;rw[a.tail,decide_eq_false_iff_not]at e1;have y:p+1<L.length:=Z4 ((ZC.1 a.ix).1);obtain⟨i,f⟩:∃i,L[p+1]? = Bs i:=⟨_,K0 y⟩
  exact⟨i,h.cI z hs (a.bX.lt i (N2 f)) (R.trans (a.a8 Z0 f))⟩
 simp only;split;refine q9i h hs hl (λx d=>?_);rw[VU]at d;subst d;exact⟨rfl,rfl,λe=>(by simp[Nd.b9,Nd.a6]at e),λe=>(by simp[Nd.b9,Nd.a6]at e)⟩;split;refine q9i h hs hl (λx d=>?_);obtain⟨k,u,rfl⟩:=ZE.1 d;rw[XJ]at u;refine⟨rfl,rfl,λ_=>⟨k,rfl,?_⟩,λe=>(by simp[Nd.b9,Nd.a6]at e)⟩;show((H.sh s).nd j).a4[k]? = Bs ((((H.sh s).nd j).a4[k]?).getD cm0);rw[K0 Z0];rfl;split;rename_i u;obtain⟨K,Q,V,_⟩:=u;obtain⟨i,f,y,o,hI⟩:=l Q;obtain⟨k,u,A⟩:=hI.fwd g K;have I:k=(lg H s j).length:=by have Y:(k:Int)=((lg H s j).length:Nat):=u.symm.trans V;omega
 subst I;have N:i<j:=(Oo a.bX.aH f a.ix).1 Z0;have E:=h.pre s hs i j (Yt N) o hl;have O:lg H s j++[m.aY] <+: lg H s i:=by
  obtain⟨t,S⟩:=E;rw[<- S,Wg (Hi _),Nat.sub_self]at A;cases t with
  |nil=>simp at A
  |cons x t=>
   simp only[Ft,VN]at A;subst A;exact⟨t,by rw[<- S];simp⟩
 refine Ko h hs hl m.aY (λq C c=>?_);obtain⟨r,T⟩:=ZI.1 (a.bX.mem q c);have Z:=Mt a.bX.aH T a.ix C;exact O.trans (h.pre s hs q i ((Oo a.bX.aH T f).2 Z0) c o);split;rename_i u;obtain⟨J,F,h0,G⟩:=u;obtain⟨i,o,hI⟩:=n F;have B:=hI.st g J;refine⟨rfl,rfl,rfl,rfl,VO _,λq C c=>h.pre s hs q j (Yt C) c hl,⟨?_,λq _ c=>?_⟩,λx d=>?_⟩;exact Int.max_le.2 ⟨h.st s hs j j hl hl,G⟩;exact Int.max_le.2 ⟨h.st s hs j q hl c,B q c⟩;simp only at d;split at d;rw[VU]at d;subst d;exact⟨rfl,rfl,λe=>(by simp[Nd.b9,Nd.a6]at e),λ_=>WH _⟩;cases d;exact v
def CS(h:H.head s=Bs j):Lv H s j/\((H.sh s).nd j).head=VD:=by have c:=WY h;have a:=List.find?_some h;exact⟨Fy.1 c,a⟩
def B6.bf(h:B6 H)(hs:s<H.c)(hl:Lv H s j):B6 (Hs.bf s H j):=h.node hs hl (Tn h hs hl)
def B6.add(h:B6 H)(hs:s<H.c)(m:H.head s=Bs j)(c:Cm)(b:Bool):B6 (H.add s j c b).2:=by
 obtain⟨hl,f⟩:=CS m;unfold Hs.add;split;exact h;rename_i g;have e:(((H.sh s).nd j).add c b).1=((H.sh s).nd j).aP c:=by
  unfold Nd.add at *;rw[f]at *;simp only[Bool.not_true,Yd,if_false]at *;split;rename_i n;rw[Z8 n]at g;simp at g;rfl
 simp only[e];obtain⟨L,p,a⟩:=h.aN hs hl;rw[a.head]at f;have l:p=0:=Z6 f;subst l;exact(h.node hs hl (Ko h hs hl c (λi o d=>ZB (a.eA d) Z0))).same (AP.take _ _)
def q4c{id:Int}{q:Nat×Nat}(d:H.c=3)(h:H.node id=Bs q):q.1<H.c/\Lv H q.1 q.2/\((H.sh q.1).nd q.2).id=id:=by have a:=WY h;have f:=List.find?_some h;rw[List.mem_flatMap]at a;obtain⟨s,hs,a⟩:=a;obtain⟨j,c,rfl⟩:=ZE.1 a;refine⟨?_,Fy.1 c,Z6 f⟩;rw[d];simp at hs;show s<3;omega
def B6.cW(h:B6 H)(k:Nat):B6 {H with net:=Go.Proofs.YtccahlhdifadfaaGreatDoor.takeS H.net k}:=h.ez (λ_ a=>XR a)
def B6.aE(h:B6 H)(f:H.c=3){k:Nat}{m:Ms}(d:H.net.l[k]? = Bs m):B6 (({H with net:=Go.Proofs.YtccahlhdifadfaaGreatDoor.takeS H.net k} : Hs).aE m):=by
 unfold Hs.aE;cases c:Hs.node {H with net:=Go.Proofs.YtccahlhdifadfaaGreatDoor.takeS H.net k} m.a8 with
 |none=>exact h.cW k
 |some q=>
  obtain⟨s,j⟩:=q;obtain⟨hs,hl,_⟩:=q4c (H:={H with net:=Go.Proofs.YtccahlhdifadfaaGreatDoor.takeS H.net k}) f c;have t:=qdr h (s:=s) (j:=j) hs hl (N2 d);have a:NdT {H with net:=Go.Proofs.YtccahlhdifadfaaGreatDoor.takeS H.net k} s j (((H.sh s).nd j).step m).1 (((H.sh s).nd j).step m).2:=⟨t.id,t.ad,t.aI,t.aN,t.grows,t.lo,t.st,t.ms⟩
  exact((h.cW k).node hs hl a).same (AP.take _ _)
def B6.fail(h:B6 H)(O:H.c=3)(id:Int):B6 (H.fail id):=by
 unfold Hs.fail;cases M:H.node id with
 |none=>exact h
 |some q=>
  obtain⟨s,j⟩:=q;obtain⟨hs,hl,o⟩:=q4c O M;have hs:s<H.c:=hs;have o:((H.sh s).nd j).id=id:=o;have E:id=BW s j:=o.symm.trans (h.bL s j hs hl.1);show B6 ({H.ax s {H.sh s with aq:=λi=>decide (i=id) || (H.sh s).aq i}with net:=E7 H.net id} : Hs);generalize v:({H.ax s {H.sh s with aq:=λi=>decide (i=id) || (H.sh s).aq i}with net:=E7 H.net id} : Hs)=H2;have r:∀a,H2.sh a=if a=s then {H.sh s with aq:=λi=>decide (i=id) || (H.sh s).aq i}else H.sh a:=λa=>by rw[<- v];rfl
  have F:H2.n=H.n:=by rw[<- v];rfl
  have Q:H2.c=H.c:=by rw[<- v];rfl
  have n:H2.net=E7 H.net id:=by rw[<- v]
  have c:∀a,(H2.sh a).nd=(H.sh a).nd/\(H2.sh a).ad=(H.sh a).ad:=λa=>by
   rw[r];split;rename_i e;subst e;exact⟨rfl,rfl⟩;exact⟨rfl,rfl⟩
  have d:∀{a i},Lv H2 a i->Lv H a i:=λ{a i} A=>by
   obtain⟨z,p⟩:=A;rw[(c a).1,r]at p;rw[F]at z;refine⟨z,?_⟩;split at p;rename_i e;subst e;simp only[Yy]at p;exact p.2;exact p
  have f:∀a i,lg H2 a i=lg H a i:=λa i=>by unfold lg;rw[(c a).1]
  clear v;refine⟨by rw[F];exact h.n4,λa i u l=>by rw[(c a).1];exact h.bL a i Z0 Z0,λa u=>?_,λa u i k C l B=>?_,λa u i k l B=>?_,λa i u l=>?_,λm I=>?_⟩;obtain⟨L,g⟩:=h.bX a Z0;exact⟨L,g.aH,by rw[F];exact g.lt,λi l=>g.mem i (d l),λi l=>by rw[(c a).1,(c a).2];exact g.nd i (d l)⟩;rw[f,f];exact h.pre a Z0 i k C (d l) (d B);rw[f,(c a).1];exact h.st a Z0 i k (d l) (d B);have J:=h.dn a i Z0 Z0;rw[n,r];show(decide (BW a i=id) || H.net.aq (BW a i))=_;split;rename_i e;subst e;rw[J];rename_i e;rw[J];have:BW a i≠id:=λG=>e (qdx (Z4 h.n4) (Z5 h.n4 hl.1) (G.trans E)).1
  simp[this];rw[n]at I ⊢;have t:=YO.1 I;obtain⟨z,p,a,i,u,l,N,hI⟩:=h.ms m t.1;have y:=t.2;unfold gone at y;simp only[XQ,Yy,decide_eq_false_iff_not]at y;exact⟨by show(decide (m.ar=id) || H.net.aq m.ar)=L1;simp[y.1,z],by show(decide (m.a8=id) || H.net.aq m.a8)=L1;simp[y.2,p],a,i,Z0,Z0,N,
   ⟨by rw[(c a).2];exact hI.ep,by rw[(c a).2,f];exact hI.fwd,by rw[(c a).2];exact λe1 G x K=>by rw[f];exact hI.st e1 G x (d K)⟩⟩
end
def TF{L:List Nat}(c:j∈L)(f:∀i∈L,i<10):∃p,L[p]? = Bs j/\DS (BW s j) (L.map (BW s))=(p:Nat):=by unfold DS;rcases a:(L.map (BW s)).findIdx? (λy=>BW s j == y)with _|i;rw[Wp]at a;have:=a (BW s j) (ZE.2 ⟨j,c,rfl⟩);simp at this;rw[VP]at a;obtain⟨hl,d,_⟩:=a;simp only[List.getElem_map,beq_iff_eq]at d;rw[V0]at hl;refine⟨i,?_,rfl⟩;rw[K0 hl,(qdx (f j c) (f _ (Wy hl)) d).2]
structure U5(H:Hs)(s:Nat):Prop where
 hs:s<H.c
 n4:H.n<=4
 bL:∀s j,s<H.c->j<H.n->((H.sh s).nd j).id=BW s j
 bX:∀a,a<H.c->a≠s->∃L,Cfg H a L
 pre:∀s,s<H.c->∀i j,i<=j->Lv H s i->Lv H s j->lg H s j <+: lg H s i
 st:∀s,s<H.c->∀i j,Lv H s i->Lv H s j->((H.sh s).nd i).ao<=(lg H s j).length
 dn:∀s j,s<H.c->j<H.n->H.net.aq (BW s j)=(H.sh s).aq (BW s j)
 ms:∀m∈H.net.l,H.net.aq m.ar=L1/\H.net.aq m.a8=L1/\∃s j,s<H.c/\j<H.n/\m.ar=BW s j/\MsI H s j m
 aN:∀j,Lv H s j->0<=((H.sh s).nd j).aN\/(lg H s j=[]/\((H.sh s).nd j).ao=0)
 ep:0<=(H.sh s).ad/\(H.sh s).ad<=1000000
def B6.toF{H:Hs}(h:B6 H)(hs:s<H.c)(d:0<=(H.sh s).ad/\(H.sh s).ad<=1000000):U5 H s:=
 ⟨hs,h.n4,h.bL,λa f _=>h.bX a f,h.pre,h.st,h.dn,h.ms,λj c=>by obtain⟨L,p,a⟩:=h.aN hs c;left;rw[a.aN];omega,d⟩
structure LZ(H0 H:Hs)(s:Nat)(e:Int)(L:List Nat)(D:Nat->Prop):Prop where
 n:H.n=H0.n
 c:H.c=H0.c
 sh:∀a,a≠s->H.sh a=H0.sh a
 aq:(H.sh s).aq=(H0.sh s).aq
 ad:(H.sh s).ad=e
 nd0:∀j,¬D j->(H.sh s).nd j=(H0.sh s).nd j
 nd1:∀j,D j->((H.sh s).nd j).id=((H0.sh s).nd j).id/\((H.sh s).nd j).ad=e/\((H.sh s).nd j).aI=L.map (BW s)/\(∃p,L[p]? = Bs j/\((H.sh s).nd j).aN=(p:Nat))/\lg H s j=lg H0 s j/\
  ∀i,Lv H0 s i->((H.sh s).nd j).ao<=(lg H0 s i).length
 nl:∀m∈H.net.l,H0.net.aq m.ar=L1/\H0.net.aq m.a8=L1/\(m∈H0.net.l\/∃j,j<H0.n/\m.ar=BW s j/\m.ad=e/\m.aj≠3/\(m.aj=4->∀i,Lv H0 s i->m.n<=(lg H0 s i).length))
 ndd:H.net.aq=H0.net.aq
variable {H0:Hs}{e:Int}{L:List Nat}{D:Nat->Prop}
def LZ.bS(h:LZ H0 H s e L D)(o:U5 H0 s)(E:∀i,i∈L↔Lv H0 s i)(A:L.Pairwise (· < ·)){j:Nat}(t:Lv H0 s j)(K:¬D j) :
  LZ H0 (Hs.aM s (L.map (BW s)) H j) s e L (λi=>i=j\/D i):=by
 have J:=o.n4;obtain⟨p,B,r⟩:=TF (s:=s) ((E j).2 t) (λi c=>Z4 (((E i).1 c).1));have n:=o.bL s j o.hs t.1;have O:=h.nd0 j K;have z:=λi c=>o.st s o.hs j i t c
 have G:=(ZC.1 B).1;have C:(((H.sh s).nd j).bS (H.sh s).ad (L.map (BW s)))=⟨BW s j,e,L.map (BW s),(p:Nat),lg H0 s j,((H0.sh s).nd j).ao⟩:=by
  rw[O,h.ad];unfold Nd.bS;obtain u|⟨u,M⟩:=o.aN j t;rw[Z7 Z0,n,r];rfl;split;rw[n,r,u,M];rw[n,r];rfl
 have l:p+1=L.length->∀i,Lv H0 s i->(lg H0 s j).length<=(lg H0 s i).length:=λg i c=>by
  obtain⟨q,F⟩:=ZI.1 ((E i).2 c);have:=(ZC.1 F).1;exact(o.pre s o.hs i j ((Oo A F B).2 Z0) c t).length_le
 have y:∃d ms,Hs.aM s (L.map (BW s)) H j=(H.au s j d).aO ms/\d.id=BW s j/\d.ad=e/\d.aI=L.map (BW s)/\d.aN=(p:Nat)/\d.a4=lg H0 s j/\(∀i,Lv H0 s i->d.ao<=(lg H0 s i).length)/\
   ∀m∈ms,m.ar=BW s j/\m.ad=e/\m.aj≠3/\(m.aj=4->∀i,Lv H0 s i->m.n<=(lg H0 s i).length):=by
  unfold Hs.aM;rw[C];unfold Nd.aD;rw[Z7 (show ¬((p:Nat):Int)<0 by omega)];have I:(Nd.mk (BW s j) e (L.map (BW s)) (p:Nat) (lg H0 s j) ((H0.sh s).nd j).ao).tail=decide (p+1=L.length):=by
   unfold Nd.tail;rw[XW];simp only[V0,ge_iff_le,Wl,decide_eq_true_eq,beq_iff_eq];omega
  rw[I];by_cases g:p+1=L.length;rw[ZA g,Z8 rfl];refine⟨_,_,rfl,rfl,rfl,rfl,rfl,rfl,λi c=>?_,λm f=>?_⟩;have:=l g i c;show((lg H0 s j).length:Int)<=_;omega;simp only at f;split at f;rw[VU]at f;subst f;refine⟨rfl,rfl,by simp[Nd.b9],λ_ i c=>?_⟩;have:=l g i c;show((lg H0 s j).length:Int)<=_;omega;cases f;rw[Z9 g,Z7 Z3];refine⟨_,_,rfl,rfl,rfl,rfl,rfl,rfl,z,λm f=>?_⟩;rw[VU]at f;subst f;exact⟨rfl,rfl,by simp[Nd.b9],λQ=>by simp[Nd.b9]at Q⟩
 obtain⟨d,ms,N,X,W,V,U,T,S,R⟩:=y;rw[N];refine⟨h.n,h.c,λa u=>(Jb H j d u).trans (h.sh a u),?_,?_,λi c=>?_,λi c=>?_,λm f=>?_,?_⟩;show((H.au s j d).sh s).aq=_;rw[EH];exact h.aq;show((H.au s j d).sh s).ad=_;rw[EH];exact h.ad;show((H.au s j d).sh s).nd i=_;rw[EH];exact(Ay (λe=>c (eR e)) _).trans (h.nd0 i (λh=>c (eS h)));show(((H.au s j d).sh s).nd i).id=_/\(((H.au s j d).sh s).nd i).ad=_/\(((H.au s j d).sh s).nd i).aI=_/\(∃p,L[p]? = Bs i/\(((H.au s j d).sh s).nd i).aN=(p:Nat))/\lg (H.au s j d) s i=_/\∀k,Lv H0 s k->(((H.au s j d).sh s).nd i).ao<=_;rw[q5i,EH];by_cases e1:i=j;subst e1;simp only[Aq];exact⟨X.trans n.symm,W,V,⟨p,B,U⟩,Z6 T,S⟩;simp only[Ay e1];rw[Z7 (by simp[e1])];exact h.nd1 i (c.resolve_left e1);obtain f|⟨f,x,v⟩:=qaa ms f;exact h.nl m f;have x:H.net.aq m.ar=L1:=x;have v:H.net.aq m.a8=L1:=v;rw[h.ndd]at x v;obtain⟨a1,Z,a3,Y⟩:=R m f;exact⟨x,v,eS ⟨j,t.1,a1,Z,a3,Y⟩⟩;exact(q38 _ _).trans h.ndd
def LZ.congr{a:Nat->Prop}(h:LZ H0 H s e L D)(c:∀j,D j↔a j):LZ H0 H s e L a:=by
 have:D=a:=funext λj=>propext (c j)
 rw[<- this];exact h
def LZ.e7(d:U5 H0 s)(f:∀i,i∈L↔Lv H0 s i)(a:L.Pairwise (· < ·)):∀(l:List Nat) {H:Hs} {D:Nat->Prop},LZ H0 H s e L D->(∀j∈l,Lv H0 s j/\¬D j)->l.Nodup->LZ H0 (l.foldl (Hs.aM s (L.map (BW s))) H) s e L (λi=>i∈l\/D i)
 |[],_,_,h,_,_=>h.congr (λj=>Z3)
 |j::l,H,D,h,hl,hn=>by
  rw[YN]at hn;have n:=h.bS d f a (hl j VB).1 (hl j VB).2;have m:=LZ.e7 d f a l n (λi c=>⟨(hl i (VE _ c)).1,λg=>g.elim (λe=>hn.1 (e▸c)) (hl i (VE _ c)).2⟩) hn.2;refine m.congr (λi=>?_);rw[Ye];constructor;rintro (h|h|h);exact eR (eS h);exact eR (eR h);exact eS h;rintro ((h|h)|h);exact eS (eR h);exact eR h;exact eS (eS h)
def q3x(x:Bv)(n:Nat):(x.ai n).Pairwise (· < ·):=Yg _ List.pairwise_lt_range
def LZ.done(h:LZ H0 H s e L D)(o:U5 H0 s)(G:∀i,i∈L↔Lv H0 s i)(x:L.Pairwise (· < ·))(I:∀i,D i↔Lv H0 s i)(S:e=(H0.sh s).ad+1):B6 H:=by
 have q:∀a i,a<H.c->i<H.n->((H.sh a).nd i).id=BW a i:=λa i c f=>by
  rw[h.c]at c;rw[h.n]at f;by_cases e1:a=s;subst e1;by_cases n:D i;rw[(h.nd1 i n).1];exact o.bL a i c f;rw[h.nd0 i n];exact o.bL a i c f;rw[h.sh a e1];exact o.bL a i c f
 have d:∀{a i},a<H.c->(Lv H a i↔Lv H0 a i):=λ{a i} c=>by
  have v:a<H0.c:=h.c▸c;have E:(H.sh a).aq=(H0.sh a).aq:=by
   by_cases e1:a=s;subst e1;exact h.aq;rw[h.sh a e1]
  unfold Lv;rw[E,h.n];constructor;rintro ⟨p,r⟩;rw[q a i c (by rw[h.n];exact p)]at r;rw[o.bL a i v p];exact⟨p,r⟩;rintro ⟨p,r⟩;rw[o.bL a i v p]at r;rw[q a i c (by rw[h.n];exact p)];exact⟨p,r⟩
 have l:∀a i,lg H a i=lg H0 a i:=λa i=>by
  by_cases e1:a=s;subst e1;by_cases n:D i;exact(h.nd1 i n).2.2.2.2.1;unfold lg;rw[h.nd0 i n];unfold lg;rw[h.sh a e1]
 have u:s<H.c:=by rw[h.c];exact o.hs
 refine⟨by rw[h.n];exact o.n4,q,λa c=>?_,λa c i k A f t=>?_,λa c i k f t=>?_,λa i c f=>?_,λm J=>?_⟩;by_cases e1:a=s;subst e1;refine⟨L,x,λi f=>by rw[h.n];exact((G i).1 f).1,λi f=>(G i).2 ((d c).1 f),λi f=>?_⟩;obtain⟨_,R,a3,Q,_⟩:=h.nd1 i ((I i).2 ((d c).1 f));rw[h.ad];exact⟨R,a3,Q⟩;obtain⟨M,g⟩:=o.bX a (h.c▸c) e1;refine⟨M,g.aH,by rw[h.n];exact g.lt,λi f=>g.mem i ((d c).1 f),λi f=>?_⟩;rw[h.sh a e1];exact g.nd i ((d c).1 f);rw[l,l];exact o.pre a (h.c▸c) i k A ((d c).1 f) ((d c).1 t);rw[l];by_cases e1:a=s;subst e1;exact(h.nd1 i ((I i).2 ((d c).1 f))).2.2.2.2.2 k ((d c).1 t);rw[h.sh a e1];exact o.st a (h.c▸c) i k ((d c).1 f) ((d c).1 t);rw[h.ndd];have:=o.dn a i (h.c▸c) (h.n▸f);by_cases e1:a=s;subst e1;rw[h.aq];exact this;rw[h.sh a e1];exact this;rw[h.ndd];obtain⟨p,r,F⟩:=h.nl m J;refine⟨p,r,?_⟩;obtain F|⟨j,K,C,N,z,y⟩:=F;obtain⟨_,_,a,i,c,f,B,hI⟩:=o.ms m F;refine⟨a,i,by rw[h.c];exact c,by rw[h.n];exact f,B,?_⟩;by_cases e1:a=s;subst e1;have:=hI.ep;exact⟨by rw[h.ad];omega,by rw[h.ad];exact λn=>Z0,by rw[h.ad];exact λn=>Z0⟩;exact⟨by rw[h.sh a e1];exact hI.ep,by rw[h.sh a e1,l];exact hI.fwd,by rw[h.sh a e1];exact λn O k t=>by rw[l];exact hI.st n O k ((d (by rw[h.c];exact c)).1 t)⟩;exact⟨s,j,u,by rw[h.n];exact K,C,by rw[h.ad];omega,λ_ n=>ZB n z,λ_ n i f=>by rw[l];exact y n i ((d u).1 f)⟩
structure FixF(H H':Hs)(s:Nat):Prop where
 chi:B6 H'
 n:H'.n=H.n
 c:H'.c=H.c
 m:H'.m=H.m
 lv:∀a i,a<H.c->(Lv H' a i↔Lv H a i)
 lg:∀a i,lg H' a i=lg H a i
 sh:∀a,a≠s->H'.sh a=H.sh a
 aq:∀a,(H'.sh a).aq=(H.sh a).aq
 ad:((H'.sh s).ad=(H.sh s).ad/\(H.sh s).ai H.n=[])\/(H'.sh s).ad=(H.sh s).ad+1
 ah:H'.ah=H.ah
 tx:∀i,(H'.tx i).aa=(H.tx i).aa/\(H'.tx i).ae=(H.tx i).ae/\(H'.tx i).af=(H.tx i).af/\(H'.tx i).aw=(H.tx i).aw/\(H'.tx i).ah=(H.tx i).ah
def q7a(s:Nat)(ids:List Int):∀(l:List Nat)(H:Hs),(l.foldl (Hs.aM s ids) H).n=H.n/\(l.foldl (Hs.aM s ids) H).c=H.c/\(l.foldl (Hs.aM s ids) H).m=H.m/\(l.foldl (Hs.aM s ids) H).ah=H.ah/\(l.foldl (Hs.aM s ids) H).tx=H.tx
 |[],_=>⟨rfl,rfl,rfl,rfl,rfl⟩
 |j::l,H=>by
  obtain⟨g,f,d,c,a⟩:=q7a s ids l (Hs.aM s ids H j);exact⟨g,f,d,c,a⟩
def Bv.e8{H:Hs}(h:∀j,Lv H s j->((H.sh s).nd j).id=BW s j):(H.sh s).bL H.n=((H.sh s).ai H.n).map (BW s):=by unfold Bv.bL;exact List.map_congr_left (λj a=>h j (Fy.1 a))
def q9n{H:Hs}(hl:(H.sh s).ai H.n≠[]):H.fix s=H.bN s:=by unfold Hs.fix;rw[Z7 hl]
def qe3{H:Hs}(hl:(H.sh s).ai H.n=[]):H.fix s=H:=by unfold Hs.fix;rw[Z8 hl]
def U5.fix{H:Hs}{s:Nat}(h:U5 H s):FixF H (H.fix s) s:=by
 by_cases hl:(H.sh s).ai H.n=[];rw[qe3 hl];have z:∀i,¬Lv H s i:=λi E=>by have:=Fy.2 E;rw[hl]at this;cases this
 refine⟨⟨h.n4,h.bL,λa l=>?_,h.pre,h.st,h.dn,h.ms⟩,rfl,rfl,rfl,λ_ _ _=>Yw,λ_ _=>rfl,λ_ _=>rfl,λ_=>rfl,eR ⟨rfl,hl⟩,rfl,λ_=>⟨rfl,rfl,rfl,rfl,rfl⟩⟩;by_cases e:a=s;subst e;exact⟨[],Yv,λ_ h=>(nomatch h),λi E=>ZB E (z i),λi E=>ZB E (z i)⟩;exact h.bX a l e;rw[q9n hl];have N:Xt ((H.sh s).ad+1)=(H.sh s).ad+1:=Xk _ ⟨Z4 h.ep,Z4 h.ep⟩;have p:∀i,i∈(H.sh s).ai H.n↔Lv H s i:=λi=>Fy
 have r:=q3x (H.sh s) H.n;have C:=Bv.e8 (H:=H) (s:=s) (λj B=>h.bL s j h.hs B.1);unfold Hs.bN;simp only[C,N];generalize O:(H.sh s).ai H.n=L at *;generalize d:H.ax s {H.sh s with ad:=(H.sh s).ad+1,size:=L.length} = H1;have t:H1.sh s = {H.sh s with ad:=(H.sh s).ad+1,size:=L.length}:=by rw[<- d];exact CJ _ _ _
 have K:LZ H H1 s ((H.sh s).ad+1) L (λ_=>False):=by
  refine⟨by rw[<- d];rfl,by rw[<- d];rfl,λa l=>by rw[<- d];exact Ay l _,by rw[t],by rw[t],λj _=>by rw[t],λj B=>B.elim,λm J=>?_,by rw[<- d];rfl⟩;rw[<- d]at J;obtain⟨q,v,_⟩:=h.ms m J;exact⟨q,v,eR J⟩
 have g:=LZ.e7 h p r L K (λj B=>⟨(p j).1 B,λh=>h⟩) (r.imp (λ{a b} h=>Z0));have f:=q7a s (L.map (BW s)) L H1;have x:H1.tx=H.tx:=by rw[<- d];rfl
 have G:H1.ah=H.ah:=by rw[<- d];rfl
 have I:H1.m=H.m:=by rw[<- d];rfl
 generalize List.foldl (Hs.aM s (L.map (BW s))) H1 L=H2 at *;have u:=g.done h p r (λi=>by rw[p];simp) rfl;generalize n:H2.ax s {H2.sh s with tab:=λ_=>B0,sto:=λ_=>[],done:=0} = H3;have y:AP H2 H3:=by rw[<- n];exact AP.ax rfl rfl rfl
 have c:AP H2 (H3.take s):=y.trans (AP.take H3 s);have o:=BK.take H3 s;have A:∀a i,lg H2 a i=lg H a i:=λa i=>by
  by_cases e1:a=s;subst e1;by_cases M:i∈L\/False;exact(g.nd1 i M).2.2.2.2.1;unfold lg;rw[g.nd0 i M];unfold lg;rw[g.sh a e1]
 have F:∀a,(H2.sh a).aq=(H.sh a).aq:=λa=>by
  by_cases e1:a=s;subst e1;exact g.aq;rw[g.sh a e1]
 refine⟨u.same c,?_,?_,?_,λa i l=>?_,λa i=>(c.lg a i).trans (A a i),λa l=>?_,λa=>(c.aq a).trans (F a),eS ?_,?_,λi=>?_⟩;exact c.n.trans g.n;exact c.c.trans g.c;rw[o.m,<- n];exact f.2.2.1.trans I;rw[c.lv];unfold Lv;rw[g.n,F];constructor;rintro ⟨q,v⟩;rw[u.bL a i (by rw[g.c];exact l) (by rw[g.n];exact q)]at v;rw[h.bL a i l q];exact⟨q,v⟩;rintro ⟨q,v⟩;rw[h.bL a i l q]at v;rw[u.bL a i (by rw[g.c];exact l) (by rw[g.n];exact q)];exact⟨q,v⟩;rw[o.sh a l,<- n];exact(Ay l _).trans (g.sh a l);exact(c.ad s).trans g.ad;rw[o.ah,<- n];exact f.2.2.2.1.trans G;have:=o.tx i;have e:H3.tx i=H.tx i:=by rw[<- n];show H2.tx i=_;rw[f.2.2.2.2,x]
 rw[e]at this;exact this
def q5c(bs:Nat->Nat->Bool):∀(k i:Nat)(r:Hs×Bool),Sm r.1 (Hs.round bs k i r).1
 |0,_,r=>Sm.refl _
 |k+1,i,r=>(q20 r.1 i (bs i)).1.sm.trans (q5c bs k (i+1) ((r.1.az i (bs i)).1,(r.1.az i (bs i)).2 || r.2))
def Wf.round{bs:Nat->Nat->Bool} : ∀(k i:Nat) {r:Hs×Bool},Wf r.1->r.1.c=3->1<=i->i+k<=r.1.m+1->Wf (Hs.round bs k i r).1
 |0,_,_,h,_,_,_=>h
 |k+1,i,r,h,a,c,d=>by
  have f:=(q20 r.1 i (bs i)).1.sm;exact Wf.round k (i+1) (h.az a c Z0 _) (f.c.trans a) Z0 (by show i+1+k<=(r.1.az i (bs i)).1.m+1;rw[f.m];omega)
def Sm.settle{H H':Hs}(h:Ek H H'):Sm H H':=by
 induction h with
 |@stop H bs _=>exact q5c bs H.m 1 (H,L1)
 |@more H H' bs _ _ a=>exact(q5c bs H.m 1 (H,L1)).trans a
def Wf.settle{H H':Hs}(h:Ek H H'):Wf H->H.c=3->Wf H':=by
 induction h with
 |@stop H bs _=>exact λc a=>Wf.round (r:=(H,L1)) H.m 1 c a (Hi _) (by show 1+H.m<=H.m+1;omega)
 |@more H H' bs _ _ d=>exact λc a=>d (Wf.round (r:=(H,L1)) H.m 1 c a (Hi _) (by show 1+H.m<=H.m+1;omega)) ((q5c bs H.m 1 (H,L1)).c.trans a)
def Rg(P:Av)(m:Nat)(w:D0):Nat:=((Wh 1 m).filter λa=>decide (intOf ((w.cell? ⟨P.gt a,1,B0⟩).getD undef)=2)).length
def NS(P:Av)(m:Nat)(v:S2)(w:D0):Nat:=match v with
 | .bool VD=>1+Rg P m w
 |_=>0
def HI.cnt(h:HI w own P H):Rg P H.m w=PW H:=by unfold Rg PW;congr 1;apply XK;intro a d;rw[XJ]at d;obtain⟨v,c⟩:=h.tx a Z0 Z0;rw[c.cells.2.1];rfl
def OuRel(P:Av)(own:Ah)(H:Hs)(w:D0)(c:S2)(wr:D0):Prop:=
 ∃(a:Bool)(H2:Hs),c=ZX a/\Cf P own H2 w wr/\Wf H2/\H2.c=3/\H2.m=H.m/\(a=VD->∀H',Ek H2 H'->Ek H H')/\(a=L1->Ek H H2)
def UE(P:Av)(own:Ah)(H2:Hs)(w:D0)(f d:S2)(wr:D0):Prop:=
 ∃(q:Nat)(a:Bool)(bs:Nat->Nat->Bool)(c:Hs),d=Wm eQ q/\f=ZX a/\q<=H2.m/\Cf P own c w wr/\Wf c/\c.c=3/\c.m=H2.m/\Hs.round bs q 1 (H2,L1)=(c,a)/\PW c+(if a then 1 else 0)<=PW H2
def in_next{H2 c:Hs}{a:Bool}{bs:Nat->Nat->Bool}(h:Hs.round bs q 1 (H2,L1)=(c,a))(b:Nat->Bool):Hs.round (Af bs (q+1) b) (q+1) 1 (H2,L1)=((c.az (q+1) b).1,(c.az (q+1) b).2 || a):=by rw[qcf,qad (bs:=Af bs (q+1) b) (bs':=bs) q 1 (H2,L1) (λx f d=>Ay Z0 _),h];rw[show 1+q=q+1 by omega,Aq]
def in_cnt{H2 c:Hs}{a:Bool}(f:PW c+(if a then 1 else 0)<=PW H2)(d:q+1<=c.m)(b:Nat->Bool):PW (c.az (q+1) b).1+(if (c.az (q+1) b).2 || a then 1 else 0)<=PW H2:=by
 obtain⟨h,g⟩:=JX c (i:=q+1) Z0 d b;cases e:(c.az (q+1) b).2 with
 |false=>rw[h e,YR];exact f
 |true=>
  have:=g e;rw[Bool.true_or,Z8 rfl];omega
def SetP(P:Av)(own:Ah)(H:Hs)(w:D0)(e:WE)(w':D0):Prop:=e=ZY (ZZ #[])/\∃H',Ek H H'/\Cf P own H' w w'
def q4u(h:HI w own P H)(wf:Wf H)(hc:H.c=3):VX Tryz.prog 38 #[pw P.g] w (SetP P own H w):=by
 have HH:=LH h;have aa:=LH wf;clear h wf;unfold pw;go_enter Tryz.func38,Tryz.ntmps38;go_wp2_with fail;go_loopw [2] (OuRel P own H w) (λv wr=>NS P H.m v wr)
 case atStart=>exact⟨VD,H,rfl,⟨own,HH.o,HZ.refl _ _ _⟩,aa.o,hc,rfl,λ_ H' h=>h,λh=>(by cases h)⟩
 obtain⟨a,H2,rfl,⟨f,z,N⟩,O,a7,Z,C,X⟩:=hrel;cases a with
 |false=>
  have HF:=LH (show SetP P own H w (ZY (ZZ #[])) wr from⟨rfl,H2,X rfl,f,z,N⟩);clear z N C X O;go_wp2_with fail
  go_end0
  exact HF.o
 |true=>
  have U:=LH (C rfl);have T:=z.cnt;have a6:=LH T;have ag:=LH z;have a8:=LH N;have ab:=LH O;obtain⟨vh,E⟩:=z.hs;obtain⟨_,_,c4,_,gl⟩:=E.cells;obtain⟨A,c,hV,_,_⟩:=AM E.txr;rw[hV]at c4;have ad:=LH (λW own' (hz:AC wr f W own')=>(hV▸hz.fr.own E.txr (λb hb hs=>(hs.c6 (E.cf b hb)).1 rfl):W.ownsRow 0 74 1 (WK A H2.m c) H2.m ((Wh 1 H2.m).map λi=>pw (P.gt i))));have V:=LH O.cr;clear C X T z N O E hV;go_wp2_with fail;clear c4;rename D0=>W0
  go_loopw [2,11] (UE P f H2 W0) (λ_ u _=>H2.m-(intOf u).toNat)
  case atStart=>exact⟨0,L1,λ_ _=>L1,H2,rfl,rfl,VG _,⟨f,ag.o,HZ.refl _ _ _⟩,ab.o,a7,rfl,rfl,Z3⟩
  obtain⟨q,a,bs,d,rfl,rfl,hq,⟨S,x,F⟩,G,t,Y,n,M⟩:=hrel;by_cases ak:(q:Int)<H2.m
  ·obtain⟨r,c',hV,hr,u,hu,K⟩:=US (ad.o _ _ F) (k:=q) Z0;injection hV with hA _ hcp;subst hA hcp;rw[VQ,List.getElem?_range' Z0]at hu;simp only[WA,VN]at hu;rw[show 1+1*q=q+1 by omega]at hu;subst hu;unfold pw at K;obtain⟨vt,a1⟩:=x.tx (q+1) Z0 Z0;obtain⟨_,k1,_,_,_,_,_,kl⟩:=a1.cells;have R:=LH x;have Q:=LH F;have a0:=LH G;have ae:=LH (λb=>in_next n b);have ah:=LH (λb=>in_cnt M (show q+1<=d.m by omega) b);have a9:=LH (λb=>G.az t (show 1<=q+1 by omega) (show q+1<=d.m by omega) b);have ac:=LH (λb=>(q20 d (q+1) b).1.sm);have hrel:∀(b:Nat->Bool)(W:D0)(o:Ah)(H4:Hs)(y:Bool),d.az (q+1) b=(H4,y)->HI W o P H4->AC W0 f W o->UE P f H2 W0 (ZX (y || a)) (.int eQ ((q+1:Nat):Int)) W:=λb W o H4 y e hI hZ=>by
    have e1:=ae.o b;have e2:=ah.o b;have e3:=a9.o b;have e4:=ac.o b;rw[e]at e1 e2 e3 e4;exact⟨q+1,y || a,_,H4,rfl,rfl,Z0,⟨o,hI,hZ⟩,e3,e4.c.trans t,e4.m.trans Y,e1,e2⟩
   have p:=LH hrel;have ai:q<=60:=Z4 V.o;have aj:H2.m<=60:=V.o;clear hrel a1 x F G n M;by_cases s2:(d.tx (q+1)).aa=2
   ·rw[s2]at k1;have a5:=LH (TY R.o a0.o t (show 1<=q+1 by omega) (show q+1<=d.m by omega));have J:=LH (λb=>show d.az (q+1) b=d.ends (q+1) b by unfold Hs.az;rw[Z8 s2]);unfold pw at a5;clear s2;go_wp2_with fail;refine a5.o.mono ?_;rintro e w5 ⟨b,rfl,l,g,m⟩;rcases hE:d.ends (q+1) b with ⟨H4,y⟩
    rw[hE]at g;have B:=LH (p.o b w5 l H4 y ((J.o b).trans hE) g (Q.o.trans m));clear g m k1 K hE
    dsimp only
    cases y with
    |false=>
     rw[YR]at B;go_wp2_with fail;go_roundw;exact B.o;simp[intOf];omega
    |true=>
     rw[Bool.true_or]at B;go_wp2_with fail;go_roundw;exact B.o;simp[intOf];omega
   have e2:((d.tx (q+1)).aa == 2)=L1:=Z6 s2;by_cases s3:(d.tx (q+1)).aa=3
   ·have I:=LH (q7i (kind:=3) R.o a0.o t (show 1<=q+1 by omega) (show q+1<=d.m by omega));have J:=LH (show d.az (q+1) (λ_=>L1)=(d.b3 (q+1) 3,L1) by unfold Hs.az;rw[Z7 s2,Z8 s3]);unfold pw at I;rw[s3]at k1;clear s2 e2 s3;go_wp2_with fail;refine I.o.mono ?_;rintro e w5 ⟨rfl,l,g,m⟩;have B:=LH (p.o _ w5 l _ _ J.o g (Q.o.trans m));clear g m k1 K;rw[YR]at B;go_wp2_with fail;go_roundw;exact B.o;simp[intOf];omega
   have e3:((d.tx (q+1)).aa == 3)=L1:=Z6 s3;by_cases s4:(d.tx (q+1)).aa=4
   ·have I:=LH (q7i (kind:=4) R.o a0.o t (show 1<=q+1 by omega) (show q+1<=d.m by omega));have J:=LH (show d.az (q+1) (λ_=>L1)=(d.b3 (q+1) 4,L1) by unfold Hs.az;rw[Z7 s2,Z7 s3,Z8 s4]);unfold pw at I;rw[s4]at k1;clear s2 e2 s3 e3 s4;go_wp2_with fail;refine I.o.mono ?_;rintro e w5 ⟨rfl,l,g,m⟩;have B:=LH (p.o _ w5 l _ _ J.o g (Q.o.trans m));clear g m k1 K;rw[YR]at B;go_wp2_with fail;go_roundw;exact B.o;simp[intOf];omega
   have e4:((d.tx (q+1)).aa == 4)=L1:=Z6 s4;have B:=LH (p.o (λ_=>L1) wr S d L1 (by unfold Hs.az;rw[Z7 s2,Z7 s3,Z7 s4]) R.o Q.o);rw[YR]at B;clear s2 s3 s4;go_wp2_with fail;go_roundw;exact B.o;simp[intOf];omega
  obtain rfl:q=H2.m:=by omega
  have a3:=x.cnt;have a4:OuRel P own H w (ZX a) wr:=by
   refine⟨a,d,rfl,⟨S,x,a8.o.trans F⟩,G,t,Y.trans Z,λha H' hs=>U.o H' ?_,λha=>U.o d ?_⟩;have:=Ek.more (H:=H2) bs (by rw[n];exact ha) (H':=H') (by rw[n];exact hs);exact this;have:=Ek.stop (H:=H2) bs (by rw[n];exact ha);rw[n]at this;exact this
  have a2:NS P H.m (ZX a) wr<NS P H.m (ZX VD) W0:=by
   have e0:=a6.o;rw[Z]at e0;rw[Y,Z]at a3;cases a with
   |false=>show 0<1+Rg P H.m W0;omega
   |true=>
    show 1+Rg P H.m wr<1+Rg P H.m W0;rw[Z8 rfl]at M;omega
  have HO:=LH a4;have af:=LH a2;clear a4 a2 a3 x F G n M;go_wp2_with fail;go_roundw
  case rel=>exact HO.o
  case measure=>exact af.o
def FP(P:Av)(own:Ah)(w:D0)(r:Int×Hs)(e:WE)(w':D0):Prop:=e=ZY (C0 r.1)/\Cf P own r.2 w w'
def q84{P:Av}{m:Nat}{id:Int}(h:id<1\/m<id):Ez P m id=ZW B0:=by unfold Ez;rw[Z8 h]
def q62{P:Av}{m:Nat}(c:1<=i)(a:i<=m):Ez P m i=pw (P.gt i):=by unfold Ez;rw[Z7 Z0];rfl
def Lj(h:HI w own P H)(c:Wf H)(r:H.c=3)(id:Int):VX Tryz.prog 16 #[pw P.g,Wm eQ id] w (FP P own w (H.drop id)):=by
 have f:=LH (q5k h (Z4 c.cr) id);by_cases a:id<1\/H.m<id
 ·have d:=LH (show FP P own w (H.drop id) (ZY (.iface 79 (Wm eQ 7))) w from by unfold Hs.drop;rw[Z8 a];exact⟨rfl,own,h,HZ.refl _ _ _⟩);rw[q84 a]at f;clear h c a;unfold pw at *;go_enter Tryz.func16,Tryz.ntmps16;go_wp2_with fail;refine f.o.mono ?_;rintro e n ⟨rfl,rfl⟩;go_wp2_with fail;go_ret;exact d.o
 obtain⟨i,rfl⟩:∃i:Nat,id=i:=⟨id.toNat,Z0⟩
 have m:1<=i:=by omega
 have l:i<=H.m:=by omega
 rw[q62 m l]at f;obtain⟨v,g⟩:=h.tx i m l;obtain⟨_,o,_,_,_,_,_,x⟩:=g.cells;by_cases s1:(H.tx i).aa=1
 ·have t:=LH (show H.drop i=(0,H.a3 i) by unfold Hs.drop;rw[Z7 a,Z7 (λh=>h s1)];rfl);have u:=LH (q4g h c r m l);rw[s1]at o;clear h c a g s1;unfold pw at *;go_enter Tryz.func16,Tryz.ntmps16;go_wp2_with fail;refine f.o.mono ?_;rintro e n ⟨rfl,rfl⟩;go_wp2_with fail;refine u.o.mono ?_;rintro e q ⟨rfl,p⟩;have d:=LH (show FP P own w (H.drop i) (ZY ZS) q from by rw[t.o];exact⟨rfl,p⟩);clear p o;go_wp2_with fail;go_ret;exact d.o
 have d:=LH (show FP P own w (H.drop i) (ZY (.iface 79 (Wm eQ 6))) w from by unfold Hs.drop;rw[Z7 a,Z8 (by exact s1)];exact⟨rfl,own,h,HZ.refl _ _ _⟩);have e1:((H.tx i).aa != 1)=VD:=Z6 s1;clear h c a g s1;unfold pw at *;go_enter Tryz.func16,Tryz.ntmps16;go_wp2_with fail;refine f.o.mono ?_;rintro e n ⟨rfl,rfl⟩;go_wp2_with fail;go_ret;exact d.o
def M0(L:List AW)(k:Nat):AI (L.eraseIdx k)=(AI L).eraseIdx k:=by unfold AI;rw[YD,YD,WQ,List.map_take,List.map_drop]
def Kq{L:List AW}{k:Nat}{x:AW}(h:L[k]? = Bs x):(AI L)[k]? = Bs x.m:=by unfold AI;rw[VQ,h];rfl
def MTakeP(P:Av)(H:Hs)(own:Ah)(k:Nat)(w:D0)(e:WE)(w':D0):Prop:=
 ∃x:AW,H.net.l[k]? = Bs x.m/\e=ZY (ZZ #[mrV x,ZS])/\HI w' own P {H with net:=takeS H.net k}/\HZ SM w own w' own/\Et w' 0 x/\x.n<=100000/\(∀b,Value.ownBlock (WK x.A x.n x.k)=Bs b->own b=Bs .net)
def HI.d3(h:HI w own P H):H.net.l.length<=200:=by obtain⟨v,a⟩:=h.hs;rw[<- a.cb];unfold AI;rw[V0];exact a.nt.len
def Kl(h:HI w own P H)(c:EP w own P H.c H.m H.net H.ah v){k:Nat}{lost':Int}(p:Fr (B7 P.g v.Vn v.D) w w')
  (o:AO w' 0 P.g 0 92 (P0 {v with Vn:=V',L:=v.L.eraseIdx k,df:=lost'} H.ah) V' v.D 100 (v.L.eraseIdx k) H.net.aq lost') (n:V'.ownBlock=v.Vn.ownBlock):HI w' own P {H with net:=takeS H.net k}/\HZ SM w own w' own:=by
 have d:=Iw c p;have l:Ext own own w.heap.size:=Ext.refl _ _;have g:=c.dS (net':=takeS H.net k) (v':={v with Vn:=V',L:=v.L.eraseIdx k,df:=lost'}) d l rfl rfl o (by show AI (v.L.eraseIdx k)=H.net.l.eraseIdx k;rw[M0,c.cb]) (λb a=>by
  obtain a|a|⟨x,f,a⟩:=a;exact c.bI b (eR (by rw[<- n];exact a));exact c.bI b (eS (eR a));exact c.bI b (eS (eS ⟨x,XR f,a⟩))) (λx f=>c.cd x (XR f))
 exact⟨h.setHs' (net':=takeS H.net k) (time':=H.ah) (Ii d (λt m=>m.elim eR (λe=>eS (eR e)))) l (λb a=>VF (h.lt b a) d.size) ⟨_,g⟩,⟨l,d,(by first|exact RC Z3|exact λ_ _ h=>h)⟩⟩
def Qo(h:HI w own P H){k:Nat}(f:k<H.net.l.length):VX Tryz.prog 48 #[pw P.g,Wm eQ k] w (MTakeP P H own k w):=by
 obtain⟨v,a⟩:=h.hs;have d:k<v.L.length:=by rw[<- a.cb]at f;unfold AI at f;rwa [V0]at f
 refine(JQ 0 P.g 0 100 _ _ v.Vn v.D v.L H.net.aq v.df k w a.nt d).mono ?_;rintro e w' ⟨V',x,c,rfl,n,m,o,l⟩;obtain⟨q,p⟩:=Kl (lost':=v.df) h a o n l;exact⟨x,by rw[<- a.cb];exact Kq c,rfl,q,p,m,a.cd x (N2 c),λb g=>a.bI b (eS (eS ⟨x,N2 c,g⟩))⟩
def Qu(h:HI w own P H){k:Nat}(d:k<H.net.l.length):VX Tryz.prog 53 #[pw P.g,Wm eQ k] w λe w'=>e=ZY ZS/\HI w' own P (H.lose k)/\HZ SM w own w' own:=by
 obtain⟨v,a⟩:=h.hs;have c:k<v.L.length:=by rw[<- a.cb]at d;unfold AI at d;rwa [V0]at d
 refine(Tr 0 P.g 0 100 _ _ v.Vn v.D v.L H.net.aq v.df w k a.nt c).mono ?_;rintro e w' ⟨V',lost',rfl,g,l,f⟩;obtain⟨n,m⟩:=Kl (lost':=lost') h a l g f;exact⟨rfl,n,m⟩
def QQ(h:HI w own P H){k:Nat}(c:k<H.net.l.length):VX Tryz.prog 29 #[pw P.g,Wm eQ k] w (FP P own w (0,H.lose k)):=by have l:=LH (Qu h c);obtain⟨m,a⟩:=h.hs;have n:=a.cells.2.2.2.2;clear h c a;unfold pw at *;go_enter Tryz.func29,Tryz.ntmps29;go_wp2_with fail;refine l.o.mono ?_;rintro e f ⟨rfl,hI,d⟩;have g:=LH (show FP P own w (0,H.lose k) (ZY ZS) f from⟨rfl,own,hI,d.mono (λ_=>q91)⟩);clear hI d;go_wp2_with fail;go_ret;exact g.o
def Tj(h:HI w own P H)(f:EP w own P H.c H.m H.net H.ah v){lost':Int}{net':Be}(F:Fr (B7 P.g v.Vn v.D) w w')(p:∀y∈L',y∈v.L\/LK w.heap.size y)
  (A:AO w' 0 P.g 0 92 (P0 {v with Vn:=V',L:=L',df:=lost'} H.ah) V' v.D 100 L' H.net.aq lost') (E:V'.ownBlock=v.Vn.ownBlock\/∃b,V'.ownBlock=Bs b/\w.heap.size<=b) (u:net'=⟨AI L',H.net.aq⟩) (n:∀m∈net'.l,He m) :
  ∃own',HI w' own' P {H with net:=net'}/\HZ SM w own w' own':=by
 have l:=Iw f F;have z:Ext own (Ej own w.heap.size (FN {v with Vn:=V',L:=L',df:=lost'}) .net) w.heap.size:=SV;have r:∀b,FN {v with Vn:=V',L:=L',df:=lost'} b->own b=Bs .net\/w.heap.size<=b:=λb a=>by
  obtain a|a|⟨x,g,a⟩:=a;obtain c|⟨q,c,B⟩:=E;exact eR (f.bI b (eR (by rw[<- c];exact a)));have d:V'.ownBlock=Bs b:=a;rw[c]at d;injection d with d;exact eS Z0;exact eR (f.bI b (eS (eR a)));obtain c|c:=p x g;exact eR (f.bI b (eS (eS ⟨x,c,a⟩)));exact eS (c b a)
 have o:=f.dS (net':=net') (v':={v with Vn:=V',L:=L',df:=lost'}) l z rfl rfl (by rw[u];exact A) (by rw[u]) (λb a=>SS (r b a) a) (λx g=>by
  have c:x.m∈net'.l:=by rw[u];exact ZE.2 ⟨x,g,rfl⟩
  have B:=(n x.m c).cd;rw[(A.own x g).2]at B;omega)
 exact⟨_,h.setHs' (net':=net') (time':=H.ah) (Ii l (λt C=>C.elim eR (λe=>eS (eR e)))) z (SR l.size (λb a=>A.a9 a)) ⟨_,o⟩,⟨z,l,(by first|exact RC Z3|exact λ_ _ h=>h)⟩⟩
def qc0(H:Hs):Int:=if H.net.l.length=200 then 4 else 0
def SB{s:Be}(h:∀x∈s.l,He x)(c:He m):∀x∈(AR s m).l,He x:=by intro x a;unfold AR at a;split at a;exact h x a;obtain a|a:=ZD.1 a;exact h x a;rw[VU]at a;subst a;exact c
def MZ(h:HI w own P H)(m:Wf H){k:Nat}(x:k<H.net.l.length):VX Tryz.prog 54 #[pw P.g,Wm eQ k] w λe w'=>e=ZY (C0 (qc0 H))/\∃own',HI w' own' P (H.twice k)/\HZ SM w own w' own':=by
 obtain⟨v,a⟩:=h.hs;have p:v.L.length=H.net.l.length:=by rw[<- a.cb];unfold AI;rw[V0]
 have d:k<v.L.length:=by omega
 have f:v.L[k]? = Bs v.L[k]:=K0 d;have o:H.net.l[k]? = Bs (v.L[k]).m:=by rw[<- a.cb];exact Kq f
 have n:H.twice k = {H with net:=AR H.net (v.L[k]).m}:=by unfold Hs.twice;rw[o]
 have c:He (v.L[k]).m:=m.net _ (N2 o);by_cases l:H.net.l.length=200
 ·refine(Mg 0 P.g 0 100 _ _ v.Vn v.D v.L H.net.aq v.df w k a.nt d Z0).mono ?_;rintro e w' ⟨rfl,rfl⟩;refine⟨by unfold qc0;rw[Z8 l];rfl,own,?_,HZ.refl _ _ _⟩;have:AR H.net (v.L[k]).m=H.net:=by unfold AR CE;rw[ZA l,Bool.or_true,Z8 rfl]
  rw[n,this];exact h
 have hl:=a.nt.len;refine(PA 0 P.g 0 100 _ _ v.Vn v.D v.L H.net.aq v.df w k _ a.nt f Z0 ⟨(Hv c).1,(Hv c).2,a.cd _ (N2 f)⟩).mono ?_;rintro e w' ⟨V',L',lost',rfl,g,r,hs,t,q⟩;refine⟨by unfold qc0;rw[Z7 l];rfl,?_⟩;rw[n];have u:H.net=⟨AI v.L,H.net.aq⟩:=by rw[a.cb]
 exact Tj h a t g r q (by rw[u];exact hs) (SB m.net c)
def Nq(h:HI w own P H)(d:Wf H){k:Nat}(f:k<H.net.l.length):VX Tryz.prog 30 #[pw P.g,Wm eQ k] w (FP P own w (qc0 H,H.twice k)):=by have n:=LH (MZ h d f);obtain⟨o,c⟩:=h.hs;have p:=c.cells.2.2.2.2;clear h f c d;unfold pw at *;go_enter Tryz.func30,Tryz.ntmps30;go_wp2_with fail;refine n.o.mono ?_;rintro e l ⟨rfl,a,hI,g⟩;have m:=LH (show FP P own w (qc0 H,H.twice k) (ZY (C0 (qc0 H))) l from⟨rfl,a,hI,g.mono (λ_=>q91)⟩);clear hI g;go_wp2_with fail;go_ret;exact m.o
def EZ(_:Hs)(s:Nat)(l:List Nat):List (Nat×Nat):=l.map λj=>(s,j)
def q76(H:Hs)(ss:List Nat):List (Nat×Nat):=ss.flatMap λs=>((H.sh s).ai H.n).map λj=>(s,j)
def KJ(H:Hs)(id:Int)(q:Nat×Nat):Bool:=((H.sh q.1).nd q.2).id == id
def OC(H:Hs)(id:Int):H.node id=(q76 H [0,1,2]).find? (KJ H id):=rfl
def Iv(H:Hs){ss:List Nat}(h:ss[q]? = Bs s):q76 H (ss.drop q)=EZ H s ((H.sh s).ai H.n)++q76 H (ss.drop (q+1)):=by obtain⟨a,e⟩:=ZC.1 h;rw[XG a,e];unfold q76;rw[List.flatMap_cons];rfl
def Kh(H:Hs){l:List Nat}{rest:List (Nat×Nat)}{id:Int}(h:l[i]? = Bs j):(EZ H s (l.drop i)++rest).find? (KJ H id)=if KJ H id (s,j)then Bs (s,j)else(EZ H s (l.drop (i+1))++rest).find? (KJ H id):=by obtain⟨a,e⟩:=ZC.1 h;rw[XG a,e];unfold EZ;rw[WJ,List.cons_append,List.find?_cons];cases KJ H id (s,j)<;>rfl
def Kj(P:Av):Option (Nat×Nat)->Array S2|none=>#[ZW B0,ZW B0]|some (s,j)=>#[pw (P.gs s),pw (P.gn s j)]
def NodeQ(P:Av)(H:Hs)(id:Int)(w:D0)(e:WE)(w':D0):Prop:=e=ZY (ZZ (Kj P (H.node id)))/\VI w.heap.size w w'
def NoRel(H:Hs)(id:Int)(w:D0)(v:S2)(wr:D0):Prop:=∃q:Nat,v=Wm eQ q/\q<=3/\H.node id=(q76 H ([0,1,2].drop q)).find? (KJ H id)/\VI w.heap.size w wr
def NiRel(H:Hs)(id:Int)(s q:Nat)(l:List Nat)(a:D0)(v:S2)(wr:D0):Prop:=∃i:Nat,v=Wm eQ i/\i<=l.length/\H.node id=(EZ H s (l.drop i)++q76 H ([0,1,2].drop (q+1))).find? (KJ H id)/\wr=a
def q51(h:HI w own P H)(a:Wf H)(hs:s<H.c):VX Tryz.prog 43 #[pw (P.gs s)] w (DN P H.n s (H.sh s) w):=
 KA h hs (Z4 a.n4) (λj c=>a.idOk hs c)
def q4k{H:Hs}(h:j∈(H.sh s).ai H.n):j<H.n:=by unfold Bv.ai at h;exact ZH.1 (YO.1 h).1
def Ki(h:HI w own P H)(F:Wf H)(S:H.c=3)(id:Int):VX Tryz.prog 49 #[pw P.g,Wm eQ id] w (NodeQ P H id w):=by
 have HH:=LH h;have T:=LH F;have a0:=F.n4;obtain⟨vh,n⟩:=h.hs;obtain⟨_,c3,_,_,gl⟩:=n.cells;obtain⟨G,k3,z,M,R⟩:=n.dh (s:=0) Z0;rw[z,S]at c3;have U:=LH (λ(s:Nat) (hs:s<3) W (hb:VI w.heap.size w W)=>(by
  obtain⟨r,k,e,N,S⟩:=n.dh (s:=s) Z0;rw[z]at e;injection e with e _ _;injection e with e;injection e with e _ _;subst e;exact⟨(hb.cell (p:=⟨G,s,B0⟩) N).trans S,VF N hb.size⟩:W.cell? ⟨G,s,B0⟩=Bs (pw (P.gs s))/\G<W.heap.size))
 clear h F n z R M;unfold pw at *;go_enter Tryz.func49,Tryz.ntmps49;go_wp2_with fail;clear c3;go_loopw [15] (NoRel H id w) (λv _=>3-(intOf v).toNat)
 case atStart=>exact⟨0,rfl,VG _,OC H id,VC _ _⟩
 obtain⟨q,rfl,hq,f,g⟩:=hrel;by_cases a1:(q:Int)<3
 ·obtain⟨Q,K⟩:=U.o q Z0 wr g;have J:([0,1,2]:List Nat)[q]? = Bs q:=by
   have:q=0\/q=1\/q=2:=by omega
   obtain rfl|rfl|rfl:=this<;> rfl
  rw[Iv H J]at f;have X:=LH f;have HB:=LH g;have B:=LH (HH.o.below g);have Y:=LH (q51 B.o T.o (s:=q) Z0);have a2:=q2n (H.sh q) H.n;have HM:=LH (λj (hj:j∈(H.sh q).ai H.n)=>q4k hj);unfold DN pw at Y;clear f g;generalize (H.sh q).ai H.n=l at *;go_wp2_with fail;refine Y.o.mono ?_;rintro e w1 ⟨V,rfl,d,y⟩;obtain⟨A,c,rfl,_,_⟩:=AM d;have HR:=LH (Rd.a7 d);have E:=LH (HB.o.trans (y.mono HB.o.size));have Z:=LH (B.o.below y);clear d y Y Q K HB B;go_wp2_with fail;go_loopw [22] (NiRel H id q q l w1) (λv _=>l.length-(intOf v).toNat)
  case atStart=>exact⟨0,rfl,VG _,X.o,rfl⟩
  obtain⟨i,rfl,hi,a,rfl⟩:=hrel;by_cases a3:(i:Int)<l.length
  ·have x:i<l.length:=by omega
   obtain⟨r,o,u,hA,N,I,a4⟩:=HR.o.dg (k:=i) x;have hx:l[i]? = Bs l[i]:=K0 x;rw[VQ,hx]at I;simp only[WA,VN]at I;subst I hA;have O:=HM.o l[i] (Wy x);obtain⟨C,V,L,hN,_⟩:=Z.o.nd q l[i] Z0 O;have HQ:=LH (Np hN);rw[Kh H hx]at a;have t:=LH a;clear a hN;generalize l[i]=j at *;rcases hp:(((H.sh q).nd j).id == id)with _|_
   ·have m:=LH (t.o.trans (Z7 (by show ¬(((H.sh q).nd j).id == id)=VD;rw[hp];simp)));clear t;go_wp2_with fail;refine HQ.o.mono ?_;rintro e w2 ⟨rfl,rfl⟩;go_wp2_with fail;go_roundw
    case rel=>exact⟨i+1,rfl,Z0,m.o,rfl⟩
    case measure=>simp[intOf];omega
   have m:=LH (t.o.trans (Z8 (by show(((H.sh q).nd j).id == id)=VD;exact hp)));clear t;go_wp2_with fail;refine HQ.o.mono ?_;rintro e w2 ⟨rfl,rfl⟩;go_wp2_with fail;go_ret2;exact⟨by rw[m.o];rfl,E.o⟩
  obtain rfl:i=l.length:=by omega
  rw[List.drop_length]at a;have HN:=LH (show NoRel H id w (Wm eQ ((q+1:Nat):Int)) wr from⟨q+1,rfl,Z0,a,E.o⟩);clear a;go_wp2_with fail;go_roundw;exact HN.o;simp[intOf];omega
 obtain rfl:q=3:=by omega
 have m:=LH (show H.node id=B0 from f);clear f;go_wp2_with fail;go_ret2;exact⟨by rw[m.o];rfl,g⟩
def Sq(d:Nd)(m:Ms)(h:d.a4.length<=500):(d.step m).2.length<=100000:=by rw[qdc];split;simp;split;simp;split;simp;omega;split;unfold Nd.aP Nd.aD;split;split;simp;split;split<;>simp;simp;simp;split;split<;>simp;simp
def q9h{H:Hs}{id:Int}(h:H.node id=Bs (s,j)):s<3/\j<H.n/\(H.sh s).aq ((H.sh s).nd j).id=L1/\((H.sh s).nd j).id=id:=by rw[OC]at h;have g:=WY h;have n:=List.find?_some h;unfold q76 at g;obtain⟨a,m,l⟩:=List.mem_flatMap.1 g;obtain⟨b,c,e⟩:=ZE.1 l;injection e with e1 e2;subst e1 e2;unfold Bv.ai at c;obtain⟨f,d⟩:=YO.1 c;refine⟨?_,ZH.1 f,Z6 d,by simpa [KJ]using n⟩;simp at m;omega
def Wf.bb{H:Hs}(h:Wf H)(k:Nat):Wf ({H with net:=takeS H.net k} : Hs):=
 h.of rfl rfl rfl rfl h.nd h.tab h.sto (λ_ _=>rfl) (λm a=>h.net m (XR a)) rfl h.tx (λ_=>rfl)
def Je{H:Hs}(h:H.node m.a8=B0):H.aE m=H:=by unfold Hs.aE;rw[h]
def Jf{H:Hs}(h:H.node m.a8=Bs (s,j)):H.aE m=((H.au s j (((H.sh s).nd j).step m).1).aO (((H.sh s).nd j).step m).2).take s:=by unfold Hs.aE;rw[h]
def Wf.dR{H:Hs}(h:Wf H)(g:H.c=3)(hs:s<3)(c:j<H.n)(a:He m):Wf ((H.au s j (((H.sh s).nd j).step m).1).aO (((H.sh s).nd j).step m).2):=by have l:=h.n4;obtain⟨f,d⟩:=Ob (h.nd s j Z0 c) hs Z0 a;exact(h.au f).aO d
def Wf.aE{H:Hs}(h:Wf H)(c:H.c=3){m:Ms}(a:He m):Wf (H.aE m):=by
 rcases e:H.node m.a8 with _|⟨s,j⟩
 rw[Je e];exact h;rw[Jf e];obtain⟨f,d,_⟩:=q9h e;exact(h.dR c f d a).take (show s<H.c by omega)
def Ue(H:Hs)(m:Ms):(H.aE m).c=H.c:=by
 rcases e:H.node m.a8 with _|⟨s,j⟩
 rw[Je e];rw[Jf e,(BK.take _ s).c];rfl
def UL(P:Av)(own:Ah)(H:Hs)(k:Nat)(w:D0)(e:WE)(w':D0):Prop:=e=ZY ZS/\∃H',Rv H k H'/\Cf P own H' w w'
def MsgAt(W:D0)(b:Nat)(x:AW):Prop:=W.cell? ⟨b,0,B0⟩=Bs (Wm eQ x.m.aj)/\W.cell? ⟨b,1,B0⟩=Bs (Wm eQ x.m.ar)/\W.cell? ⟨b,2,B0⟩=Bs (Wm eQ x.m.a8)/\W.cell? ⟨b,3,B0⟩=Bs (Wm eQ x.m.ad)/\W.cell? ⟨b,4,B0⟩=Bs (Wm eQ x.m.n)/\W.cell? ⟨b,5,B0⟩=Bs (Wm eQ x.m.aY.aj)/\W.cell? ⟨b,6,B0⟩=Bs (Wm eQ x.m.aY.tx)/\W.cell? ⟨b,7,B0⟩=Bs (Wm eQ x.m.aY.ah)/\W.cell? ⟨b,8,B0⟩=Bs (WK x.A x.n x.k)/\b<W.heap.size
def msgAt{W:D0}{b:Nat}{x:AW}(h:Ae W b 116 #[Wm eQ x.m.aj,Wm eQ x.m.ar,Wm eQ x.m.a8,Wm eQ x.m.ad,Wm eQ x.m.n,Wm eQ x.m.aY.aj,Wm eQ x.m.aY.tx,Wm eQ x.m.aY.ah,WK x.A x.n x.k]):MsgAt W b x:=by have n:=h.cell 0;have q1:=h.cell 1;have m:=h.cell 2;have l:=h.cell 3;have g:=h.cell 4;have f:=h.cell 5;have d:=h.cell 6;have c:=h.cell 7;have a:=h.cell 8;simp only[NW,Ft,O0]at n q1 m l g f d c a;exact⟨n,q1,m,l,g,f,d,c,a,h.lt⟩
def qbg(h:HI w own P H)(wf:Wf H)(hc:H.c=3){k:Nat}(hk:k<H.net.l.length):VX Tryz.prog 28 #[pw P.g,Wm eQ k] w (UL P own H k w):=by
 have HT:=LH (Qo h hk);obtain⟨vh,a7⟩:=h.hs;have gl:=a7.cells.2.2.2.2;have ak:=LH wf;clear h a7 hk wf;unfold pw at *;go_enter Tryz.func28,Tryz.ntmps28;go_wp2_with fail;refine HT.o.mono ?_;rintro e v ⟨x,hx,rfl,E,af,B,ar,aq⟩;have a6:He x.m:=ak.o.net _ (N2 hx);have a:=ak.o.bb k;obtain⟨I,F⟩:∃I:Hs,I = {H with net:=takeS H.net k}:=⟨_,rfl⟩
 rw[<- F]at E a;have l:I.c=3:=by rw[F];exact hc
 have ap:=LH (show ∀H',Ek (I.aE x.m) H'->Rv H k H' from λH' r=>.some hx (by rw[<- F];exact r));have z:=(VC v.heap.size v).alloc (Hi _) (eT #[Wm eQ x.m.aj,Wm eQ x.m.ar,Wm eQ x.m.a8,Wm eQ x.m.ad,Wm eQ x.m.n,Wm eQ x.m.aY.aj,Wm eQ x.m.aY.tx,Wm eQ x.m.aY.ah,WK x.A x.n x.k] 116);have ac:=Ae.b4 v 116 #[Wm eQ x.m.aj,Wm eQ x.m.ar,Wm eQ x.m.a8,Wm eQ x.m.ad,Wm eQ x.m.n,Wm eQ x.m.aY.aj,Wm eQ x.m.aY.tx,Wm eQ x.m.aY.ah,WK x.A x.n x.k];have a2:=LH (E.below z);have aj:=LH ((af.mono (λ_=>q91)).trans (HZ.below own z):AC w own _ own);have a0:=LH (Ki a2.o a l x.m.a8);have a3:=LH ac;have G:=LH (show Et _ 0 x from⟨(Ef z).own B.1 (λb hb (hs:v.heap.size<=b)=>Z4 ((B.1.lt b hb).2)),B.2⟩);have al:=LH (show own v.heap.size=B0 from by
  rcases e:own v.heap.size with _|t;rfl;exact ZB (E.lt v.heap.size (by rw[e];simp)) (Nat.lt_irrefl _))
 have U:=LH a6;have c:=LH a;unfold pw at a0;unfold mrV DD;clear hx E af B a6 a F z ac HT aq;go_wp2_with fail;refine a0.o.mono ?_;rintro e J ⟨rfl,n⟩;have a1:=LH (a2.o.below n);have ai:=LH (aj.o.trans (HZ.below own n));have R:=LH ((Ef n).al a3.o (λhs=>Z4 a3.o.lt));have am:=LH ((Ef n).own G.o.1 (λb hb hs=>Z4 ((G.o.1.lt b hb).2)));have aA:=LH G.o.2;clear n a0 a2 aj a3 G;rcases g:I.node x.m.a8 with _|⟨s,j⟩
 ·have u:=LH (q4u a1.o c.o l);have ao:=LH (show ∀H',Ek I H'->Rv H k H' from λH' r=>ap.o H' (by rw[Je g];exact r));unfold pw at u;unfold Kj;clear g;go_wp2_with fail;refine u.o.mono ?_;rintro e w3 ⟨rfl,H',hr,K,p,o⟩;have HF:=LH (show UL P own H k w (ZY ZS) w3 from⟨rfl,H',ao.o H' hr,K,p,ai.o.trans o⟩);clear hr p o;go_wp2_with fail;go_ret;exact HF.o
 obtain⟨aa,y,_,_⟩:=q9h g;have aB:=LH (Jf g);have ay:=LH (c.o.dR l aa y U.o);have Q:=LH (Ob (c.o.nd s j Z0 y) aa (show j<4 by have:=c.o.n4;omega) U.o);have O:((I.sh s).nd j).a4.length<=500:=by
  obtain⟨C,V,L,hN,_⟩:=a1.o.nd s j Z0 y;rw[<- hN.a4];unfold AQ;rw[V0];exact hN.len
 have an:=LH (Sq _ x.m O);have a9:s<I.c:=by omega
 have az:=LH (show Gr J.drew J.drew.heap.size x.A x.n x.m.aY.ae from⟨aA.o,(Rd.a7 am.o).below (VC _ _).drew⟩);have a5:x.A=B0->x.k=0:=Kd am.o;have Y:=LH (QP (a1.o.below (VC J.heap.size J).drew) a9 y x.m x.A x.n x.k az.o a5 ar);have f:=msgAt (show Ae J.drew _ _ _ from R.o);unfold pw at Y;unfold Kj pw;clear g O a5;go_upto_region 6 with (fail)
 refine nW ?_;refine CR (λW=>MsgAt W v.heap.size x) 6 (λ_ _ _ _ _ h=>h) (λd=>?_);refine nD 0 [1,2,6] d f ?_;refine nD 1 [2,6] d f ?_;refine nD 2 [6] d f ?_;refine nD 3 [5,6] d f ?_;refine nA 4 [5,6] rfl rfl d f (λw' au=>by obtain⟨p0,p1,p2,p3,p4,p5,p6,p7,p8,pl⟩:=au;go_simp;rfl) ?_;clear f;refine nG 5 (λKK hK=>?_);go_simp;refine Y.o.mono ?_;rintro e w3 ⟨V,rfl,ho,aD,ah,S,N⟩;have m:=S.fr.al (show Ae J.drew v.heap.size _ _ from R.o) (λhs=>hs.bR al.o);have ab:=msgAt m;have a8:=q81 ah ho (λq hq=>by obtain e|e:=N q hq<;> (rw[e];simp)) Q.o.2 (c.o.au Q.o.1) an.o;have Z:=LH a8;have ax:=LH (ai.o.trans ((HZ.below own (VC J.heap.size J).drew).trans (S.mono (λ_=>Ol))));obtain⟨A,kk,M,rfl,_⟩:=ho;unfold pw at Z;clear a8 N ah S m Y;go_simp;refine hK _ _ (λ_=>ab) ?_;clear hK KK ab;refine nG 6 (λKK hK=>?_);go_simp;refine Z.o.mono ?_;rintro e w4 ⟨d4,K,rfl,p,o⟩;go_simp;refine hK _ _ nZ ?_;clear hK KK;refine nX ?_;clear d;have X:=LH (qb4 p ay.o (show s<_ from a9));have aw:=LH (ax.o.trans (o.mono (λ_=>q91)));unfold pw at X;clear p o Z;go_wp2_with fail;refine X.o.mono ?_;rintro e w5 ⟨rfl,aC,T,ae⟩;rw[<- aB.o]at T;have u:=LH (q4u T (c.o.aE l U.o) ((Ue I x.m).trans l));have av:=LH (aw.o.trans (ae.mono (λ_=>Sw)));unfold pw at u;clear T ae X;go_wp2_with fail;refine u.o.mono ?_;rintro e w6 ⟨rfl,H',hr,a4,ag,ad⟩;have HF:=LH (show UL P own H k w (ZY ZS) w6 from⟨rfl,H',ap.o H' hr,a4,ag,av.o.trans ad⟩);clear hr ag ad;go_wp2_with fail;go_ret;exact HF.o
def JK(d:Nd):d.aD.2.length<=100000:=by unfold Nd.aD;split;simp;split;split<;>simp;simp
def Wf.bf{H:Hs}(h:Wf H)(f:H.c=3){s j:Nat}(hs:s<3)(a:j<H.n):Wf (H.bf s j):=by have g:=h.n4;obtain⟨d,c⟩:=q9v (h.nd s j Z0 a) hs Z0;exact(h.au d).aO c
def tickds(s:Nat)(H:Hs)(l:List Nat):Hs:=l.foldl (Hs.bf s) H
def JI{H:Hs}{l:List Nat}(h:l[i]? = Bs j):tickds s H (l.take (i+1))=Hs.bf s (tickds s H (l.take i)) j:=by unfold tickds;rw[VV,h,WV];rfl
def q59(s:Nat):∀(l:List Nat)(H:Hs),(tickds s H l).n=H.n/\(tickds s H l).c=H.c/\(tickds s H l).m=H.m
 |[],_=>⟨rfl,rfl,rfl⟩
 |j::l,H=>q59 s l (Hs.bf s H j)
def Wf.dI{s:Nat}(hs:s<3):∀(l:List Nat) {H:Hs},Wf H->H.c=3->(∀j∈l,j<H.n)->Wf (tickds s H l)
 |[],_,h,_,_=>h
 |j::l,H,h,hc,hl=>Wf.dI hs l (H:=Hs.bf s H j) (h.bf hc hs (hl j (VB ..))) hc (λq a=>hl q (VE _ a))
def tickd(H:Hs)(ss:List Nat):Hs:=ss.foldl Hs.bV H
def FV(H:Hs)(s:Nat):H.bV s=tickds s H ((H.sh s).ai H.n):=rfl
def Mh{H:Hs}{ss:List Nat}(h:ss[i]? = Bs s):tickd H (ss.take (i+1))=(tickd H (ss.take i)).bV s:=by unfold tickd;rw[VV,h,WV];rfl
def q6e:∀(ss:List Nat)(H:Hs),(tickd H ss).n=H.n/\(tickd H ss).c=H.c/\(tickd H ss).m=H.m
 |[],_=>⟨rfl,rfl,rfl⟩
 |s::ss,H=>by
  obtain⟨g,f,a3⟩:=q59 s ((H.sh s).ai H.n) H;obtain⟨d,c,a⟩:=q6e ss (H.bV s);exact⟨d.trans g,c.trans f,a.trans a3⟩
def Wf.d9:∀(ss:List Nat) {H:Hs},Wf H->H.c=3->(∀s∈ss,s<3)->Wf (tickd H ss)
 |[],_,h,_,_=>h
 |s::ss,H,h,hc,hl=>by
  obtain⟨f,d,a3⟩:=q59 s ((H.sh s).ai H.n) H;exact Wf.d9 ss (H:=H.bV s) (Wf.dI (hl s (VB ..)) _ h hc (λj c=>q4k c)) (d.trans hc) (λq a=>hl q (VE _ a))
def TcRel(P:Av)(own:Ah)(H:Hs)(w:D0)(v:S2)(wr:D0):Prop:=∃q:Nat,v=Wm eQ q/\q<=3/\Cf P own (tickd H ([0,1,2].take q)) w wr
def TcIn(P:Av)(own:Ah)(H:Hs)(s:Nat)(l:List Nat)(w:D0)(v:S2)(wr:D0):Prop:=∃i:Nat,v=Wm eQ i/\i<=l.length/\Cf P own (tickds s H (l.take i)) w wr
def Pj(P:Av)(own:Ah)(H:Hs)(w:D0)(e:WE)(w':D0):Prop:=e=ZY (ZZ #[])/\∃H',EA H H'/\Cf P own H' w w'
def HI.er(h:HI w own P H)(n:H.c=3):∃r k,(∃v,EP w own P H.c H.m H.net H.ah v/\v.Vr=WK (Bs ⟨r,0,B0⟩) 3 k)/\∀W own',AC w own W own'->∀s,s<3->W.cell? ⟨r,s,B0⟩=Bs (pw (P.gs s))/\r<W.heap.size:=by obtain⟨v,f⟩:=h.hs;obtain⟨r,k,e,t,_⟩:=f.dh (s:=0) Z0;rw[n]at e;refine⟨r,k,⟨v,f,e⟩,λW own' o s hs=>?_⟩;have a:=o.fr.own f.shr (λb q hs=>(hs.c6 (f.ck b q)).2.1 rfl);rw[e,n]at a;obtain⟨g,c,d,p,u,l,m⟩:=US a hs;injection d with d _ _;injection d with d;injection d with d _ _;subst d;rw[VQ,List.getElem?_range hs]at l;simp only[WA,VN]at l;exact⟨by rw[m,<- l],p⟩
def GY(h:HI w own P H)(wf:Wf H)(X:H.c=3):VX Tryz.prog 31 #[pw P.g] w (Pj P own H w):=by
 have HH:=LH h;have a5:=LH wf;have a9:=wf.n4;obtain⟨r3,k3,⟨vh,Q,a0⟩,S⟩:=h.er X;obtain⟨_,c3,_,_,gl⟩:=Q.cells;rw[a0]at c3;have ai:=LH S;clear h wf Q a0 S;unfold pw at *;go_enter Tryz.func31,Tryz.ntmps31;go_wp2_with fail;clear c3;go_loopw [11] (TcRel P own H w) (λv _=>3-(intOf v).toNat)
 case atStart=>exact⟨0,rfl,VG _,own,HH.o,HZ.refl _ _ _⟩
 obtain⟨q,rfl,hq,a,x,t⟩:=hrel;by_cases an:(q:Int)<3
 ·obtain⟨ab,a8⟩:=ai.o wr a t q Z0;have R:([0,1,2]:List Nat)[q]? = Bs q:=by
   have:q=0\/q=1\/q=2:=by omega
   obtain rfl|rfl|rfl:=this<;> rfl
  have ah:=LH (Mh (H:=H) R);have m:=q6e ([0,1,2].take q) H;have d:Wf (tickd H ([0,1,2].take q)):=a5.o.d9 _ X (λs hs=>by have:=WG hs;simp at this;omega);have W:(tickd H ([0,1,2].take q)).c=3:=m.2.1.trans X;have am:(tickd H ([0,1,2].take q)).n<=4:=by rw[m.1];exact a9
  clear m R;generalize tickd H ([0,1,2].take q)=H2 at *;have HL:=LH (q51 x d (s:=q) Z0);have ag:=LH (FV H2 q);have ao:=q2n (H2.sh q) H2.n;have HM:=LH (λj (hj:j∈(H2.sh q).ai H2.n)=>q4k hj);have J:=LH x;have a3:=LH t;have af:=LH d;unfold DN pw at HL;clear x t d;generalize (H2.sh q).ai H2.n=l at *;go_wp2_with fail;refine HL.o.mono ?_;rintro e w1 ⟨V,rfl,p,F⟩;obtain⟨A,c,rfl,_,_⟩:=AM p;have a7:=LH p;have ak:=LH (J.o.below F);have ad:=LH (a3.o.trans (HZ.below a F));have K:=LH (λb (hb:(WK A l.length c).ownBlock=Bs b)=>J.o.free (p.lt b hb).1);clear p F HL ab a8 J a3;go_wp2_with fail;go_loopw [18] (TcIn P a H2 q l w1) (λv _=>l.length-(intOf v).toNat)
  case atStart=>exact⟨0,rfl,VG _,a,ak.o,HZ.refl _ _ _⟩
  obtain⟨i,rfl,hi,n,g,f⟩:=hrel;by_cases ap:(i:Int)<l.length
  ·have E:i<l.length:=by omega
   have aq:i<=4:=by omega
   obtain⟨r,c',hV,hr,u,hu,aa⟩:=US (RB a7.o K.o f) (k:=i) E;injection hV with hA _ hcp;subst hA hcp;have hx:l[i]? = Bs l[i]:=K0 E;rw[VQ,hx]at hu;simp only[WA,VN]at hu;subst hu;have U:=HM.o l[i] (Wy E);have aj:=LH (JI (s:=q) (H:=H2) hx);have m:=q59 q (l.take i) H2;have o:Wf (tickds q H2 (l.take i)):=af.o.dI Z0 _ W (λj hj=>HM.o j (WG hj));have ar:(tickds q H2 (l.take i)).c=3:=m.2.1.trans W;have C:l[i]<(tickds q H2 (l.take i)).n:=by rw[m.1];exact U
   clear m hx U;generalize l[i]=j at *;generalize tickds q H2 (l.take i)=H3 at *;have HT:=LH (QO (g.below (VC wr.heap.size wr).drew) (show q<H3.c by omega) C);have O:=q9v (o.nd q j Z0 C) (show q<3 by omega) (show j<4 by have:=o.n4;omega);have a4:=LH O;have ae:=LH o;have G:=LH (f.trans (HZ.below n (VC wr.heap.size wr).drew));unfold pw at HT;clear g f O o;go_upto_region 6 with (fail)
   clear aa;refine nW ?_;refine CR (λ_=>True) 5 (λ_ _ _ _ _ h=>h) (λy=>?_);have z:=True.intro;refine nD 0 [1,2,5] y z ?_;refine nD 1 [2,5] y z ?_;refine nD 2 [5] y z ?_;refine nD 3 [4,5] y z ?_;clear z;refine nG 4 (λKK hK=>?_);go_simp;refine HT.o.mono ?_;rintro e w3 ⟨V,rfl,ho,al,a2,Z,B⟩;have T:=q81 a2 ho (λq hq=>by obtain e|e:=B q hq<;> (rw[e];simp)) a4.o.2 (ae.o.au a4.o.1) (JK _);have I:=LH T;have ac:=LH (G.o.trans (Z.mono (λ_=>Ol)));obtain⟨A,kk,M,rfl,_⟩:=ho;unfold pw at I;clear T B a2 Z HT;go_simp;refine hK _ _ (λ_=>True.intro) ?_;clear hK KK;refine nG 5 (λKK hK=>?_);go_simp;refine I.o.mono ?_;rintro e w4 ⟨d4,N,rfl,a1,Y⟩;go_simp;refine hK _ _ nZ ?_;clear hK KK;refine nX ?_;clear y;have HR:=LH (show TcIn P a H2 q l w1 (Wm eQ ((i+1:Nat):Int)) w4 from⟨i+1,rfl,Z0,N,by rw[aj.o];exact a1,ac.o.trans (Y.mono (λ_=>q91))⟩);clear a1 Y I;go_wp2_with fail;go_roundw;exact HR.o;simp[intOf];omega
  obtain rfl:i=l.length:=by omega
  rw[WU,<- ag.o]at g;have HR:=LH (show TcRel P own H w (Wm eQ ((q+1:Nat):Int)) wr from⟨q+1,rfl,Z0,n,by rw[ah.o];exact g,ad.o.trans f⟩);clear g f;go_wp2_with fail;go_roundw;exact HR.o;simp[intOf];omega
 obtain rfl:q=3:=by omega
 have d:Wf H.b5:=a5.o.d9 _ X (λs hs=>by simp at hs;omega);have a6:=LH (q4u (show HI wr a P H.b5 from x) d ((q6e _ H).2.1.trans X));have G:=LH t;unfold pw at a6;clear x d t;go_wp2_with fail;refine a6.o.mono ?_;rintro e w3 ⟨rfl,H',hr,n,g,f⟩;have HF:=LH (show Pj P own H w (ZY (ZZ #[])) w3 from⟨rfl,H',hr,n,g,G.o.trans f⟩);clear hr g f;go_wp2_with fail
 go_end0
 exact HF.o
structure Sz(H H':Hs):Prop where
 n:H'.n=H.n
 c:H'.c=H.c
 m:H'.m=H.m
def Sz.refl(H:Hs):Sz H H:=⟨rfl,rfl,rfl⟩
def Sz.trans{a b c:Hs}(h:Sz a b)(k:Sz b c):Sz a c:=⟨k.n.trans h.n,k.c.trans h.c,k.m.trans h.m⟩
def Sm.sz{H H':Hs}(h:Sm H H'):Sz H H':=⟨h.n,h.c,h.m⟩
def Rk(H:Hs)(m:Ms):Sz H (H.aE m):=by
 rcases e:H.node m.a8 with _|⟨s,j⟩
 rw[Je e];exact Sz.refl H;rw[Jf e];have h:=BK.take ((H.au s j (((H.sh s).nd j).step m).1).aO (((H.sh s).nd j).step m).2) s;exact⟨h.n,h.c,h.m⟩
def EA.wf{H H':Hs}(h:EA H H')(d:Wf H)(a:H.c=3):Wf H'/\Sz H H':=by obtain⟨l,c,a3⟩:=q6e [0,1,2] H;have f:Wf H.b5:=d.d9 _ a (λs hs=>by simp at hs;omega);have g:H.b5.c=3:=c.trans a;exact⟨Wf.settle h f g,Sz.trans ⟨l,c,a3⟩ (Sm.settle h).sz⟩
def Rv.wf{H H':Hs}{k:Nat}(h:Rv H k H')(a:Wf H)(c:H.c=3):Wf H'/\Sz H H':=by
 cases h with
 |none h=>exact⟨a,Sz.refl _⟩
 |@some m f _ r=>
  have d:=(a.bb k).aE (show(({H with net:=takeS H.net k} : Hs)).c=3 from c) (a.net _ (N2 f));have s1:=Rk ({H with net:=takeS H.net k} : Hs) m;exact⟨Wf.settle r d (s1.c.trans c),Sz.trans ⟨s1.n,s1.c,s1.m⟩ (Sm.settle r).sz⟩
def Pq(P:Av)(own:Ah)(H:Hs)(w:D0)(e:WE)(w':D0):Prop:=e=ZY (ZZ #[])/\∃H',Cy 4 H H'/\Cf P own H' w w'/\Wf H'/\Sz H H'
def CaRel(P:Av)(own:Ah)(H:Hs)(w:D0)(v:S2)(wr:D0):Prop:=∃(q:Nat)(H2:Hs),v=Wm eQ q/\q<=4/\Cf P own H2 w wr/\Wf H2/\Sz H H2/\∀H',Cy (4-q) H2 H'->Cy 4 H H'
def CaIn(P:Av)(own:Ah)(c:Hs)(w:D0)(v:S2)(wr:D0):Prop:=∃(n:Nat)(a:Hs),v=Wm eQ n/\n<=5000/\Cf P own a w wr/\Wf a/\Sz c a/\∀H',Rr (5000-n) a H'->Rr 5000 c H'
def Qr(h:HI w own P H):VX Tryz.prog 39 #[pw P.g] w λe w'=>e=ZY (Wm eQ H.net.l.length)/\w=w':=by
 obtain⟨v,c⟩:=h.hs;have a:v.L.length=H.net.l.length:=by rw[<- c.cb];unfold AI;rw[V0]
 rw[<- a];exact Ku _ _ _ _ _ _ _ _ _ _ _ _ c.nt
def qe5(h:HI w own P H)(wf:Wf H)(hc:H.c=3):VX Tryz.prog 15 #[pw P.g] w (Pq P own H w):=by
 have HH:=LH h;have a2:=LH wf;clear h wf;unfold pw at *;go_enter Tryz.func15,Tryz.ntmps15;go_wp2_with fail;go_loopw [3] (CaRel P own H w) (λv _=>4-(intOf v).toNat)
 case atStart=>exact⟨0,H,rfl,VG _,⟨own,HH.o,HZ.refl _ _ _⟩,a2.o,Sz.refl H,λ_ h=>h⟩
 obtain⟨q,H2,rfl,hq,⟨I,x,u⟩,o,p,y⟩:=hrel;by_cases ag:(q:Int)<4
 ·have E:H2.c=3:=p.c.trans hc;have HT:=LH (GY x o E);have W:=LH u;have a4:=LH o;have a8:=LH p;have ad:=LH y;unfold pw at HT;clear x u o p y;go_wp2_with fail;refine HT.o.mono ?_;rintro e w1 ⟨rfl,Y,B,g,V,T⟩;obtain⟨K,C⟩:=EA.wf B a4.o E;have R:Y.c=3:=C.c.trans E;have ab:=LH V;have a1:=LH (W.o.trans T);have a5:=LH K;have a9:=LH (a8.o.trans C);have a6:=LH B;clear V T K C B HT W;go_wp2_with fail;go_loopw [2] (CaIn P g Y w1) (λv _=>5000-(intOf v).toNat)
  case atStart=>exact⟨0,Y,rfl,VG _,⟨g,ab.o,HZ.refl _ _ _⟩,a5.o,Sz.refl Y,λ_ h=>h⟩
  obtain⟨n,z,rfl,hn,⟨G,c,m⟩,f,d,r⟩:=hrel;obtain⟨vh,M⟩:=c.hs;have gl:=M.cells.2.2.2.2;have t:=LH (Qr c);unfold pw at t;clear M;have a:(z.net.l=[]\/n=5000)->CaRel P own H w (Wm eQ ((q+1:Nat):Int)) wr:=λO=>by
   refine⟨q+1,z,rfl,Z0,⟨G,c,a1.o.trans m⟩,f,a9.o.trans d,λH' Z=>ad.o H' ?_⟩;rw[show 4-q=(4-(q+1))+1 by omega];refine Cy.more a6.o (r z ?_) Z;obtain h0|h0:=O;exact .none h0;rw[h0];exact .zero z
  by_cases A:z.net.l=[]
  ·have HO:=LH (a (eR A));have l:z.net.l.length=0:=by rw[A];rfl
   rw[l]at t;clear a c m f d r A l;go_wp2_with fail;refine t.o.mono ?_;rintro e w2 ⟨rfl,rfl⟩;go_wp2_with fail;go_roundw;exact HO.o;simp[intOf];omega
  have l:0<z.net.l.length:=List.length_pos_iff.2 A;have ae:decide ((z.net.l.length:Int) > 0)=VD:=ZA Z0;by_cases af:(n:Int)<5000
  ·have X:=LH (qbg c f (d.c.trans R) l);have ah:=LH c;have a0:=LH m;have a3:=LH f;have a7:=LH d;have ac:=LH r;have aa:=LH A;have Q:z.c=3:=d.c.trans R;unfold pw at X;clear a c m f d r A;go_wp2_with fail;refine t.o.mono ?_;rintro e w2 ⟨rfl,rfl⟩;go_wp2_with fail;refine X.o.mono ?_;rintro e w3 ⟨rfl,H4,hd,F,U,S⟩;obtain⟨J,N⟩:=Rv.wf hd a3.o Q;have HR:=LH (show CaIn P g Y w1 (Wm eQ ((n+1:Nat):Int)) w3 from⟨n+1,H4,rfl,Z0,⟨F,U,a0.o.trans S⟩,J,a7.o.trans N,λH' Z=>ac.o H' (by
    rw[show 5000-n=(5000-(n+1))+1 by omega];exact .more aa.o hd Z)⟩)
   clear U S hd J N;go_wp2_with fail;go_roundw;exact HR.o;simp[intOf];omega
  have HO:=LH (a (eS Z0));clear a c m f d r A l;go_wp2_with fail;refine t.o.mono ?_;rintro e w2 ⟨rfl,rfl⟩;go_wp2_with fail
  all_goals (go_roundw;(case rel=>exact HO.o);(case measure=>simp[intOf];omega))
 obtain rfl:q=4:=by omega
 have HF:=LH (show Pq P own H w (ZY (ZZ #[])) wr from⟨rfl,H2,y H2 (.zero H2),⟨I,x,u⟩,o,p⟩);clear x u o p y;go_wp2_with fail
 go_end0
 exact HF.o
def Qq(id:Int)(L:List AW):AI (Bw id L)=(AI L).filter λm=>!gone id m:=by unfold AI Bw;rw[List.filter_map];rfl
def ddM_put(dead:Int->Bool)(id:Int):AY (U2 dead) id (Bs (ZX VD))=U2 λi=>decide (i=id) || dead i:=by funext j;unfold AY U2;by_cases e:j=id;subst e;simp;simp[e]
def Bz.bK{w:D0}{n:Nat}{D:Option Nat}{dead:Int->Bool}(h:Bz w n D dead)(c:∀i,dead i=VD->0<=i/\i<=60):Bz w 100 D dead:=by
 cases D with
 |none=>exact h
 |some b=>
  refine(Ab.bK (C:=BP) h DR (λo _ a=>?_)).mono (by rw[q3y];omega);cases e:dead o with
  |false=>rw[e]at a;exact ZB rfl a
  |true=>have:=c o e;exact RA this.1 this.2
def Hs.cB(H:Hs)(id:Int):Hs:={H with net:=E7 H.net id}
def Hs.bm(H:Hs)(s:Nat)(id:Int):Hs:=H.ax s {H.sh s with aq:=λi=>decide (i=id) || (H.sh s).aq i}
def q53{H:Hs}{id:Int}(h:H.node id=B0):H.fail id=H:=by unfold Hs.fail;rw[h]
def q52{H:Hs}{id:Int}(h:H.node id=Bs (s,j)):H.fail id=(H.bm s id).cB id:=by unfold Hs.fail;rw[h];rfl
def G4(H:Hs)(id:Int):Int:=if H.node id=B0 then 7 else 0
def Wf.ed{H:Hs}(h:Wf H)(c:H.c=3)(hs:s<3)(a:j<H.n):0<=((H.sh s).nd j).id/\((H.sh s).nd j).id<=60:=by have f:=(h.nd s j Z0 a).id;have d:=h.n4;omega
def Wf.bm{H:Hs}(h:Wf H){s:Nat}{id:Int}(d:0<=id/\id<=60):Wf (H.bm s id):=by
 have e:∀k,((H.bm s id).sh k).nd=(H.sh k).nd/\((H.bm s id).sh k).tab=(H.sh k).tab/\((H.bm s id).sh k).sto=(H.sh k).sto/\∀i,((H.bm s id).sh k).aq i=VD->0<=i/\i<=60\/(H.sh k).aq i=VD:=λk=>by
  by_cases f:k=s;subst f;have:(H.bm k id).sh k = {H.sh k with aq:=λi=>decide (i=id) || (H.sh k).aq i}:=Aq _ _ _;rw[this];refine⟨rfl,rfl,rfl,λi a=>?_⟩;obtain a|a:=Bool.or_eq_true_iff.1 a;have:=of_decide_eq_true a;subst this;exact eR d;exact eS a;have:(H.bm s id).sh k=H.sh k:=Ay f _;rw[this];exact⟨rfl,rfl,rfl,λi a=>eS a⟩
 exact⟨h.n4,h.c3,h.cr,λk j c g=>by rw[(e k).1];exact h.nd k j c g,λk c=>by rw[(e k).2.1];exact h.tab k c,λk c=>by rw[(e k).2.2.1];exact h.sto k c,λk c i a=>((e k).2.2.2 i a).elim (λq=>q) (h.aq k c i),h.net,h.down,h.tx,h.tm,h.dY⟩
def Wf.cB{H:Hs}(h:Wf H){id:Int}(c:0<=id/\id<=60):Wf (H.cB id):=
 ⟨h.n4,h.c3,h.cr,h.nd,h.tab,h.sto,h.aq,λm d=>h.net m (YO.1 d).1,λi a=>by
  obtain a|a:=Bool.or_eq_true_iff.1 a;have:=of_decide_eq_true a;subst this;exact c;exact h.down i a,h.tx,h.tm,h.dY⟩
def Wf.fail{H:Hs}(h:Wf H)(c:H.c=3)(id:Int):Wf (H.fail id):=by
 rcases e:H.node id with _|⟨s,j⟩
 rw[q53 e];exact h;rw[q52 e];obtain⟨g,f,_,d⟩:=q9h e;have a:=h.ed c g f;rw[d]at a;exact(h.bm a).cB a
def Er.eG{g:Nat}{gn:Nat->Nat}{v:Pa}{x:Bv}(h:Er w own n s g gn v x){a:Int->Bool}(f:Fr (λk=>k=v.bd) w w')(o:Ab BP w' v.bd 100 (U2 a)):Er w' own n s g gn v {x with aq:=a}:=by
 have c:=h.dP;have n0:¬g=v.bd:=λe=>by have:=h.gt;rw[e,c]at this;cases this
 have m:∀b,AH v.mt v.e3 x.tab b->¬b=v.bd:=λb d e=>by have:=h.cw b d;rw[e,c]at this;cases this
 have n2:∀b,DL v.ms v.e4 x.sto b->¬b=v.bd:=λb d e=>by have:=h.cE b d;rw[e,c]at this;cases this
 have l:∀b,v.Vn.ownBlock=Bs b->¬b=v.bd:=λb d e=>by have:=h.cy b d;rw[e,c]at this;cases this
 have d:Ae w' g 105 (Gt v {x with aq:=a}):=f.al h.tab.al n0;exact⟨f.own h.row l,h.cy,o,c,h.tab.da f m d rfl,h.cw,h.sto.da f n2 d rfl rfl,h.cE,h.gt⟩
def Qw(h:HI w own P H)(B:Wf H){id:Int}(u:0<=id/\id<=60):VX Tryz.prog 83 #[pw P.g,Wm eQ id] w λe w'=>∃d own',e=ZY (Wm eQ d)/\HI w' own' P (H.cB id)/\HZ SM w own w' own':=by
 obtain⟨v,g⟩:=h.hs;refine(T6 0 P.g 0 100 _ _ v.Vn v.D v.L H.net.aq v.df id w g.nt (Gu Z0 Z0) Z2).mono ?_;rintro e w' ⟨V',l,d,lost',rfl,_,c,F,E,G⟩;have n:=Iw g F;have z:∀i,(decide (i=id) || H.net.aq i)=VD->0<=i/\i<=60:=(B.cB u).down;have m:AO w' 0 P.g 0 92 (P0 {v with Vn:=V',D:=l,L:=Bw id v.L,df:=lost'} H.ah) V' l 100 (Bw id v.L) (λi=>decide (i=id) || H.net.aq i) lost':=
  ⟨c.al,c.c0,c.c1,c.c2,c.row,c.own,c.down.bK z,c.len,c.ne,c.bg⟩
 have y:Ext own (Ej own w.heap.size (FN {v with Vn:=V',D:=l,L:=Bw id v.L,df:=lost'}) .net) w.heap.size:=SV;have r:∀b,FN {v with Vn:=V',D:=l,L:=Bw id v.L,df:=lost'} b->own b=Bs .net\/w.heap.size<=b:=λb a=>by
  obtain a|a|⟨x,o,a⟩:=a;exact eR (g.bI b (eR (by rw[<- E];exact a)));have f:l=Bs b:=a;obtain A|⟨q,A,I⟩:=G;exact eR (g.bI b (eS (eR (by rw[<- A];exact f))));rw[A]at f;injection f with f;exact eS Z0;exact eR (g.bI b (eS (eS ⟨x,(YO.1 o).1,a⟩)))
 have p:=g.dS (net':=E7 H.net id) (v':={v with Vn:=V',D:=l,L:=Bw id v.L,df:=lost'}) n y rfl rfl m (by show AI (Bw id v.L)=H.net.l.filter _;rw[Qq,g.cb]) (λb a=>SS (r b a) a) (λx o=>g.cd x (YO.1 o).1);exact⟨d,_,rfl,h.setHs' (net':=E7 H.net id) (time':=H.ah) (Ii n (λt C=>C.elim eR (λe=>eS (eR e)))) y (SR n.size (λb a=>m.a9 a)) ⟨_,p⟩,⟨y,n,(by first|exact RC Z3|exact λ_ _ h=>h)⟩⟩
def TW(h:HI w own P H)(M:Wf H)(hc:H.c=3)(id:Int):VX Tryz.prog 56 #[pw P.g,Wm eQ id] w (FP P own w (G4 H id,H.fail id)):=by
 have HH:=LH h;have r:=LH M;have c:=LH (Ki h M hc id);unfold NodeQ at c;clear h M;rcases a:H.node id with _|⟨s,j⟩
 ·rw[a]at c;have HR:=LH (λW (l:VI w.heap.size w W)=>show FP P own w (G4 H id,H.fail id) (ZY (.iface 79 (Wm eQ 7))) W from⟨by unfold G4;rw[Z8 a];rfl,own,by show HI W own P (H.fail id);rw[q53 a];exact HH.o.below l,HZ.below own l⟩);unfold Kj at c;unfold pw at *;clear a;go_enter Tryz.func56,Tryz.ntmps56;go_wp2_with fail;refine c.o.mono ?_;rintro e J ⟨rfl,l⟩;have X:=LH (HR.o J l);clear l;go_wp2_with fail;go_ret;exact X.o
 rw[a]at c;obtain⟨N,R,_,q⟩:=q9h a;have m:=r.o.ed hc N R;rw[q]at m;have U:=LH (q52 a);have A:G4 H id=0:=by unfold G4;rw[Z7 (by rw[a];simp)]
 have V:=LH A;unfold Kj at c;have y:s<H.c:=by omega
 unfold pw at *;clear a q A;go_enter Tryz.func56,Tryz.ntmps56;go_wp2_with fail;refine c.o.mono ?_;rintro e J ⟨rfl,l⟩;have t:=LH (HH.o.below l);have T:=LH (HZ.below (Z:=BZ) own l);obtain⟨v,x⟩:=t.o.sh s y;obtain⟨_,c1,_,_,_,gl⟩:=x.cells;have G:=LH x.dd;have I:=LH (λn (g:Ab BP n v.bd 101 (AY (U2 (H.sh s).aq) id (Bs (ZX VD)))) (f:Fr (λk=>k=v.bd) J n)=>(by
  rw[ddM_put]at g;have B:=(r.o.bm (s:=s) m).aq s y;rw[show(H.bm s id).sh s = {H.sh s with aq:=λi=>decide (i=id) || (H.sh s).aq i}from Aq _ _ _]at B;have Q:Ab BP n v.bd 100 (U2 λi=>decide (i=id) || (H.sh s).aq i):=by
   refine(Ab.bK (C:=BP) g DR (λo _ O=>?_)).mono (by rw[q3y];omega);cases e:(decide (o=id) || (H.sh s).aq o)with
   |false=>unfold U2 at O;simp only[e]at O;exact ZB rfl O
   |true=>have:=B o e;exact RA this.1 this.2
  have z:Fr (OS own (Dr s)) J n:=f.mono (λb _ e=>⟨_,by rw[e];exact x.dP,eS (eS (eR rfl))⟩);exact⟨t.o.setSh' rfl z (Ext.refl own _) (λb l=>VF (t.o.lt b l) f.size) ⟨v,x.eG f Q⟩,T.o.trans ⟨Ext.refl own _,Ii z (λ_=>Ge),λ_ _ h=>h⟩⟩:HI n own P (H.bm s id)/\AC w own n own))
 clear l c x;go_wp2_with (at_mapUpdate;refine U1 (C:=BP) rfl 60 4 Tryz.underlying60 _ _ _ rfl rfl G.o Zx id (ZX VD) rfl rfl (Gu Z0 Z0) ?_;intro n g f)
 have K:=I.o n g f;obtain⟨vh,u⟩:=K.1.hs;have a0:=u.cells.2.2.2.2;have HD:=LH (Qw K.1 (r.o.bm m) m);have S:=LH K.2;unfold pw at HD;clear K g f c1 gl u I G
 try go_wp2_with fail
 refine HD.o.mono ?_;rintro e Y ⟨d,p,rfl,F,E⟩;have X:=LH (show FP P own w (G4 H id,H.fail id) (ZY ZS) Y from⟨by rw[V.o];rfl,p,by show HI Y p P (H.fail id);rw[U.o];exact F,S.o.trans (E.mono (λ_=>q91))⟩);clear F E;go_wp2_with fail;go_ret;exact X.o
def AlRel(H:Hs)(w:D0)(v:S2)(wr:D0):Prop:=∃q:Nat,v=Wm eQ q/\q<=3/\(∀s,s<q->(H.sh s).ai H.n≠[])/\VI w.heap.size w wr
def Hb{H:Hs}(h:∀s,s<3->(H.sh s).ai H.n≠[]):H.du=VD:=by
 unfold Hs.du;rw[List.all_eq_true];intro s hs;have:s<3:=by simp at hs;omega
 simpa using h s this
def Uf{H:Hs}(hs:s<3)(h:(H.sh s).ai H.n=[]):H.du=L1:=by unfold Hs.du;rw[List.all_eq_false];exact⟨s,by simp;omega,by simp[h]⟩
def Rl(h:HI w own P H)(y:Wf H)(Q:H.c=3):VX Tryz.prog 19 #[pw P.g] w λe w'=>e=ZY (ZX H.du)/\VI w.heap.size w w':=by
 have T:=LH h;have B:=LH y;have N:=y.n4;obtain⟨W,X,⟨U,n,t⟩,o⟩:=h.er Q;obtain⟨_,K,_,_,Z⟩:=n.cells;rw[t]at K;have C:=LH o;have R:=LH (Hb (H:=H));have S:=LH (λs hs hl=>Uf (H:=H) (s:=s) hs hl);clear h y n t o;generalize H.du=al at *;unfold pw at *;go_enter Tryz.func19,Tryz.ntmps19;go_wp2_with fail;clear K;go_loopw [10] (AlRel H w) (λv _=>3-(intOf v).toNat)
 case atStart=>exact⟨0,rfl,VG _,λs hs=>ZB hs (Nat.not_lt_zero _),VC _ _⟩
 obtain⟨q,rfl,Y,g,d⟩:=hrel;by_cases O:(q:Int)<3
 ·obtain⟨r,M⟩:=C.o wr own (HZ.below own d) q Z0;have x:=LH (q51 (T.o.below d) B.o (s:=q) Z0);have G:=LH g;have m:=LH d;unfold DN pw at x;clear g d;rcases hl:(H.sh q).ai H.n with _|⟨j,l⟩
  ·rw[hl]at x;have u:=LH (S.o q Z0 hl);clear hl;go_wp2_with fail;refine x.o.mono ?_;rintro e I ⟨V,rfl,a,f⟩;obtain⟨A,c,rfl,_,_⟩:=AM a;have F:=LH (m.o.trans (f.mono m.o.size));clear a f r;go_wp2_with fail;go_ret;exact⟨by rw[u.o];rfl,F.o⟩
  have E:=LH (show(H.sh q).ai H.n≠[] by rw[hl];simp);have z:=q2n (H.sh q) H.n;rw[hl]at x z;have p:((j::l).length:Int)≠0:=by simp;omega
  have e0:(((j::l).length:Int) == 0)=L1:=Z6 p;generalize (j::l)=L at *;clear hl;go_wp2_with fail;refine x.o.mono ?_;rintro e I ⟨V,rfl,a,f⟩;obtain⟨A,c,rfl,_,_⟩:=AM a;have u:=LH (show AlRel H w (Wm eQ ((q+1:Nat):Int)) I from⟨q+1,rfl,Z0,λs hs=>by
   obtain J|J:=Xd s q;exact G.o s J;rw[show s=q by omega];exact E.o,m.o.trans (f.mono m.o.size)⟩)
  clear a f r;go_wp2_with fail;go_roundw;exact u.o;simp[intOf];omega
 obtain rfl:q=3:=by omega
 have u:=LH (R.o g);have m:=LH d;clear g d;go_wp2_with fail;go_ret;exact⟨by rw[u.o];rfl,m.o⟩
def FD.aB{t:Bu}(h:FD t):FD {t with aa:=2,aw:=λk=>if (t.af k).isSome then Bs (-1)else t.aw k}:=
 ⟨h.cd,h.ps,h.sh,λk e a=>by
  show k=0\/k=1;replace a:(if (t.af k).isSome then Bs (-1)else t.aw k)=Bs e:=a;split at a;rename_i hs;obtain⟨q,c⟩:=ZQ.1 hs;exact(h.sh k q c).1;exact h.pl k e a,h.wn,h.wnd⟩
def Wf.aB{H:Hs}(h:Wf H){i:Nat}(c:1<=i)(a:i<=H.m):Wf (H.aB i):=h.ay (h.tx i c a).aB rfl
def En(t:Bu)(left:Int->Bool):Int->Option Int:=λo=>if (t.af o).isSome && !left o then Bs (-1)else t.aw o
def TZ{t:Bu}(c:FD t){left:Int->Bool}{o:Int}(h:En t left o≠B0):0<=o/\o<=60:=by
 unfold En at h;have:o=0\/o=1:=by
  split at h;rename_i hs;rw[Wl]at hs;obtain⟨q,a⟩:=ZQ.1 hs.1;exact(c.sh o q a).1;obtain⟨q,a⟩:=ZJ.1 h;exact c.pl o q a
 omega
def Q7{t:Bu}{left a:Int->Bool}{o:Int}(d:t.af o≠B0)(hl:∀y,a y=VD↔left y=VD/\y≠o):AS (En t left) o (-1)=En t a:=by
 funext j;unfold AS En;by_cases e:j=o;subst e;rw[Z8 rfl];obtain⟨q,c⟩:=ZJ.1 d;have:a j=L1:=by
  rw[Zw];exact λh=>((hl j).1 h).2 rfl
 rw[c,this];rfl;rw[Z7 e];have:a j=left j:=by
  rw[XW,hl j];exact⟨λh=>h.1,λh=>⟨h,e⟩⟩
 rw[this]
def EeRel(t:Bu)(v:LW)(r:Nat)(c wr:D0):Prop:=
 ∃(left:Int->Bool)(a:Nat),Ed BP wr v.bs r 100 (Dl t.af) left a/\Ab BP wr v.bp 100 (Dl (En t left))/\Fr (λk=>k=v.bp) c wr
def Fk(P:Av)(own:Ah)(H:Hs)(id:Int)(w:D0)(e:WE)(w':D0):Prop:=∃a H',e=ZY (C0 a)/\FQ H id a H'/\Cf P own H' w w'
section
variable {w w':D0}{own own':Ah}{P:Av}{H:Hs}
open Classical in
def IP(h:HI w own P H)(J:Wf H)(hc:H.c=3)(id:Int):VX Tryz.prog 14 #[pw P.g,Wm eQ id] w (Fk P own H id w):=by
 have W:=LH (q5k h (Z4 J.cr) id);by_cases G:id<1\/H.m<id
 ·have HR:=LH (show Fk P own H id w (ZY (.iface 79 (Wm eQ 7))) w from⟨7,H,rfl,.missing G,own,h,HZ.refl _ _ _⟩);rw[q84 G]at W;clear h J G;unfold pw at *;go_enter Tryz.func14,Tryz.ntmps14;go_wp2_with fail;refine W.o.mono ?_;rintro e w1 ⟨rfl,rfl⟩;go_wp2_with fail;go_ret;exact HR.o
 obtain⟨i,rfl⟩:∃i:Nat,id=i:=⟨id.toNat,Z0⟩
 have h1:1<=i:=by omega
 have hi:i<=H.m:=by omega
 have g:1<=(i:Int)/\(i:Int)<=H.m:=by omega
 rw[q62 h1 hi]at W;obtain⟨v,A⟩:=h.tx i h1 hi;have f1:=A.al.frozen 1;obtain⟨_,k1,_,k3,k4,_,k8,gl⟩:=A.cells;obtain⟨A8,c8,I,_,_⟩:=AM A.ak;rw[I]at k8;by_cases s1:(H.tx i).aa=1
 ·have al:=(J.tx i h1 hi).cC;rw[s1]at k1;by_cases f:(H.tx i).ak=[]
  ·have u:(H.tx i).ak.length=0:=by rw[f];rfl
   rw[u]at k8;have HH:=LH h;have ar:=LH J;have HV:=LH A;have E:=A.cZ 2;have a7:Fr (OS own (λt=>t=.tx i)) w (w.setCell ⟨P.gt i,1,B0⟩ (Wm eQ 2)):=(Fr.refl _ w).setCell (p:=⟨P.gt i,1,B0⟩) (.inl ⟨_,A.gt,rfl⟩) _;have l:=LH E;have aC:=LH a7;have aD:=LH (λH' (r:Ek (H.aB i) H')=>FQ.ends (H:=H) (id:=i) g s1 f r);have au:=LH E.af;have U:=LH (J.tx i h1 hi);have an:=A.ne;have aL:=LH (show(w.setCell ⟨P.gt i,1,B0⟩ (Wm eQ 2)).heap.size=w.heap.size by simp);have aJ:=E.af.lt;have aE:=LH (show Dl (En (H.tx i) (λx=>((Dl (H.tx i).af) x).isSome))=Dl (H.tx i).aw from by
    congr 1;funext o;unfold En Dl;cases e:(H.tx i).af o<;>simp[e])
   clear h J G A s1 f u E a7 I g al;unfold pw at *;go_enter Tryz.func14,Tryz.ntmps14;go_wp2_with fail;refine W.o.mono ?_;rintro e w1 ⟨rfl,rfl⟩;go_wp2_with (at_range;refine q32 rfl _ 61 3 rfl Tryz.underlying61 rfl au.o ?_;intro w0 ad O a8 BJ)
   generalize a1:(w.setCell ⟨P.gt i,1,B0⟩ (Wm eQ 2)).heap.size=B at O BJ ⊢;have ah:=LH a1;clear a1;have av:=LH (show Ab BP w0 v.bp 100 (Dl (En (H.tx i) (λx=>((Dl (H.tx i).af) x).isSome)))from by rw[aE.o];exact l.o.aw.fr a8 (λh=>h))
   try go_frame
   go_loopw [6] (λ_ wr=>EeRel (H.tx i) v B (w.setCell ⟨P.gt i,1,B0⟩ (Wm eQ 2)) wr) (λ_ wr=>wr.rangeLeft v.bs B)
   case atStart=>exact⟨_,ad,O,av.o,a8.mono (λ_ _ h=>h.elim)⟩
   obtain⟨left,aK,Z,a2,a6⟩:=hrel;have ag:=LH Z;have aj:=LH a2;have V:=LH a6;clear Z a2 a6;go_wp2_with (at_next;refine q3m rfl _ rfl rfl ag.o ?_ ?_)
   ·intro u;have R:En (H.tx i) left=λk=>if ((H.tx i).af k).isSome then Bs (-1)else(H.tx i).aw k:=by
     funext o;unfold En;cases e:(H.tx i).af o with
     |none=>rfl
     |some q=>
      have:left o=L1:=u o (by have:=(U.o.sh o q e).1;exact Gu Z0 Z0);rw[this];rfl
    have F:Fr (OS own (λt=>t=.tx i)) w wr:=aC.o.trans' V.o (λb G e=>⟨_,by rw[e];exact HV.o.pt,rfl⟩);have Y:CL wr own i (P.gt i) v ({H.tx i with aa:=2,aw:=λk=>if ((H.tx i).af k).isSome then Bs (-1)else(H.tx i).aw k}):=by
     have a3:=aj.o;rw[R]at a3;exact l.o.ds V.o a3
    have ac:HI wr own P (H.aB i):=HH.o.setTx' F (Ext.refl own _) (λb G=>VF (HH.o.lt b G) F.size) ⟨_,Y⟩;have ae:=LH (q4u ac (ar.o.aB h1 hi) hc);have aq:=LH (show AC w own wr own from⟨Ext.refl own _,Ii F (λ_=>DH),λ_ _ h=>h⟩);unfold pw at ae;clear ac Y F R u;go_wp2_with fail;refine ae.o.mono ?_;rintro e w9 ⟨rfl,H',hr,X,ab,a9⟩;have aB:=LH (show Fk P own H i w (ZY ZS) w9 from⟨0,H',rfl,aD.o H' hr,X,ab,aq.o.trans a9⟩);clear hr ab a9;go_wp2_with fail;go_ret;exact aB.o
   intro o v9 w3 S am aH c N a4 T aG ap;obtain⟨q,hq,rfl⟩:∃m,(H.tx i).af o=Bs m/\v9=Wm eQ m:=by
    unfold Dl at c;cases e:(H.tx i).af o with
    |none=>rw[e]at c;cases c
    |some m=>rw[e]at c;injection c with c;exact⟨m,rfl,c.symm⟩
   rw[show BP.val o=Wm eQ o from rfl]at ap ⊢;have a0:¬B=v.bp:=λe=>by have:=l.o.aw.lt;have:=ah.o;omega
   have a5:¬P.gt i=v.bp:=λe=>l.o.bC.2.2.2.1 e.symm
   have d:Fr (λk=>k=v.bp) (w.setCell ⟨P.gt i,1,B0⟩ (Wm eQ 2)) w3:=V.o.trans' T (λk hk (e:k=B)=>Z4 ah.o);have ak:=LH d;have ai:=LH (aj.o.fr T (λe=>a0 e.symm));have d4:=(d.al l.o.al a5).cell 4;have dl:=(d.al l.o.al a5).lt;unfold P8 at d4;simp only[NW,Ft,O0]at d4;have af:=LH N;have aA:=LH (ag.o.left_eq▸a4:S<wr.rangeLeft v.bs B);have ax:=LH (λK (n:Ab BP K v.bp 101 (AY (Dl (En (H.tx i) left)) o (Bs (Wm eQ (-1))))) (z:Fr (λk=>k=v.bp) w3 K)=>(by
    have M:=af.o.fr z (λe=>an e) a0;rw[qdw]at n;have ao:Ab BP K v.bp 100 (Dl (AS (En (H.tx i) left) o (-1))):=by
     refine(n.bK DR (λa _ ha=>?_)).mono (show DR.length<=100 from by rw[q3y];decide);by_cases ea:a=o;subst ea;have hk:=(U.o.sh a q hq).1;exact RA Z0 Z0;have Q:=TZ U.o (left:=left) (o:=a) (λe=>ha (by unfold Dl AS;rw[Z7 ea,e];rfl));exact RA Q.1 Q.2
    refine⟨⟨_,S,M,?_,ak.o.trans z⟩,by show K.rangeLeft v.bs B<_;rw[M.left_eq];exact aA.o⟩;rw[<- Q7 (left:=left) (o:=o) (by rw[hq];simp) (λy=>Z3)];exact ao:EeRel (H.tx i) v B (w.setCell ⟨P.gt i,1,B0⟩ (Wm eQ 2)) K/\K.rangeLeft v.bs B<wr.rangeLeft v.bs B))
   clear d c N a4 T hq;go_wp2_with (at_mapUpdate;refine U1 (C:=BP) rfl 61 3 Tryz.underlying61 _ _ _ rfl rfl ai.o Zx o (Wm eQ (-1)) rfl rfl am ?_;intro K n z)
   have hn:=ax.o K n z;have az:=LH hn.1;have ay:=LH hn.2;clear hn n z d4 dl;go_roundw
   case rel=>exact⟨_,_,_,_,_,_,_,_,_,_,az.o,rfl⟩
   case measure=>exact ay.o
  have HR:=LH (show Fk P own H i w (ZY (.iface 79 (Wm eQ 11))) w from⟨11,H,rfl,.waits g s1 f,own,h,HZ.refl _ _ _⟩);have aF:0<(H.tx i).ak.length:=List.length_pos_iff.2 f;have aI:(0:Int)<(H.tx i).ak.length:=by omega
  clear h J G A s1 f I g;unfold pw at *;go_enter Tryz.func14,Tryz.ntmps14;go_wp2_with fail;refine W.o.mono ?_;rintro e w1 ⟨rfl,rfl⟩;go_wp2_with fail;go_ret;exact HR.o
 have HR:=LH (show Fk P own H i w (ZY (.iface 79 (Wm eQ 6))) w from⟨6,H,rfl,.aa g s1,own,h,HZ.refl _ _ _⟩);have e1:((H.tx i).aa != 1)=VD:=Z6 s1;clear h J G A s1 I g;unfold pw at *;go_enter Tryz.func14,Tryz.ntmps14;go_wp2_with fail;refine W.o.mono ?_;rintro e w1 ⟨rfl,rfl⟩;go_wp2_with fail;go_ret;exact HR.o
end
def Hs.aA(H:Hs)(i s:Nat):Hs:=H.ay i {H.tx i with af:=AS (H.tx i).af s (H.sh s).ad}
def Hs.b7(H:Hs)(i s:Nat)(k:Sx)(mode:Int):Hs:=H.ax s {H.sh s with tab:=Ap (H.sh s).tab i k mode}
def Hs.bq(H:Hs)(i:Nat)(k:Sx)(mode:Int):Hs:=H.ay i {H.tx i with ak:=(H.tx i).ak++[(k,mode)]}
def woundd(H:Hs)(l:List Int):Hs:=l.foldl Hs.bc H
def Rs(H:Hs)(i s:Nat):Prop:=∃e,(H.tx i).af s=Bs e/\e≠(H.sh s).ad
def FJ(k:Sx):Aa k<2:=Nat.mod_lt _ Z2
section
variable {H:Hs}{id:Int}{i:Nat}{k:Sx}{mode:Int}
def q1l(h:id<1\/H.m<id):H.aJ id k mode=(7,H):=by unfold Hs.aJ;rw[Z8 h]
def q40(c:1<=i)(a:i<=H.m)(h:(H.tx i).aa≠1):H.aJ i k mode=(6,H):=by unfold Hs.aJ;rw[Z7 Z0];rw[Z8 (by exact h)]
def q4z(f:1<=i)(d:i<=H.m)(h:(H.tx i).aa=1)(c:k.length<=20)(a:H.head (Aa k)=B0):H.aJ i k mode=(12,H):=by unfold Hs.aJ;rw[Z7 Z0];rw[Z7 (by exact λq=>q h)];rw[Z7 Z0];rw[Z8 a]
def q41(g:1<=i)(f:i<=H.m)(h:(H.tx i).aa=1)(d:k.length<=20)(c:H.head (Aa k)≠B0)(a:Rs H i (Aa k)):H.aJ i k mode=(6,H.a3 i):=by unfold Hs.aJ;rw[Z7 Z0];rw[Z7 (by exact λq=>q h)];rw[Z7 Z0];rw[Z7 c];rw[Z8 (by exact a)];rfl
def q3z(l:1<=i)(g:i<=H.m)(h:(H.tx i).aa=1)(f:k.length<=20)(d:H.head (Aa k)≠B0)(c:¬Rs H i (Aa k))(a:Cp (H.tx i).ak k=VD):H.aJ i k mode=(11,H.aA i (Aa k)):=by unfold Hs.aJ;rw[Z7 Z0];rw[Z7 (by exact λq=>q h)];rw[Z7 Z0];rw[Z7 d];rw[Z7 (by exact c)];exact Z8 (by show Cp ((H.aA i (Aa k)).tx i).ak k=VD;rw[show((H.aA i (Aa k)).tx i).ak=(H.tx i).ak by unfold Hs.aA;rw[UT]];exact a)
def q78(l:1<=i)(g:i<=H.m)(h:(H.tx i).aa=1)(f:k.length<=20)(d:H.head (Aa k)≠B0)(c:¬Rs H i (Aa k))(a:Cp (H.tx i).ak k=L1):H.aJ i k mode=(H.aA i (Aa k)).bA i k mode:=by unfold Hs.aJ;rw[Z7 Z0];rw[Z7 (by exact λq=>q h)];rw[Z7 Z0];rw[Z7 d];rw[Z7 (by exact c)];exact Z7 (by show ¬Cp ((H.aA i (Aa k)).tx i).ak k=VD;rw[show((H.aA i (Aa k)).tx i).ak=(H.tx i).ak by unfold Hs.aA;rw[UT],a];simp)
def q2z(h:CF (Ad (H.sh (Aa k)).tab k).ws i=VD):H.bA i k mode=(9,H.b7 i (Aa k) k mode):=by unfold Hs.bA;simp only[h,if_true];rfl
def q3d(h:CF (Ad (H.sh (Aa k)).tab k).ws i=L1)(a:Ai (Ad (H.sh (Aa k)).tab k).h i mode (Ad (H.sh (Aa k)).tab k).ws=VD):H.bA i k mode=(0,H.b7 i (Aa k) k mode):=by unfold Hs.bA;simp only[h,a,if_true,Yd,if_false];rfl
def q3e(h:CF (Ad (H.sh (Aa k)).tab k).ws i=L1)(c:Ai (Ad (H.sh (Aa k)).tab k).h i mode (Ad (H.sh (Aa k)).tab k).ws=L1)(a:(Ad (H.sh (Aa k)).tab k).ws.length=50):H.bA i k mode=(4,H.b7 i (Aa k) k mode):=by unfold Hs.bA;simp only[h,c,a,if_true,Yd,if_false];rfl
def q2k(h:CF (Ad (H.sh (Aa k)).tab k).ws i=L1)(c:Ai (Ad (H.sh (Aa k)).tab k).h i mode (Ad (H.sh (Aa k)).tab k).ws=L1)(a:(Ad (H.sh (Aa k)).tab k).ws.length≠50) :
  H.bA i k mode=(if Cp ((woundd ((H.b7 i (Aa k) k mode).bq i k mode) (EG (Ad (H.sh (Aa k)).tab k).h i mode)).tx i).ak k then 11 else 0,woundd ((H.b7 i (Aa k) k mode).bq i k mode) (EG (Ad (H.sh (Aa k)).tab k).h i mode)):=by
 unfold Hs.bA;simp only[h,c,a,Yd,if_false];rfl
open Classical in
def FR(f:∀o m,h o=Bs m->1<=o/\o<=60){l:List Int}(hl:IZ h tx mode l):l=EG h tx mode:=by refine Gi (lt:=(· < ·)) (λa=>Z0) (λa b c=>Z0) hl.1 ?_ (λa=>?_);unfold EG;refine Yg _ ?_;rw[Xb];refine List.Pairwise.imp (λ{a b} h=>?_) List.pairwise_lt_range;show(a:Int)<b;omega;rw[hl.2 a];unfold EG;rw[YO,decide_eq_true_iff];constructor;rintro ⟨n,m,d,g⟩;refine⟨ZE.2 ⟨a.toNat,ZH.2 ?_,?_⟩,n,m,d,g⟩;have:=f a m d;omega;have:=f a m d;show(a.toNat:Int)=a;omega;exact λh=>h.2
def q9r{o:Int}(a:o∈EG h tx mode):0<=o/\o<=60:=by unfold EG at a;obtain⟨n,c,e⟩:=ZE.1 (YO.1 a).1;have:=ZH.1 c;have e:(n:Int)=o:=e;omega
def q9t{l:List Int}{o:Int}(h:l[q]? = Bs o):woundd H (l.take (q+1))=(woundd H (l.take q)).bc o:=by unfold woundd;rw[VV,h,WV];rfl
def Jn(H:Hs)(o:Int):Sz H (H.bc o):=by unfold Hs.bc;split;exact(Ik H o.toNat).1.sz;exact Sz.refl H
def q4q:∀(l:List Int)(H:Hs),Sz H (woundd H l)
 |[],H=>Sz.refl H
 |o::l,H=>(Jn H o).trans (q4q l (H.bc o))
def Wf.bc(h:Wf H)(a:H.c=3)(o:Int):Wf (H.bc o):=by unfold Hs.bc;split;rename_i hs;exact h.a3 a Z0 Z0;exact h
def Wf.bD:∀(l:List Int) {H:Hs},Wf H->H.c=3->Wf (woundd H l)
 |[],_,h,_=>h
 |o::l,H,h,hc=>Wf.bD l (h.bc hc o) ((Jn H o).c.trans hc)
def Wf.aA(h:Wf H)(f:1<=i)(d:i<=H.m){s:Nat}(hs:s<2):Wf (H.aA i s):=by have a:=h.tx i f d;refine h.ay ⟨a.cd,a.ps,λk e c=>?_,a.pl,a.wn,a.wnd⟩ rfl;replace c:AS (H.tx i).af s (H.sh s).ad k=Bs e:=c;unfold AS at c;split at c;rename_i e1;exact⟨Z0,trivial⟩;exact a.sh k e c
def Wf.cY(h:Wf H){T:Tb}(f:Dy T):Wf (H.ax s {H.sh s with tab:=T}):=by
 have e:∀k,((H.ax s {H.sh s with tab:=T}).sh k).nd=(H.sh k).nd/\((H.ax s {H.sh s with tab:=T}).sh k).sto=(H.sh k).sto/\((H.ax s {H.sh s with tab:=T}).sh k).aq=(H.sh k).aq/\(((H.ax s {H.sh s with tab:=T}).sh k).tab=T\/((H.ax s {H.sh s with tab:=T}).sh k).tab=(H.sh k).tab):=λk=>by
  by_cases c:k=s;subst c;rw[show(H.ax k {H.sh k with tab:=T}).sh k = {H.sh k with tab:=T}from Aq _ _ _];exact⟨rfl,rfl,rfl,eR rfl⟩;rw[show(H.ax s {H.sh s with tab:=T}).sh k=H.sh k from Ay c _];exact⟨rfl,rfl,rfl,eS rfl⟩
 refine Wf.of (H':=H.ax s {H.sh s with tab:=T}) h rfl rfl rfl rfl (λk j a d=>by rw[(e k).1];exact h.nd k j a d) (λk a=>?_) (λk a=>by rw[(e k).2.1];exact h.sto k a) (λk _=>(e k).2.2.1) h.net rfl h.tx (λ_=>rfl);obtain e2|e2:=(e k).2.2.2;rw[e2];exact f;rw[e2];exact h.tab k a
def Wf.b7(h:Wf H)(d:1<=i)(c:i<=H.m){s:Nat}(hs:s<H.c)(a:k∈names):Wf (H.b7 i s k mode):=
 h.cY ((h.tab s hs).aJ (Z4 h.cr) a mode)
def qbv{l:List (Sx×Int)}{x:Sx} : Cp l x=VD↔x∈l.map (·.1):=by unfold Cp;rw[List.any_eq_true,List.mem_map];exact⟨λ⟨a,d,c⟩=>⟨a,d,Z6 c⟩,λ⟨a,d,c⟩=>⟨a,d,Z6 c⟩⟩
def Wf.bq(h:Wf H)(n:1<=i)(m:i<=H.m)(l:k∈names)(f:Cp (H.tx i).ak k=L1):Wf (H.bq i k mode):=by have d:=h.tx i n m;refine h.ay ⟨d.cd,d.ps,d.sh,d.pl,λa c=>?_,?_⟩ rfl;obtain c|c:=ZD.1 c;exact d.wn a c;rw[VU.1 c];exact l;show(((H.tx i).ak++[(k,mode)]).map (·.1)).Nodup;rw[WQ,List.nodup_append];refine⟨d.wnd,Z3,λa c b g=>?_⟩;simp only[WJ,List.map_nil,VU]at g;subst g;rintro rfl;rw[qbv.2 c]at f;cases f
end
def lk1_any(c:Nat)(k:Sx)(w:D0)(h:w.cell? ⟨c,0,B0⟩=Bs (ZV ⟨k.toArray⟩)) :
  Ey 63 #[ZW (Bs ⟨c,0,B0⟩)] (CX k) B0 w:=by
 intro W x g;have a:=V5 w _ h;have m:=(g.cell (p:=⟨c,0,B0⟩) a (λe=>nomatch e)).trans h;have l:c<W.heap.size:=VF a g.size;have f:=LH (λo=>(VC W.heap.size W).alloc (Hi _) o);clear h a g;unfold wnV CX;show VX _ _ #[_,_] _ λe w'=>e=ZY (ZX (decide (x.1=k)))/\VI W.heap.size W w'
 by_cases e:x.1=k
 ·have d:(x.1 == k)=VD:=Z6 e;rw[ZA e];go_enter Tryz.func63,Tryz.ntmps63;go_wp2_with fail;go_ret;exact⟨rfl,f.o _⟩
 have d:(x.1 == k)=L1:=Z6 e;rw[Z9 e];go_enter Tryz.func63,Tryz.ntmps63;go_wp2_with fail;go_ret;exact⟨rfl,f.o _⟩
def lk2_any(c:Nat)(k:Sx)(w:D0)(h:w.cell? ⟨c,0,B0⟩=Bs (ZV ⟨k.toArray⟩)) :
  Ey 65 #[ZW (Bs ⟨c,0,B0⟩)] (CX k) B0 w:=by
 intro W x g;have a:=V5 w _ h;have m:=(g.cell (p:=⟨c,0,B0⟩) a (λe=>nomatch e)).trans h;have l:c<W.heap.size:=VF a g.size;have f:=LH (λo=>(VC W.heap.size W).alloc (Hi _) o);clear h a g;unfold wnV CX;show VX _ _ #[_,_] _ λe w'=>e=ZY (ZX (decide (x.1=k)))/\VI W.heap.size W w'
 by_cases e:x.1=k
 ·have d:(x.1 == k)=VD:=Z6 e;rw[ZA e];go_enter Tryz.func65,Tryz.ntmps65;go_wp2_with fail;go_ret;exact⟨rfl,f.o _⟩
 have d:(x.1 == k)=L1:=Z6 e;rw[Z9 e];go_enter Tryz.func65,Tryz.ntmps65;go_wp2_with fail;go_ret;exact⟨rfl,f.o _⟩
def qbw(l:List (Sx×Int))(k:Sx):l.any (CX k)=Cp l k:=by unfold Cp;congr 1;funext a;exact Bool.eq_iff_iff.2 (by simp[CX])
def qby{g c:Nat}{v:LW}{t:Bu}(a:CL w own i g v t)(f:FD t)(k:Sx)(l:w.cell? ⟨c,0,B0⟩=Bs (ZV ⟨k.toArray⟩)) :
  VX Tryz.prog 62 #[v.Vx,.func (.func 63) #[] #[ZW (Bs ⟨c,0,B0⟩)]] w λe w'=>e=ZY (ZX (Cp t.ak k))/\VI w.heap.size w w':=by
 obtain⟨A,m,h,_,_⟩:=AM a.ak;have d:=a.ak;rw[h]at d ⊢;rw[<- qbw];exact q7u _ _ _ B0 A _ m t.ak w (Rz Tryz.func63 Z1 rfl) (lk1_any c k w l) (Rd.a7 d) rfl (Z4 f.cC)
def qbx{g c:Nat}{v:LW}{t:Bu}(a:CL w own i g v t)(f:FD t)(k:Sx)(l:w.cell? ⟨c,0,B0⟩=Bs (ZV ⟨k.toArray⟩)) :
  VX Tryz.prog 62 #[v.Vx,.func (.func 65) #[] #[ZW (Bs ⟨c,0,B0⟩)]] w λe w'=>e=ZY (ZX (Cp t.ak k))/\VI w.heap.size w w':=by
 obtain⟨A,m,h,_,_⟩:=AM a.ak;have d:=a.ak;rw[h]at d ⊢;rw[<- qbw];exact q7u _ _ _ B0 A _ m t.ak w (Rz Tryz.func65 Z1 rfl) (lk2_any c k w l) (Rd.a7 d) rfl (Z4 f.cC)
def An(l:List Cm)(kind id:Int):Prop:=∃c∈l,c.aj=kind/\c.tx=id
def q9l{kind id:Int} : KL kind id c=VD↔c.aj=kind/\c.tx=id:=by unfold KL;simp
def RE{kind id:Int} : place l kind id=B0↔¬An l kind id:=by unfold place An;rw[Wp];constructor;rintro h ⟨c,a,d⟩;have:=h c a;rw[Zw]at this;exact this (q9l.2 d);intro h c a;rw[Zw];exact λe=>h ⟨c,a,q9l.1 e⟩
def q4x{kind id:Int}{p:Nat}(h:place l kind id=Bs p):∃c,l[p]? = Bs c/\c.aj=kind/\c.tx=id:=by unfold place at h;rw[VP]at h;obtain⟨d,a,_⟩:=h;exact⟨_,K0 d,q9l.1 a⟩
def AK(H:Hs)(k:Nat)(kind id:Int):Prop:=∃j p c,H.head k=Bs j/\(lg H k j)[p]? = Bs c/\c.aj=kind/\c.tx=id/\((p:Nat):Int)<H.ao k j
inductive By:Hs->Hs->Prop where
 |a3 {H:Hs} {i:Nat} (h1:1<=i) (hi:i<=H.m) (hs:(H.tx i).aa=1\/((H.tx i).aa=2/\(H.tx i).ah=0)):By H (H.a3 i)
 |tell {H:Hs} {i k:Nat} {kind:Int} (h1:1<=i) (hi:i<=H.m) (hk:k<2) (hs:(kind=3/\(H.tx i).aa=3)\/(kind=4/\(H.tx i).aa=4)):By H (H.aC i kind k)
 |prep {H:Hs} {i k j:Nat} (b:Bool) (h1:1<=i) (hi:i<=H.m) (hk:k∈(H.tx i).ag) (hh:H.head k=Bs j) (hp:¬An (lg H k j) 2 i) (hs:(H.tx i).aa=2) (ht:(H.tx i).ah=0)
   (he:(H.tx i).af k=Bs (H.sh k).ad) (hpl:((H.tx i).aw k).getD 0<0):By H (H.add k j ⟨2,i,0,(H.tx i).of k⟩ b).2
 |place {H:Hs} {i k:Nat} (a:Int) (h1:1<=i) (hi:i<=H.m) (hk:k∈(H.tx i).ag) (ha:0<=a) (hs:(H.tx i).aa=2):By H (H.aS i k a)
 |av {H:Hs} {i:Nat} (h1:1<=i) (hi:i<=H.m) (hs:(H.tx i).aa=2) (hp:∀k∈(H.tx i).ag,AK H k 2 i):By H (H.av i)
 |decide {H:Hs} {i j:Nat} (b:Bool) (h1:1<=i) (hi:i<=H.m) (hh:H.head 2=Bs j) (hp:¬An (lg H 2 j) 3 i) (hs:(H.tx i).aa=2) (ht:(H.tx i).ah≠0):By H (H.add 2 j ⟨3,i,(H.tx i).ah,[]⟩ b).2
 |commit {H:Hs} {i:Nat} (h1:1<=i) (hi:i<=H.m) (hs:(H.tx i).aa=2) (hp:AK H 2 3 i):By H (H.aF i 3)
 |aA {H:Hs} {i k:Nat} (h1:1<=i) (hi:i<=H.m) (hk:k<2) (hs:(H.tx i).aa=1) (hh:H.head k≠B0) (he:(H.tx i).af k=B0\/(H.tx i).af k=Bs (H.sh k).ad):By H (H.aA i k)
 |got {H:Hs} {i:Nat} {x:Sx} {mode:Int} (h1:1<=i) (hi:i<=H.m) (hs:(H.tx i).aa=1) (hx:x∈names) (hm:Bt mode) (hh:H.head (Aa x)≠B0) (he:(H.tx i).af (Aa x)=Bs (H.sh (Aa x)).ad)
   (hw:CF (Ad (H.sh (Aa x)).tab x).ws i=L1) (hf:Ai (Ad (H.sh (Aa x)).tab x).h i mode (Ad (H.sh (Aa x)).tab x).ws=VD):By H (H.b7 i (Aa x) x mode)
 |wait {H:Hs} {i:Nat} {x:Sx} {mode:Int} (h1:1<=i) (hi:i<=H.m) (hs:(H.tx i).aa=1) (hx:x∈names) (hm:Bt mode) (hh:H.head (Aa x)≠B0) (he:(H.tx i).af (Aa x)=Bs (H.sh (Aa x)).ad)
   (hww:Cp (H.tx i).ak x=L1) (hw:CF (Ad (H.sh (Aa x)).tab x).ws i=L1) (hf:Ai (Ad (H.sh (Aa x)).tab x).h i mode (Ad (H.sh (Aa x)).tab x).ws=L1):By H ((H.b7 i (Aa x) x mode).bq i x mode)
 |aD {H:Hs} {s j:Nat} (hs:s<3) (hl:Lv H s j):By H (Hs.bf s H j)
 |aE {H:Hs} {k:Nat} {m:Ms} (hk:H.net.l[k]? = Bs m):By H (({H with net:=takeS H.net k} : Hs).aE m)
inductive Ag:Hs->Hs->Prop where
 |refl (H:Hs):Ag H H
 |step {A B C:Hs} (h:By A B) (r:Ag B C):Ag A C
def Ag.cS{A B:Hs}(h:By A B):Ag A B:=.step h (.refl B)
def Ag.trans{A B C:Hs}(h:Ag A B)(k:Ag B C):Ag A C:=by
 induction h with
 |refl=>exact k
 |step h _ a=>exact .step h (a k)
def By.sm{H H':Hs}(h:By H H'):Sm H H':=by
 cases h with
 |a3=>exact(Ik _ _).1
 |tell=>exact⟨(Ee _ _ _ _).1,(Ee _ _ _ _).2.1,(Ee _ _ _ _).2.2.1⟩
 |prep=>exact Sm.add _ _ _ _ _
 |place=>exact⟨rfl,rfl,rfl⟩
 |av=>exact⟨(FI _ _).1,(FI _ _).2.1,(FI _ _).2.2.1⟩
 |decide=>exact Sm.add _ _ _ _ _
 |commit=>exact⟨rfl,rfl,rfl⟩
 |aA=>exact⟨rfl,rfl,rfl⟩
 |got=>exact⟨rfl,rfl,rfl⟩
 |wait=>exact⟨rfl,rfl,rfl⟩
 |aD=>exact⟨rfl,rfl,rfl⟩
 |@aE k m c=>
  cases a:Hs.node {H with net:=takeS H.net k} m.a8 with
  |none=>rw[Je a];exact⟨rfl,rfl,rfl⟩
  |some q=>
   obtain⟨s,j⟩:=q;rw[Jf a];have h:=BK.take ((({H with net:=takeS H.net k} : Hs).au s j (((H.sh s).nd j).step m).1).aO (((H.sh s).nd j).step m).2) s;exact⟨h.n,h.c,h.m⟩
def Ag.sm{H H':Hs}(h:Ag H H'):Sm H H':=by
 induction h with
 |refl=>exact Sm.refl _
 |step h _ a=>exact h.sm.trans a
def qc5{kind:Int}(a:1<=i):∀(ks:List Nat) {H:Hs},i<=H.m->(∀k∈ks,k<2)->((kind=3/\(H.tx i).aa=3)\/(kind=4/\(H.tx i).aa=4))->Ag H (telld H i kind ks)
 |[],H,_,_,_=>Ag.refl H
 |k::ks,H,hi,hk,hs=>by
  have e:=Ee H i kind k;refine Ag.step (By.tell a hi (hk k VB) hs) ?_;exact qc5 a ks (by rw[e.2.2.1];exact hi) (λx c=>hk x (VE _ c)) (by rw[(e.2.2.2.2 i).1];exact hs)
def q8e{kind:Int}(d:1<=i)(c:i<=H.m)(hs:(kind=3/\(H.tx i).aa=3)\/(kind=4/\(H.tx i).aa=4)):Ag H (H.b3 i kind):=
 qc5 d _ c (λ_ a=>Cb a) hs
def qcy(H:Hs)(s j:Nat)(c:Cm)(b:Bool){k:Nat}(a:k≠s):(H.add s j c b).2.sh k=H.sh k:=by unfold Hs.add;split;rfl;exact((BK.take _ s).sh k a).trans (Jb H j _ a)
def RD{H H':Hs}{k:Nat}(a:H'.n=H.n)(hs:H'.sh k=H.sh k):H'.head k=H.head k:=by unfold Hs.head;rw[a,hs]
def AK.congr{H H':Hs}{k:Nat}{kind id:Int}(h:AK H k kind id)(d:H'.n=H.n)(hs:H'.sh k=H.sh k):AK H' k kind id:=by obtain⟨j,p,c,g,f,a⟩:=h;exact⟨j,p,c,by rw[RD d hs];exact g,by unfold lg at *;rw[hs];exact f,a.1,a.2.1,by unfold Hs.ao at *;rw[hs];exact a.2.2⟩
def q4y(d:Nd)(c:Cm)(b:Bool):(d.add c b).1.1.head=d.head/\(d.add c b).1.1.id=d.id:=by
 have a:(d.aP c).1.head=d.head/\(d.aP c).1.id=d.id:=by
  unfold Nd.aP Nd.aD;split;split;exact⟨rfl,rfl⟩;split<;>exact⟨rfl,rfl⟩;exact⟨rfl,rfl⟩
 unfold Nd.add;split;exact⟨rfl,rfl⟩;split;exact⟨rfl,rfl⟩;exact a
def PZ{H H':Hs}{k:Nat}(c:H'.n=H.n)(d:(H'.sh k).aq=(H.sh k).aq)(a:∀j,((H'.sh k).nd j).id=((H.sh k).nd j).id/\((H'.sh k).nd j).head=((H.sh k).nd j).head):H'.head k=H.head k:=by
 unfold Hs.head Bv.d5 Bv.ai;rw[c,d];have e:(λj=>!(H.sh k).aq ((H'.sh k).nd j).id)=(λj=>!(H.sh k).aq ((H.sh k).nd j).id):=funext λj=>by rw[(a j).1]
 have f:(λj=>((H'.sh k).nd j).head)=(λj=>((H.sh k).nd j).head):=funext λj=>(a j).2
 rw[e,f]
def q4m(H:Hs)(s j:Nat)(c:Cm)(b:Bool)(k:Nat):(H.add s j c b).2.head k=H.head k:=by by_cases f:k=s;subst f;unfold Hs.add;split;rfl;have d:=BK.take ((H.au k j (((H.sh k).nd j).add c b).1.1).aO (((H.sh k).nd j).add c b).1.2) k;refine PZ d.n ?_ (λa=>?_);rw[d.aq];show((H.au k j _).sh k).aq=_;rw[EH];rw[d.nd];show(((H.au k j _).sh k).nd a).id=_/\(((H.au k j _).sh k).nd a).head=_;rw[EH];by_cases e:a=j;subst e;simp only[Aq];exact⟨(q4y _ c b).2,(q4y _ c b).1⟩;simp only[Ay e];exact⟨trivial,trivial⟩;exact RD (Dt H s j c b).1 (qcy H s j c b f)
def q3o(d:Nd)(c:Cm):(d.aP c).1.a4=d.a4++[c]:=by unfold Nd.aP Nd.aD;split;split;rfl;split<;>rfl;rfl
def P5(h:(d.add c b).2.2=0):(d.add c b).1=d.aP c/\(d.a4.length:Int)<=(d.add c b).2.1:=by unfold Nd.add at *;by_cases f:(!d.head)=VD;rw[Z8 f]at h;simp at h;rw[Z7 f]at h ⊢;by_cases a:d.a4.length=500;rw[Z8 a]at h;simp at h;rw[Z7 a]at h ⊢;refine⟨by first|rfl|trivial,?_⟩;show _<=(if b=VD then(d.a4.length:Int)+1 else d.a4.length);split<;>omega
def DQ{t t':Bu}(h:t'.af=t.af):t'.ag=t.ag:=by unfold Bu.ag;rw[h]
def SL(h:¬(H.add s j c b).1<0):lg (H.add s j c b).2 s j=lg H s j++[c]/\((lg H s j).length:Int)<=(H.add s j c b).1:=by unfold Hs.add at *;split at h;exact ZB (show(-1:Int)<0 by decide) h;rename_i a;rw[Z7 a];have e:=P5 (d:=(H.sh s).nd j) (c:=c) (b:=b) (Classical.not_not.1 a);refine⟨?_,e.2⟩;have f:=BK.take ((H.au s j (((H.sh s).nd j).add c b).1.1).aO (((H.sh s).nd j).add c b).1.2) s;unfold lg;rw[f.nd];show(((H.au s j _).sh s).nd j).a4=_;rw[EH];simp only[Aq];rw[e.1,q3o]
def G5{k:Nat}(b:Bool)(E:Wf H)(o:1<=i)(n:i<=H.m)(y:k∈(H.tx i).ag)(hs:(H.tx i).aa=2) :
  Ag H (H.aU i k b).1/\((H.aU i k b).2≠B0->(∀a,a≠k->(H.aU i k b).1.sh a=H.sh a)/\((H.aU i k b).1.tx i).af=(H.tx i).af)/\((H.aU i k b).2=Bs VD->AK (H.aU i k b).1 k 2 i):=by
 cases f:H.head k with
 |none=>rw[q64 f];exact⟨Ag.refl H,λ_=>⟨λ_ _=>rfl,rfl⟩,λh=>by simp at h⟩
 |some j=>
  cases g:place ((H.sh k).nd j).a4 2 i with
  |some p=>
   rw[q42 f g];refine⟨Ag.cS (By.place p o n y Z0 hs),λ_=>⟨λ_ _=>rfl,?_⟩,λh=>?_⟩;show(Af H.tx i _ i).af=_;rw[Aq];obtain⟨c,F,u⟩:=q4x g;refine⟨j,p,c,f,F,u.1,u.2,?_⟩;simp only[VN,decide_eq_true_eq]at h;exact h
  |none=>
   by_cases x:DB H i k;by_cases z:(H.tx i).ah=0;rw[q65 f g x z];exact⟨Ag.cS (By.a3 o n (eS ⟨hs,z⟩)),λh=>ZB rfl h,λh=>by simp at h⟩;rw[q86 f g x z];exact⟨Ag.refl H,λ_=>⟨λ_ _=>rfl,rfl⟩,λh=>by simp at h⟩;have l:=x;unfold DB at l;simp only[not_or]at l;obtain⟨I,m,G⟩:=l;have A:(H.tx i).af k=Bs (H.sh k).ad:=by
    have J:=(D5.1 y).2;cases e:(H.tx i).af k with
    |none=>exact ZB e J
    |some v=>rw[e]at m;simp only[Option.getD_some,ne_eq,X6]at m;rw[m]
   have d:=Dt H k j ⟨2,i,0,(H.tx i).of k⟩ b;have q:(H.tx i).ah=0:=Z4 (E.dY i o n);have r:=Ag.cS (By.prep b o n y f (RE.1 g) hs q A Z0);by_cases C:(H.add k j ⟨2,i,0,(H.tx i).of k⟩ b).1<0;rw[q85 f g x C];refine⟨r.trans (Ag.cS (By.a3 o (by rw[d.2.2.1];exact n) (eS ⟨by rw[(d.2.2.2.2 i).1];exact hs,by rw[(d.2.2.2.2 i).2.2.2.2];exact q⟩))),λh=>ZB rfl h,λh=>by simp at h⟩;rw[q87 f g x C];have t:((H.add k j ⟨2,i,0,(H.tx i).of k⟩ b).2.tx i).ag=(H.tx i).ag:=by unfold Bu.ag;rw[(d.2.2.2.2 i).2.2.1]
   refine⟨r.trans (Ag.cS (By.place _ o (by rw[d.2.2.1];exact n) (by rw[t];exact y) Z0 (by rw[(d.2.2.2.2 i).1];exact hs))),λ_=>⟨λa B=>qcy H k j _ b B,?_⟩,λh=>?_⟩;show(((H.add k j ⟨2,i,0,(H.tx i).of k⟩ b).2.ay i _).tx i).af=_;rw[UT];exact(d.2.2.2.2 i).2.2.1;simp only[VN,decide_eq_true_eq]at h;obtain⟨K,M⟩:=SL C;refine⟨j,(lg H k j).length,⟨2,i,0,(H.tx i).of k⟩,(q4m H k j _ b k).trans f,?_,rfl,rfl,?_⟩;show(lg (H.add k j ⟨2,i,0,(H.tx i).of k⟩ b).2 k j)[_]? = _;rw[K];simp;show _<(H.add k j ⟨2,i,0,(H.tx i).of k⟩ b).2.ao k j;omega
def q8u(b:Nat->Bool)(p:1<=i):∀(ks:List Nat) {H:Hs} (c:Bool),Wf H->H.c=3->i<=H.m->(H.tx i).aa=2->(∀k∈ks,k∈(H.tx i).ag)->ks.Nodup->
  Ag H (Hs.aG i b ks H c).1/\((Hs.aG i b ks H c).2≠B0->(∀a,a ∉ ks->(Hs.aG i b ks H c).1.sh a=H.sh a)/\((Hs.aG i b ks H c).1.tx i).af=(H.tx i).af)/\
   ((Hs.aG i b ks H c).2=Bs VD->∀k∈ks,AK (Hs.aG i b ks H c).1 k 2 i)
 |[],H,c,_,_,_,_,_,_=>⟨Ag.refl H,λ_=>⟨λ_ _=>rfl,rfl⟩,λ_ k o=>by cases o⟩
 |k::ks,H,c,wf,hc,hi,hs,hks,hn=>by
  rw[YN]at hn;have o:=hks k VB;obtain⟨u,K,J⟩:=G5 (b k) wf p hi o hs;have q:=q6q H i k (b k);have E:=wf.aU hc p hi (Cb o) (b k);have l:Hs.aG i b (k::ks) H c=(match (H.aU i k (b k)).2 with|none=>((H.aU i k (b k)).1,B0)|some a=>Hs.aG i b ks (H.aU i k (b k)).1 (c && a)):=rfl;rw[l];cases e:(H.aU i k (b k)).2 with
  |none=>exact⟨u,λh=>ZB rfl h,λh=>by simp at h⟩
  |some a=>
   have g:(H.aU i k (b k)).2≠B0:=by rw[e];simp
   obtain⟨I,t⟩:=K g;have m:((H.aU i k (b k)).1.tx i).ag=(H.tx i).ag:=by unfold Bu.ag;rw[t]
   obtain⟨q1,r,B⟩:=q8u b p ks (c && a) E (q.sm.c.trans hc) (by rw[q.sm.m];exact hi) (by rw[q.on g];exact hs) (λx d=>by rw[m];exact hks x (VE _ d)) hn.2;simp only;refine⟨u.trans q1,λf=>?_,λh x d=>?_⟩;obtain⟨A,z⟩:=r f;exact⟨λx d=>(A x (λh=>d (VE _ h))).trans (I x (λe=>d (e▸VB))),z.trans t⟩;obtain rfl|d:=Ye.1 d;have n:a=VD:=by
    cases a with
    |true=>rfl
    |false=>
     exfalso;have F:∀(ks:List Nat)(H:Hs),(Hs.aG i b ks H L1).2≠Bs VD:=by
      intro ks;induction ks with
      |nil=>intro H h;simp[Hs.aG]at h
      |cons y ks C=>
       intro H h;have G:Hs.aG i b (y::ks) H L1=(match (H.aU i y (b y)).2 with|none=>((H.aU i y (b y)).1,B0)|some a=>Hs.aG i b ks (H.aU i y (b y)).1 (L1 && a)):=rfl;rw[G]at h;cases v:(H.aU i y (b y)).2 with
       |none=>rw[v]at h;simp at h
       |some a=>rw[v]at h;exact C _ h
     rw[Bool.and_false]at h;exact F _ _ h
   subst n;exact(J e).congr (q1.sm.n) ((r (by rw[h];simp)).1 x hn.1);exact B h x d
def JG(a:Wf H)(f:1<=i)(c:i<=H.m):((H.av i).tx i).ah≠0:=by have g:=a.dY i f c;have d:=a.bU;unfold Hs.av;split;show(Af H.tx i _ i).ah≠0;rw[Aq];show Xt (H.ah+1)≠0;rw[show Xt (H.ah+1)=H.ah+1 from Xk _ ⟨Z0,Z0⟩];omega;rename_i h;exact h
def qa4(c:1<=i)(a:i<=H.m)(hs:(H.tx i).aa=2)(d:AK H 2 3 i):Ag H (H.commit i):=by refine Ag.step (By.commit c a hs d) ?_;refine q8e (H:=H.aF i 3) c a (eR ⟨rfl,?_⟩);show(Af H.tx i _ i).aa=3;rw[Aq]
def IQ(b:Bool)(r:Wf H)(o:1<=i)(l:i<=H.m)(hs:(H.tx i).aa=2)(t:∀k∈(H.tx i).ag,AK H k 2 i):Ag H (H.bj i b).1:=by
 cases n:H.head 2 with
 |none=>rw[q6s n];exact Ag.refl H
 |some j=>
  cases d:place ((H.sh 2).nd j).a4 3 i with
  |some p=>
   rw[q6r n d];split;exact Ag.refl H;rename_i q;obtain⟨c,A,z,y⟩:=q4x d;exact qa4 o l hs ⟨j,p,c,n,A,z,y,Z0⟩
  |none=>
   rw[q8v n d];have f:=FI H i;have x:=By.av o l hs t;have m:(H.av i).head 2=Bs j:=by rw[RD f.1 (by rw[f.2.2.2.1])];exact n
   have h:¬An (lg (H.av i) 2 j) 3 i:=by unfold lg;rw[f.2.2.2.1];exact RE.1 d
   have a:=Dt (H.av i) 2 j ⟨3,i,((H.av i).tx i).ah,[]⟩ b;have g:((H.av i).tx i).aa=2:=(q2e H i i).trans hs;have e1:Ag H ((H.av i).add 2 j ⟨3,i,((H.av i).tx i).ah,[]⟩ b).2:=Ag.step x (Ag.cS (By.decide b o (by rw[f.2.2.1];exact l) m h g (JG r o l)));split;exact e1;rename_i u;split;exact e1;rename_i q;obtain⟨v,B⟩:=SL u;refine e1.trans (qa4 o (by rw[a.2.2.1,f.2.2.1];exact l) (by rw[(a.2.2.2.2 i).1];exact g) ⟨j,(lg (H.av i) 2 j).length,⟨3,i,((H.av i).tx i).ah,[]⟩,(q4m _ 2 j _ b 2).trans m,by rw[v];simp,rfl,rfl,?_⟩);omega
def Q6(b:Nat->Bool)(n:Wf H)(o:H.c=3)(l:1<=i)(g:i<=H.m)(hs:(H.tx i).aa=2):Ag H (H.ends i b).1:=by
 obtain⟨m,t,r⟩:=q8u b l (H.tx i).ag VD n o g hs (λ_ h=>h) (q2x _);have f:=q4e i b (H.tx i).ag H VD;have p:=Wf.aG (b:=b) l (H.tx i).ag VD n o g (λk q=>Cb q);cases e:(Hs.aG i b (H.tx i).ag H VD).2 with
 |none=>rw[q63 (show _=((Hs.aG i b (H.tx i).ag H VD).1,B0)from by rw[<- e])];exact m
 |some a=>
  cases a with
  |false=>rw[q55 (show _=((Hs.aG i b (H.tx i).ag H VD).1,Bs L1)from by rw[<- e])];exact m
  |true=>
   rw[q54 (show _=((Hs.aG i b (H.tx i).ag H VD).1,Bs VD)from by rw[<- e])];have c:(Hs.aG i b (H.tx i).ag H VD).2≠B0:=by rw[e];simp
   have d:((Hs.aG i b (H.tx i).ag H VD).1.tx i).ag=(H.tx i).ag:=DQ (t c).2;exact m.trans (IQ _ p l (by rw[f.sm.m];exact g) (by rw[f.on c];exact hs) (by rw[d];exact r e))
def Ig(b:Nat->Bool)(d:Wf H)(f:H.c=3)(c:1<=i)(a:i<=H.m):Ag H (H.az i b).1:=by unfold Hs.az;split;rename_i h;exact Q6 b d f c a h;split;rename_i h;exact q8e c a (eR ⟨rfl,h⟩);split;rename_i h;exact q8e c a (eS ⟨rfl,h⟩);exact Ag.refl H
def q8h(bs:Nat->Nat->Bool):∀(k i:Nat)(r:Hs×Bool),Wf r.1->r.1.c=3->1<=i->i+k<=r.1.m+1->Ag r.1 (Hs.round bs k i r).1
 |0,_,r,_,_,_,_=>Ag.refl r.1
 |k+1,i,r,c,a,d,f=>by
  have hs:=Ig (bs i) c a d (show i<=r.1.m by omega);exact hs.trans (q8h bs k (i+1) ((r.1.az i (bs i)).1,(r.1.az i (bs i)).2 || r.2) (c.az a d Z0 _) (hs.sm.c.trans a) Z0 (by show _<=(r.1.az i (bs i)).1.m+1;rw[hs.sm.m];omega))
def q2g{H H':Hs}(h:Ek H H'):Wf H->H.c=3->Ag H H':=by
 induction h with
 |@stop H bs _=>exact λc a=>q8h bs H.m 1 (H,L1) c a (Hi _) (by show _<=H.m+1;omega)
 |@more H H' bs _ _ f=>
  intro c a;have d:=q8h bs H.m 1 (H,L1) c a (Hi _) (by show _<=H.m+1;omega);exact d.trans (f (Wf.round H.m 1 (r:=(H,L1)) c a (Hi _) (by show _<=H.m+1;omega)) (d.sm.c.trans a))
def q9k{k:Sx}{mode:Int}(h:Ap (H.sh (Aa k)).tab i k mode=(H.sh (Aa k)).tab):H.b7 i (Aa k) k mode=H:=by unfold Hs.b7;rw[h];exact q8f H _
def q6c(a:Wf H)(o:Int):Ag H (H.bc o):=by
 unfold Hs.bc;split;rename_i h;have e:((o.toNat:Nat):Int)=o:=by omega
 exact Ag.cS (By.a3 Z0 Z0 (eR h.2.2));exact Ag.refl H
def q58:∀(l:List Int) {H:Hs},Wf H->H.c=3->Ag H (Go.Proofs.YtccahlhdifadfaaGreatDoor.woundd H l)
 |[],H,_,_=>Ag.refl H
 |o::l,H,wf,hc=>by
  have a:=q6c wf o;exact a.trans (q58 l (wf.bc hc o) (a.sm.c.trans hc))
def Kw{k:Sx}{mode:Int}(q:Wf H)(t:H.c=3)(g:1<=i)(f:i<=H.m)(hs:(H.tx i).aa=1)(d:k∈names)(n:Bt mode)(o:H.head (Aa k)≠B0)(p:(H.tx i).af (Aa k)=Bs (H.sh (Aa k)).ad)
  (m:Cp (H.tx i).ak k=L1):Ag H (H.bA i k mode).2:=by
 by_cases a:CF (Ad (H.sh (Aa k)).tab k).ws i=VD;rw[q2z a];show Ag H (H.b7 i (Aa k) k mode);rw[q9k (by unfold Ap;rw[Z8 a])];exact Ag.refl H;have a:CF (Ad (H.sh (Aa k)).tab k).ws i=L1:=Z6 a;by_cases c:Ai (Ad (H.sh (Aa k)).tab k).h i mode (Ad (H.sh (Aa k)).tab k).ws=VD;rw[q3d a c];exact Ag.cS (By.got g f hs d n o p a c);have c:Ai (Ad (H.sh (Aa k)).tab k).h i mode (Ad (H.sh (Aa k)).tab k).ws=L1:=Z6 c;by_cases l:(Ad (H.sh (Aa k)).tab k).ws.length=50;rw[q3e a c l];show Ag H (H.b7 i (Aa k) k mode);rw[q9k (by unfold Ap;rw[a,Z7 Z3,c,Z7 Z3,Z8 l])];exact Ag.refl H;rw[q2k a c l];have h:=By.wait g f hs d n o p m a c;refine Ag.step h ?_;have r:Wf ((H.b7 i (Aa k) k mode).bq i k mode):=(q.b7 g f (s:=Aa k) (Z4 (FJ k)) d).bq g f d m;exact q58 _ r t
def P9{id:Int}{k:Sx}{mode:Int}(o:Wf H)(q:H.c=3)(l:k∈names)(p:Bt mode):Ag H (H.aJ id k mode).2:=by
 by_cases r:id<1\/H.m<id;rw[q1l r];exact Ag.refl H;obtain⟨i,rfl⟩:∃i:Nat,id=i:=⟨id.toNat,Z0⟩
 have d:1<=i:=by omega
 have c:i<=H.m:=by omega
 by_cases hs:(H.tx i).aa=1;by_cases f:H.head (Aa k)=B0;rw[q4z d c hs (Ex l) f];exact Ag.refl H;by_cases a:Rs H i (Aa k);rw[q41 d c hs (Ex l) f a];exact Ag.cS (By.a3 d c (eR hs));have n:(H.tx i).af (Aa k)=B0\/(H.tx i).af (Aa k)=Bs (H.sh (Aa k)).ad:=by
  cases e:(H.tx i).af (Aa k)with
  |none=>exact eR rfl
  |some v=>exact eS (by rw[Classical.byContradiction (λh=>a ⟨v,e,h⟩)])
 have m:=By.aA d c (FJ k) hs f n;by_cases g:Cp (H.tx i).ak k=VD;rw[q3z d c hs (Ex l) f a g];exact Ag.cS m;have g:Cp (H.tx i).ak k=L1:=Z6 g;rw[q78 d c hs (Ex l) f a g];refine Ag.step m (Kw (o.aA d c (FJ k)) q d c ?_ l p f ?_ ?_);show(Af H.tx i _ i).aa=1;rw[Aq];exact hs;show(Af H.tx i _ i).af _=_;rw[Aq];show AS _ _ _ _=_;unfold AS;rw[Z8 rfl];rfl;show Cp (Af H.tx i _ i).ak k=L1;rw[Aq];exact g;rw[q40 d c hs];exact Ag.refl H
def G6(id:Int):Ag H (H.drop id).2:=by unfold Hs.drop;split;exact Ag.refl H;split;exact Ag.refl H;rename_i c a;exact Ag.cS (By.a3 Z0 Z0 (eR (Classical.not_not.1 a)))
def ES(d:Nd):d.aD.1.id=d.id/\d.aD.1.a4=d.a4/\d.aD.1.ad=d.ad/\d.aD.1.aI=d.aI/\d.aD.1.aN=d.aN:=by unfold Nd.aD;split;exact⟨rfl,rfl,rfl,rfl,rfl⟩;split<;>exact⟨rfl,rfl,rfl,rfl,rfl⟩
def FW(s j t a:Nat):Lv (Hs.bf s H j) t a↔Lv H t a:=q6m (H:=H) (ES _).1
def q9z{s:Nat}(hs:s<3):∀(l:List Nat) {H:Hs},(∀j∈l,Lv H s j)->Ag H (tickds s H l)
 |[],H,_=>Ag.refl H
 |j::l,H,hl=>Ag.step (By.aD hs (hl j VB)) (q9z hs l (λa c=>(FW s j s a).2 (hl a (VE _ c))))
def qc2:∀(ss:List Nat) {H:Hs},(∀s∈ss,s<3)->Ag H (tickd H ss)
 |[],H,_=>Ag.refl H
 |s::ss,H,hs=>by
  have d:Ag H (H.bV s):=by rw[FV];exact q9z (hs s VB) _ (λj c=>Fy.1 c)
  exact d.trans (qc2 ss (λx a=>hs x (VE _ a)))
def qa0{H':Hs}(h:EA H H')(d:Wf H)(a:H.c=3):Ag H H':=by have c:Ag H H.b5:=qc2 [0,1,2] Z3;have f:Wf H.b5:=Wf.d9 [0,1,2] d a Z3;exact c.trans (q2g h f (c.sm.c.trans a))
def q66{k:Nat}{H':Hs}(h:Rv H k H')(a:Wf H)(d:H.c=3):Ag H H':=by
 cases h with
 |none _=>exact Ag.refl H
 |@some m c _ r=>
  have f:=By.aE c;exact Ag.step f (q2g r ((a.bb k).aE d (a.net m (N2 c))) (f.sm.c.trans d))
def NB{H H':Hs}(h:Rr n H H'):Wf H->H.c=3->Ag H H':=by
 induction h with
 |zero=>exact λ_ _=>Ag.refl _
 |none _=>exact λ_ _=>Ag.refl _
 |more _ d _ g=>
  intro c a;have f:=q66 d c a;exact f.trans (g (d.wf c a).1 (f.sm.c.trans a))
def Drain.wf{n:Nat}{H H':Hs}(h:Rr n H H'):Wf H->H.c=3->Wf H':=by
 induction h with
 |zero=>exact λh _=>h
 |none _=>exact λh _=>h
 |more _ d _ f=>exact λc a=>f (d.wf c a).1 ((d.wf c a).2.c.trans a)
def q89{H H':Hs}(h:Cy n H H'):Wf H->H.c=3->Ag H H':=by
 induction h with
 |zero=>exact λ_ _=>Ag.refl _
 |more t d _ m=>
  intro f a;have c:=qa0 t f a;have g:=(t.wf f a).1;have l:=NB d g (c.sm.c.trans a);exact(c.trans l).trans (m (Drain.wf d g (c.sm.c.trans a)) ((c.trans l).sm.c.trans a))
def Sn(H:Hs)(id:Int):Int:=(H.tx id.toNat).aa
def UP(H:Hs)(id:Int):Int:=(H.tx id.toNat).ah
def LogK(H:Hs)(l:List Cm):Prop:=∀(p:Nat)(c:Cm),l[p]? = Bs c->(1<=c.tx/\c.tx<=H.m)/\
 (c.aj=2\/(c.aj=3/\Sn H c.tx=3/\c.ah=UP H c.tx/\1<=c.ah/\An (l.take p) 2 c.tx)\/(c.aj=4/\Sn H c.tx=4))
def Log2(H:Hs)(l:List Cm):Prop:=∀c∈l,(1<=c.tx/\c.tx<=H.m)/\c.aj=3/\c.ah=UP H c.tx/\1<=c.ah
structure Di(H:Hs):Prop where
 pl:∀k,k<2->∀j,Lv H k j->LogK H (lg H k j)
 p2:∀j,Lv H 2 j->Log2 H (lg H 2 j)
 ct:∀i,1<=i->i<=H.m->(H.tx i).aa=3->1<=(H.tx i).ah
structure BC(H H':Hs):Prop where
 m:H.m<=H'.m
 s3:∀i,1<=i->i<=H.m->(H.tx i).aa=3->(H'.tx i).aa=3
 s4:∀i,1<=i->i<=H.m->(H.tx i).aa=4->(H'.tx i).aa=4
 tm:∀i,1<=i->i<=H.m->1<=(H.tx i).ah->(H'.tx i).ah=(H.tx i).ah
def BC.refl(H:Hs):BC H H:=⟨Hi _,λ_ _ _ h=>h,λ_ _ _ h=>h,λ_ _ _ _=>rfl⟩
def BC.trans{A B C:Hs}(h:BC A B)(k:BC B C):BC A C:=
 ⟨VK h.m k.m,λi c a e=>k.s3 i c (VK a h.m) (h.s3 i c a e),λi c a e=>k.s4 i c (VK a h.m) (h.s4 i c a e),
  λi c a e=>(k.tm i c (VK a h.m) (by rw[h.tm i c a e];exact e)).trans (h.tm i c a e)⟩
def BC.of{H H':Hs}(a:H'.m=H.m)(h:∀i,(H'.tx i).aa=(H.tx i).aa/\(H'.tx i).ah=(H.tx i).ah):BC H H':=
 ⟨Z0,λi _ _ e=>(h i).1.trans e,λi _ _ e=>(h i).1.trans e,λi _ _ _=>(h i).2⟩
def An.mono{kind id:Int}(h:An l kind id)(hl:∀c∈l,c∈l'):An l' kind id:=by obtain⟨c,a,d⟩:=h;exact⟨c,hl c a,d⟩
def LogK.mono{H H':Hs}(t:BC H H')(h:LogK H l)(n:l' <+: l):LogK H' l':=λp c o=>by
 have f:=getElem?_prefix n o;obtain⟨⟨v,y⟩,u⟩:=h p c f;have d:c.tx.toNat<=H.m:=by omega
 have a:1<=c.tx.toNat:=by omega
 refine⟨⟨v,Z4 t.m⟩,u.imp id (Or.imp (λ⟨m,g,a3,x,a5⟩=>⟨m,t.s3 _ a d g,?_,x,?_⟩) (λ⟨m,g⟩=>⟨m,t.s4 _ a d g⟩))⟩;rw[a3];exact(t.tm _ a d (by show 1<=UP H c.tx;omega)).symm;obtain⟨r,rfl⟩:=n;have q:=(ZC.1 o).1;rw[Wv Z0]at a5;exact a5
def Log2.mono{H H':Hs}(t:BC H H')(h:Log2 H l)(d:l' <+: l):Log2 H' l':=λc g=>by
 obtain⟨⟨p,q⟩,o,n,m⟩:=h c (d.subset g);have f:c.tx.toNat<=H.m:=by omega
 have a:1<=c.tx.toNat:=by omega
 exact⟨⟨p,Z4 t.m⟩,o,by rw[n];exact(t.tm _ a f (by show 1<=UP H c.tx;omega)).symm,m⟩
def BU(H H':Hs):Prop:=∀k j,k<3->Lv H' k j->∃i,Lv H k i/\lg H' k j <+: lg H k i
def AU(H H':Hs):Prop:=∀i,1<=i->i<=H'.m->(H'.tx i).aa=3->i<=H.m/\(H.tx i).aa=3
def AU.of{H H':Hs}(a:H'.m=H.m)(h:∀i,(H'.tx i).aa=(H.tx i).aa):AU H H':=λi _ c e=>⟨Z0,(h i).symm.trans e⟩
def Di.sub'{H H':Hs}(h:Di H)(t:BC H H')(s:BU H H')(f:∀i,1<=i->i<=H'.m->(H'.tx i).aa=3->1<=(H'.tx i).ah):Di H':=
 ⟨λk g j c=>by obtain⟨i,d,a⟩:=s k j Z0 c;exact(h.pl k g i d).mono t a,
  λj c=>by obtain⟨i,d,a⟩:=s 2 j Z0 c;exact(h.p2 i d).mono t a,f⟩
def Di.sub{H H':Hs}(h:Di H)(t:BC H H')(n:AU H H')(s:BU H H'):Di H':=
 h.sub' t s (λi c d e=>by obtain⟨a,b⟩:=n i c d e;have:=h.ct i c a b;rw[t.tm i c a this];exact this)
def BU.same{H H':Hs}(h:AP H H'):BU H H':=λk j _ a=>⟨j,h.lv.1 a,by rw[h.lg];exact VO _⟩
section
variable {H:Hs}{i:Nat}
def NV(h:(((H.sh s).nd j).add c b).2.2≠0):(H.add s j c b).2=H:=by unfold Hs.add;rw[Z8 h]
def IY(H:Hs)(s j:Nat)(c:Cm)(b:Bool):((H.add s j c b).2=H\/∀a i,lg (H.add s j c b).2 a i=if a=s/\i=j then lg H s j++[c]else lg H a i)/\∀a i,Lv (H.add s j c b).2 a i↔Lv H a i:=by
 by_cases d:(((H.sh s).nd j).add c b).2.2=0;have e:=(P5 d).1;have hs:=AP.take ((H.au s j (((H.sh s).nd j).add c b).1.1).aO (((H.sh s).nd j).add c b).1.2) s;have f:(H.add s j c b).2=((H.au s j (((H.sh s).nd j).add c b).1.1).aO (((H.sh s).nd j).add c b).1.2).take s:=by unfold Hs.add;rw[Z7 (by simp[d])]
 rw[f];refine⟨eS λa i=>?_,λa i=>?_⟩;rw[hs.lg];show lg (H.au s j _) a i=_;rw[q5i,e,q3o];rfl;rw[hs.lv];exact q6m (H:=H) (s:=s) (j:=j) (q4y _ c b).2;rw[NV d];exact⟨eR rfl,λ_ _=>Yw⟩
def IV(H:Hs)(s j:Nat)(c:Cm)(b:Bool):BC H (H.add s j c b).2:=by have h:=Dt H s j c b;exact BC.of h.2.2.1 (λi=>⟨(h.2.2.2.2 i).1,(h.2.2.2.2 i).2.2.2.2⟩)
def q8y{p:Nat}(h:p<=l.length):(l++[c]).take p=l.take p:=Wv h
def Di.add(h:Di H){s j:Nat}{c:Cm}(b:Bool)(hl:Lv H s j)(u:1<=c.tx/\c.tx<=H.m)
  (y:s<2->c.aj=2\/(c.aj=3/\Sn H c.tx=3/\c.ah=UP H c.tx/\1<=c.ah/\An (lg H s j) 2 c.tx)\/(c.aj=4/\Sn H c.tx=4))
  (q:s=2->c.aj=3/\c.ah=UP H c.tx/\1<=c.ah):Di (H.add s j c b).2:=by
 obtain⟨l,v⟩:=IY H s j c b;obtain l|l:=l;rw[l];exact h;have t:=IV H s j c b;have hs:=Dt H s j c b;have n:∀id,Sn (H.add s j c b).2 id=Sn H id:=λid=>(hs.2.2.2.2 _).1
 have m:∀id,UP (H.add s j c b).2 id=UP H id:=λid=>(hs.2.2.2.2 _).2.2.2.2
 refine⟨λk g a r=>?_,λa r=>?_,λa A z e=>by rw[(hs.2.2.2.2 a).2.2.2.2];exact h.ct a A (by rw[<- hs.2.2.1];exact z) ((hs.2.2.2.2 a).1.symm.trans e)⟩
 ·rw[l];split
  ·rename_i e;obtain⟨rfl,rfl⟩:=e;intro p d f;by_cases x:p<(lg H k a).length
   ·rw[VZ x]at f;have:=(h.pl k g a hl).mono t (VO _) p d f;rw[q8y Z0];exact this
   rw[Wg Z0]at f;have o:p-(lg H k a).length=0:=by
    have:=(ZC.1 f).1;simp at this;omega
   rw[o]at f;simp only[Ft,VN]at f;subst f;rw[q8y Z0,n,m,hs.2.2.1];have B:(lg H k a).take p=lg H k a:=VS Z0;rw[B];exact⟨u,y g⟩
  exact(h.pl k g a ((v k a).1 r)).mono t (VO _)
 rw[l];split
 ·rename_i e;obtain⟨rfl,rfl⟩:=e;intro d f;obtain f|f:=ZD.1 f
  ·exact(h.p2 a hl).mono t (VO _) d f
  rw[VU]at f;subst f;rw[m,hs.2.2.1];exact⟨u,q rfl⟩
 exact(h.p2 a ((v 2 a).1 r)).mono t (VO _)
def Di.aC(h:Di H){k:Nat}{kind:Int}(l:1<=i)(g:i<=H.m)(f:k<2)(hs:(kind=3/\(H.tx i).aa=3/\1<=(H.tx i).ah)\/(kind=4/\(H.tx i).aa=4)):Di (H.aC i kind k):=by
 cases a:H.head k with
 |none=>rw[J6 a];exact h
 |some j=>
  rw[Jd a];split;rename_i d;refine h.add L1 (CS a).1 (by show 1<=(i:Int)/\(i:Int)<=H.m;omega) (λ_=>?_) (λe=>Z0);obtain⟨rfl,hs,c⟩|⟨rfl,hs⟩:=hs;refine eS (eR ⟨rfl,hs,?_,?_,?_⟩);show(if (3:Int)=3 then(H.tx i).ah else 0)=_;rw[Z8 rfl];rfl;show 1<=(if (3:Int)=3 then(H.tx i).ah else 0);rw[Z8 rfl];exact c;have:=d.2;rw[ne_eq,RE,X6]at this;exact this;exact eS (eS ⟨rfl,hs⟩);exact h
def Di.br{kind:Int}(a:1<=i):∀(ks:List Nat) {H:Hs},Di H->i<=H.m->(∀k∈ks,k<2)->((kind=3/\(H.tx i).aa=3/\1<=(H.tx i).ah)\/(kind=4/\(H.tx i).aa=4))->Di (Go.Proofs.YtccahlhdifadfaaGreatDoor.telld H i kind ks)
 |[],_,h,_,_,_=>h
 |k::ks,H,h,hi,hk,hs=>by
  have e:=Ee H i kind k;exact Di.br a ks (h.aC a hi (hk k VB) hs) (by rw[e.2.2.1];exact hi) (λx c=>hk x (VE _ c)) (by rw[(e.2.2.2.2 i).1,(e.2.2.2.2 i).2.2.2.2];exact hs)
def LV(i:Nat):∀(ks:List Nat)(H:Hs),AP H (reld H i ks)
 |[],H=>AP.refl H
 |k::ks,H=>(AP.bF H k i).trans (LV i ks (H.bF k i))
def Di.a3(h:Di H)(p:1<=i)(n:i<=H.m)(hs:(H.tx i).aa=1\/((H.tx i).aa=2/\(H.tx i).ah=0)):Di (H.a3 i):=by
 rw[I9];have t1:BC H (H.an i):=by
  refine⟨Hi _,λa _ _ e=>?_,λa _ _ e=>?_,λa _ _ e=>?_⟩;show(Af H.tx i _ a).aa=_;by_cases c:a=i;subst c;rw[e]at hs;obtain h|⟨h,_⟩:=hs<;> cases h;rw[Ay c];exact e;show(Af H.tx i _ a).aa=_;by_cases c:a=i;subst c;rw[Aq];rw[Ay c];exact e;show(Af H.tx i _ a).ah=_;by_cases c:a=i;subst c;rw[Aq];rw[Ay c]
 have c:=Gv i (H.tx i).ag (H.an i);have l:BC (H.an i) (reld (H.an i) i (H.tx i).ag):=BC.of c.2.2.1 (λa=>⟨(c.2.2.2.2 a).1,(c.2.2.2.2 a).2.2.2.2⟩);have d:AU H (reld (H.an i) i (H.tx i).ag):=λa q f e=>by
  rw[(c.2.2.2.2 a).1]at e;have e:(Af H.tx i _ a).aa=3:=e;refine⟨by rw[c.2.2.1]at f;exact f,?_⟩;by_cases g:a=i;subst g;rw[Aq]at e;cases e;rw[Ay g]at e;exact e
 have o:=h.sub (t1.trans l) d (BU.same ((AP.ay H i _).trans (LV i _ _)));refine Di.br p _ o (by rw[c.2.2.1];exact n) (λk m=>Cb m) (eS ⟨rfl,?_⟩);rw[(c.2.2.2.2 i).1];show(Af H.tx i _ i).aa=4;rw[Aq]
def qdb(h:B6 H)(hs:s<H.c)(hl:Lv H s j)(g:m∈H.net.l):∃q,Lv H s q/\(((H.sh s).nd j).step m).1.a4 <+: lg H s q:=by
 have c:∀d:Nd,d.a4=((H.sh s).nd j).a4->∃q,Lv H s q/\d.a4 <+: lg H s q:=λd e=>⟨j,hl,by rw[e];exact VO _⟩
 obtain⟨L,p,a⟩:=h.aN hs hl;have t:=qdr h hs hl g;unfold Nd.step at t ⊢;split;exact c _ rfl;rename_i r;rw[Z7 r]at t;simp only at t ⊢;split;exact c _ rfl;rename_i v;rw[Z7 v]at t;split;exact c _ rfl;rename_i u;rw[Z7 u]at t;split;rename_i l;rw[Z8 l]at t;have e:=l.2.1;simp only[Wl,decide_eq_true_eq,beq_iff_eq]at e;obtain⟨e1,x⟩:=e;rw[a.aN]at e1;have o:p-1<L.length:=Z4 ((ZC.1 a.ix).1);obtain⟨q,f⟩:∃q,L[p-1]? = Bs q:=⟨_,K0 o⟩
 obtain⟨n,_⟩:=h.cI g hs (a.bX.lt q (N2 f)) (x.trans (a.a8 Z0 f));exact⟨q,n,t.lo q ((Oo a.bX.aH f a.ix).1 Z0) n⟩;split;exact c _ rfl;exact c _ rfl
def NP(h:B6 H)(n:H.c=3){k:Nat}(l:H.net.l[k]? = Bs m):BU H (({H with net:=takeS H.net k} : Hs).aE m):=by
 intro a q o d;cases g:Hs.node {H with net:=takeS H.net k} m.a8 with
 |none=>rw[Je g]at d ⊢;exact⟨q,d,VO _⟩
 |some r=>
  obtain⟨s,j⟩:=r;obtain⟨hs,hl,_⟩:=q4c (H:={H with net:=takeS H.net k}) n g;rw[Jf g]at d ⊢;have c:=AP.take ((({H with net:=takeS H.net k} : Hs).au s j (((H.sh s).nd j).step m).1).aO (((H.sh s).nd j).step m).2) s;have t:=qdr h (s:=s) (j:=j) hs hl (N2 l);have f:Lv H a q:=(q6m (H:={H with net:=takeS H.net k}) t.id).1 (c.lv.1 d);rw[c.lg];show ∃i,Lv H a i/\lg (({H with net:=takeS H.net k} : Hs).au s j (((H.sh s).nd j).step m).1) a q <+: lg H a i;rw[q5i];split;rename_i e;obtain⟨rfl,rfl⟩:=e;exact qdb h (s:=a) (j:=q) (by rw[n];exact o) hl (N2 l);exact⟨q,f,VO _⟩
def Sd: BU H (Hs.bf s H j):=λa q _ c=>by
 refine⟨q,(FW s j a q).1 c,?_⟩;show lg (H.au s j _) a q <+: _;rw[q5i];split;rename_i e;obtain⟨rfl,rfl⟩:=e;rw[(ES _).2.1];exact VO _;exact VO _
def q6z:(∀a,((H.av i).tx a).aa=(H.tx a).aa/\((H.tx a).ah≠0->((H.av i).tx a).ah=(H.tx a).ah))/\(H.av i).m=H.m:=by refine⟨λa=>⟨q2e H i a,λc=>?_⟩,(FI H i).2.2.1⟩;unfold Hs.av;split;rename_i h;show(Af H.tx i _ a).ah=_;by_cases e:a=i;subst e;exact ZB h c;rw[Ay e];rfl
def Di.step{H':Hs}(s:By H H')(U:B6 H)(C:Wf H)(R:H.c=3)(h:Di H):Di H'/\BC H H':=by
 cases s with
 |@a3 i g f hs=>
  refine⟨h.a3 g f hs,?_⟩;obtain⟨q,_,y⟩:=Ik H i;refine⟨by rw[q.m];exact Hi _,λa _ _ e=>?_,λa _ _ e=>?_,λa _ _ _=>(y a).2.2.2.2⟩;rw[(y a).1];split;rename_i l;subst l;rw[e]at hs;obtain h|⟨h,_⟩:=hs<;> cases h;exact e;rw[(y a).1];split;rfl;exact e
 |@tell i k kind g f n hs=>
  have e:=Ee H i kind k;refine⟨?_,BC.of e.2.2.1 (λa=>⟨(e.2.2.2.2 a).1,(e.2.2.2.2 a).2.2.2.2⟩)⟩;exact h.aC g f n (hs.imp (λ⟨a,b⟩=>⟨a,b,h.ct i g f b⟩) id)
 |@prep i k j b g f n o u hs M v N=>
  exact⟨h.add b (CS o).1 (by show 1<=(i:Int)/\(i:Int)<=H.m;omega) (λ_=>eR rfl) (λe=>Z4 (Cb n)),IV H k j _ b⟩
 |@place i k a g f n Y hs=>
  have t:BC H (H.aS i k a):=BC.of rfl (λx=>⟨q29 H i k a x,by
   show(Af H.tx i _ x).ah=_;by_cases e:x=i;subst e;rw[Aq];rw[Ay e]⟩)
  exact⟨h.sub t (AU.of rfl (q29 H i k a)) (BU.same (AP.ay H i _)),t⟩
 |@av i g f hs u=>
  obtain⟨q,B⟩:=q6z (H:=H) (i:=i);have d:=FI H i;have t:BC H (H.av i):=⟨by rw[B];exact Hi _,λa _ _ e=>(q a).1.trans e,λa _ _ e=>(q a).1.trans e,λa _ _ e=>(q a).2 Z0⟩
  exact⟨h.sub t (AU.of B (λa=>(q a).1)) (BU.same ⟨d.1,d.2.1,d.2.2.2.2,λs=>by rw[d.2.2.2.1],λs=>by rw[d.2.2.2.1],λs=>by rw[d.2.2.2.1]⟩),t⟩
 |@decide i j b g f o u hs M=>
  refine⟨h.add b (CS o).1 (by show 1<=(i:Int)/\(i:Int)<=H.m;omega) (λe=>Z0) (λ_=>⟨rfl,rfl,?_⟩),IV H 2 j _ b⟩;have:=C.dY i g f;show 1<=(H.tx i).ah;omega
 |@commit i g f hs u=>
  have t:BC H (H.aF i 3):=by
   refine⟨Hi _,λa _ _ e=>?_,λa _ _ e=>?_,λa _ _ _=>?_⟩;show(Af H.tx i _ a).aa=_;by_cases l:a=i;subst l;rw[Aq];rw[Ay l];exact e;show(Af H.tx i _ a).aa=_;by_cases l:a=i;subst l;rw[e]at hs;cases hs;rw[Ay l];exact e;show(Af H.tx i _ a).ah=_;by_cases l:a=i;subst l;rw[Aq];rw[Ay l]
  refine⟨h.sub' t (BU.same (AP.ay H i _)) (λa T S e=>?_),t⟩;show 1<=(Af H.tx i _ a).ah;have e:(Af H.tx i _ a).aa=3:=e;by_cases l:a=i;subst l;rw[Aq];obtain⟨j,p,c,q1,G,X,F,_⟩:=u;have z:=h.p2 j (CS q1).1 c (N2 G);have E:=z.2.2.1;have W:=z.2.2.2;rw[F]at E;have V:UP H (a:Int)=(H.tx a).ah:=rfl;show 1<=(H.tx a).ah;omega;rw[Ay l]at e ⊢;exact h.ct a T S e
 |@aA i k g f n hs o v=>
  have t:BC H (H.aA i k):=BC.of rfl (λx=>by
   show(Af H.tx i _ x).aa=_/\(Af H.tx i _ x).ah=_;by_cases e:x=i;subst e;rw[Aq];exact⟨rfl,rfl⟩;rw[Ay e];exact⟨rfl,rfl⟩)
  exact⟨h.sub t (AU.of rfl (λx=>by
   show(Af H.tx i _ x).aa=_;by_cases e:x=i;subst e;rw[Aq];rw[Ay e])) (BU.same (AP.ay H i _)),t⟩
 |@got i x mode g f hs I O o v K Q=>
  have t:BC H (H.b7 i (Aa x) x mode):=BC.of rfl (λ_=>⟨rfl,rfl⟩);exact⟨h.sub t (AU.of rfl (λ_=>rfl)) (BU.same (AP.ax rfl rfl rfl)),t⟩
 |@wait i x mode g f hs I O o v J K Q=>
  have t:BC H ((H.b7 i (Aa x) x mode).bq i x mode):=BC.of rfl (λa=>by
   show(Af H.tx i _ a).aa=_/\(Af H.tx i _ a).ah=_;by_cases e:a=i;subst e;rw[Aq];exact⟨rfl,rfl⟩;rw[Ay e];exact⟨rfl,rfl⟩)
  exact⟨h.sub t (AU.of rfl (λa=>by
   show(Af H.tx i _ a).aa=_;by_cases e:a=i;subst e;rw[Aq];rfl;rw[Ay e])) (BU.same ((AP.ax (x:={H.sh (Aa x)with tab:=Ap (H.sh (Aa x)).tab i x mode}) rfl rfl rfl).trans (AP.ay _ i _))),t⟩
 |@aD s j hs hl=>
  have t:BC H (Hs.bf s H j):=BC.of rfl (λ_=>⟨rfl,rfl⟩);exact⟨h.sub t (AU.of rfl (λ_=>rfl)) Sd,t⟩
 |@aE k m n=>
  have t:BC H (({H with net:=takeS H.net k} : Hs).aE m)/\AU H (({H with net:=takeS H.net k} : Hs).aE m):=by
   cases A:Hs.node {H with net:=takeS H.net k} m.a8 with
   |none=>rw[Je A];exact⟨BC.of rfl (λ_=>⟨rfl,rfl⟩),AU.of rfl (λ_=>rfl)⟩
   |some r=>
    obtain⟨s,j⟩:=r;rw[Jf A];have e:=BK.take ((({H with net:=takeS H.net k} : Hs).au s j (((H.sh s).nd j).step m).1).aO (((H.sh s).nd j).step m).2) s;exact⟨BC.of e.m (λa=>⟨(e.tx a).1,(e.tx a).2.2.2.2⟩),AU.of e.m (λa=>(e.tx a).1)⟩
  exact⟨h.sub t.1 t.2 (NP U R n),t.1⟩
end
def Wf.dw(h:Wf H){x:Bv}(m:x.nd=(H.sh s).nd)(l:x.aq=(H.sh s).aq)(f:Dy x.tab)(g:Dz x.sto):Wf (H.ax s x):=by
 have e:∀k,((H.ax s x).sh k).nd=(H.sh k).nd/\((H.ax s x).sh k).aq=(H.sh k).aq/\((((H.ax s x).sh k).tab=x.tab/\((H.ax s x).sh k).sto=x.sto)\/(((H.ax s x).sh k).tab=(H.sh k).tab/\((H.ax s x).sh k).sto=(H.sh k).sto)):=λk=>by
  by_cases c:k=s;subst c;rw[show(H.ax k x).sh k=x from Aq _ _ _];exact⟨m,l,eR ⟨rfl,rfl⟩⟩;rw[show(H.ax s x).sh k=H.sh k from Ay c _];exact⟨rfl,rfl,eS ⟨rfl,rfl⟩⟩
 refine Wf.of (H':=H.ax s x) h rfl rfl rfl rfl (λk j a d=>by rw[(e k).1];exact h.nd k j a d) (λk a=>?_) (λk a=>?_) (λk _=>(e k).2.1) h.net rfl h.tx (λ_=>rfl);obtain⟨e2,_⟩|⟨e2,_⟩:=(e k).2.2;rw[e2];exact f;rw[e2];exact h.tab k a;obtain⟨_,e2⟩|⟨_,e2⟩:=(e k).2.2;rw[e2];exact g;rw[e2];exact h.sto k a
def Wf.aM(h:Wf H){s j:Nat}{ids:List Int}(hs:s<H.c)(c:j<H.n)(a:∀x∈ids,0<=x/\x<=60):Wf (Hs.aM s ids H j):=by have f:=h.c3;have d:=h.n4;have w:=q9v (Oc (h.nd s j hs c) (H.sh s).ad a) Z0 Z0;exact Wf.aO (h.au w.1) w.2
def q7z(s:Nat)(ids:List Int):∀(l:List Nat)(H:Hs),(l.foldl (Hs.aM s ids) H).n=H.n/\(l.foldl (Hs.aM s ids) H).c=H.c/\(l.foldl (Hs.aM s ids) H).m=H.m
 |[],_=>⟨rfl,rfl,rfl⟩
 |j::l,H=>by
  obtain⟨d,c,a⟩:=q7z s ids l (Hs.aM s ids H j);exact⟨d,c,a⟩
def Wf.cV{s:Nat}{ids:List Int}(c:∀x∈ids,0<=x/\x<=60):∀(l:List Nat) {H:Hs},Wf H->s<H.c->(∀j∈l,j<H.n)->Wf (l.foldl (Hs.aM s ids) H)
 |[],_,h,_,_=>h
 |j::l,_,h,hs,hl=>Wf.cV c l (h.aM hs (hl j VB) c) hs (λa d=>hl a (VE _ d))
def Wf.bL(h:Wf H){s:Nat}(hs:s<H.c):∀x∈(H.sh s).bL H.n,0<=x/\x<=60:=by
 intro x c;unfold Bv.bL at c;obtain⟨j,a,rfl⟩:=ZE.1 c;have a:j<H.n:=by unfold Bv.ai at a;exact ZH.1 (YO.1 a).1
 have f:=h.c3;have d:=h.n4;exact(h.nd s j hs a).ed Z0 Z0
def Wf.bN(h:Wf H){s:Nat}(hs:s<H.c):Wf (H.bN s):=by
 unfold Hs.bN;simp only;have a:=h.bL hs;have l:Wf (H.ax s {H.sh s with ad:=Xt ((H.sh s).ad+1),size:=((H.sh s).ai H.n).length}):=h.dw rfl rfl (h.tab s hs) (h.sto s hs);have g:=Wf.cV a ((H.sh s).ai H.n) l hs (λj f=>by unfold Bv.ai at f;exact ZH.1 (YO.1 f).1);have c:=q7z s ((H.sh s).bL H.n) ((H.sh s).ai H.n) (H.ax s {H.sh s with ad:=Xt ((H.sh s).ad+1),size:=((H.sh s).ai H.n).length});generalize List.foldl (Hs.aM s ((H.sh s).bL H.n)) (H.ax s {H.sh s with ad:=Xt ((H.sh s).ad+1),size:=((H.sh s).ai H.n).length}) ((H.sh s).ai H.n)=H2 at *;have d:s<H2.c:=by rw[c.2.1];exact hs
 exact(g.dw (x:={H2.sh s with tab:=λ_=>B0,sto:=λ_=>[],done:=0}) rfl rfl Dy.bo Dz.bo).take d
def Wf.fix(h:Wf H){s:Nat}(hs:s<H.c):Wf (H.fix s):=by unfold Hs.fix;split;exact h;exact h.bN hs
def PK(H:Hs)(i:Nat):Sz H (H.aQ i):=by unfold Hs.aQ;split;exact(Ik H i).1.sz;exact Sz.refl H
def Wf.aQ(h:Wf H)(c:H.c=3){i:Nat}(d:1<=i)(a:i<=H.m):Wf (H.aQ i):=by unfold Hs.aQ;split;exact h.a3 c d a;exact h
end
end Go.Proofs.YtccahlhdifadfaaGreatDoor
