import Derived.Test.YtccahlhdifadfaaGreatDoorPk03
import Derived.Test.YtccahlhdifadfaaGreatDoorRows
import Derived.WalkKit
import Derived.WalkSpells
import Derived.WalkLawsBesides
import Derived.IntWalk
import Derived.Below
namespace Go.Proofs.YtccahlhdifadfaaGreatDoor
open Go.RowKit
open _root_.Bool renaming false → Jx, true → VJ, and_eq_true → Wj
open _root_.Classical renaming byContradiction → V5
open _root_.Go renaming World → D0, Value → O0, Calls → VY, maxLen → Wo, wp_cond_true → Xj, undef → Yq
open _root_.Go.Act renaming put → Xl
open _root_.Go.Code renaming wp → Yh
open _root_.Go.IntWalk renaming i64_in → V4, wrap64_in → Xf
open _root_.Go.RowKit renaming Below → VP, wrap64 → Xn
open _root_.Go.RowKit.Below renaming refl → VK
open _root_.Go.Value renaming oneCell' → WB, slice → WM
open _root_.Go.World renaming ownsRow_nil → VZ, cell?_alloc_lt → WX
open _root_.Iff renaming rfl → Yl
open _root_.Int renaming le_refl → WD
open _root_.List renaming getElem?_cons_zero → Ft, getElem?_toArray → Hi, getElem?_eq_getElem → L1, getElem?_cons_succ → N2, mem_of_getElem? → S2, mem_cons_self → VH, mem_cons_of_mem → VI, flatMap_cons → VM, prefix_refl → VQ, length_append → VS, mem_append_left → VT, mem_singleton → VW, take_add_one → VX, getElem?_map → V8, length_map → We, getElem?_append_left → Wg, range' → Wh, length_cons → Wl, take_append_of_le_length → Wq, getElem_mem → Wv, mem_of_mem_take → Wy, append_nil → WE, flatMap_append → WG, map_cons → WH, range → WS, pairwise_map → W8, map_append → Xd, any_eq_false → Xp, getElem?_mapIdx → Xr, nil_append → Xt, set_cons_succ → XH, map_nil → XN, length_set → XS, length_nil → XT, cons_append → XY, map_congr_left → X9, nodup_append → Yj, Nodup → Yw, nodup_cons → Yz, getElem?_concat_length → YD, ext_getElem? → YE, append_inj' → YL, take_left' → YX, mem_filter → YY, getElem?_set → Y9
open _root_.List.Nodup renaming length_le_of_subset → WI
open _root_.List.Pairwise renaming nil → Yk
open _root_.Nat renaming le_refl → K0, lt_of_lt_of_le → VL, zero_le → VN, le_trans → VO, le_succ → WT, le_of_lt → Yi
open _root_.Option renaming some → Bs, none → B0, map_some → WK, getD → Xg
open _root_.Option.some renaming injEq → VR
variable {a0:Act} {c:Cm} {Q:Exit->Act->D0->Prop} {Bd Z m tx:Int} {v:Int×Int} {h:Int->Option Int} {K:Kp} {d e f:List (Int×Int)} {l':List Cm} {A E:List Nat} {a i j k q s:Nat} {p:Pr} {x y:Sx} {z:Sx->Int->Prop} {S u:Sx->Vx->Prop} {T':Tb} {V V' s1 s3 s5:O0} {W w w':D0}
set_option linter.all false
set_option maxRecDepth 100000
set_option maxHeartbeats 16000000
def nwV (V:O0) (bd:Nat):Nt:=⟨V,bd,B0,fun _=>⟨0,0,.nilIface⟩,B0,fun _=>.nilIface⟩
structure Ee (w:D0) (B q bd gs i:Nat) (V:O0) (gn:Nat->Nat):Prop where
 lo:B<=bd/\bd<gs
 ak:Ae w gs 105 (FG (nwV V bd) (Dx q))
 map:Ab BC w bd 100 (SS fun _=>Jx)
 row:w.ownsRow (gs+1) 108 1 V i ((WS i).map fun j=>pw (gn j))
 nd:∀ j,j<i->BI w 0 (gn j) (.slice B0 0 0) (.slice B0 0 0) [] (nd0 (10*q+j))/\gs<gn j
 inc:∀ j k,j<k->k<i->gn j<gn k
open Classical in
noncomputable def BH (own:Ah) (B q bd gs n:Nat) (V:O0) (gn:Nat->Nat):Ah:=fun b=>
 if b<B then own b else if b=bd then Bs (.dd q) else if b=gs then Bs (.sb q) else if V.ownBlock=Bs b then Bs (.ndr q)
 else if h:∃ j,j<n/\b=gn j then Bs (.nd q h.choose) else B0
section
variable {w w' w4 w5:D0} {own own':Ah} {P:Aq} {H:Hs} {B q bd gs i n:Nat} {V:O0} {gn:Nat->Nat}
def Ee.inj (h:Ee w B q bd gs i V gn) (f:j<i) (d:k<i) (e:gn j=gn k):j=k:=by
 rcases Nat.lt_trichotomy j k with a|a|a
 ·have:=h.inc j k a d;omega
 ·exact a
 ·have:=h.inc k j a f;omega
def Ee.own_bd (h:Ee w B q bd gs n V gn):BH own B q bd gs n V gn bd=Bs (.dd q):=by unfold BH;rw[if_neg (by have:=h.lo;omega),if_pos rfl]
def Ee.own_gs (h:Ee w B q bd gs n V gn):BH own B q bd gs n V gn gs=Bs (.sb q):=by unfold BH;rw[if_neg (by have:=h.lo;omega),if_neg (by have:=h.lo;omega),if_pos rfl]
def Ee.d3 (h:Ee w B q bd gs n V gn) {b:Nat} (a:V.ownBlock=Bs b):BH own B q bd gs n V gn b=Bs (.ndr q):=by
 have e:=(h.row.lt b a).1;have d:=h.lo;unfold BH;rw[if_neg (by omega),if_neg (by omega),if_neg (by omega),if_pos a]
def Ee.own_nd (h:Ee w B q bd gs n V gn) (d:j<n):BH own B q bd gs n V gn (gn j)=Bs (.nd q j):=by
 have t:=h.lo;obtain⟨m,p⟩:=h.nd j d;unfold BH;have a:∃ k,k<n/\gn j=gn k:=⟨j,d,rfl⟩
 rw[if_neg (by omega),if_neg (by omega),if_neg (by omega),if_neg (fun e=>Bh h.row m.ak (by decide) e),dif_pos a];have f:=a.choose_spec;rw[<- h.inj d f.1 f.2]
def FR:Ext own (BH own B q bd gs n V gn) B:=fun b a=>by unfold BH;rw[if_pos a]
def Ee.own_lt (h:Ee w B q bd gs n V gn) (d:∀ b,own b≠B0->b<w.heap.size):∀ b,BH own B q bd gs n V gn b≠B0->b<w.heap.size:=fun b a=>by
 unfold BH at a;split at a
 ·exact d b a
 ·split at a
  ·rename_i e;rw[e];exact h.map.lt
  ·split at a
   ·rename_i e;rw[e];exact h.ak.lt
   ·split at a
    ·rename_i e;exact(h.row.lt b e).2
    ·split at a
     ·rename_i e;obtain⟨j,f,rfl⟩:=e;exact(h.nd j f).1.ak.lt
     ·exact absurd rfl a
def Ee.sm:∀ b k,BH own B q bd gs n V gn b=Bs (.sm k)->own b=Bs (.sm k):=fun b k e=>by
 unfold BH at e;split at e
 ·exact e
 ·split at e
  ·cases e
  ·split at e
   ·cases e
   ·split at e
    ·cases e
    ·split at e <;> cases e
def Ee.shI (h:Ee w B q bd gs n V gn):DP w (BH own B q bd gs n V gn) n q gs gn (nwV V bd) (Dx q):=
 ⟨K8 h.row (VN _),fun b a=>h.d3 a,h.map,h.own_bd,AB.none_ h.ak rfl ⟨by decide,by decide⟩ (VN _) _,fun b a=>by
  rcases a with h|⟨x,d,_⟩
  ·cases h
  ·exact absurd rfl d,BY.none_ h.ak rfl rfl (by decide) (VN _) _,fun b a=>by
  rcases a with h|⟨x,d,_⟩
  ·cases h
  ·exact absurd rfl d,h.own_gs⟩
def Ee.ndC (h:Ee w B q bd gs n V gn) (d:j<n):Sl w (BH own B q bd gs n V gn) (.nd q j) (gn j) ((Dx q).nd j):=
 ⟨_,_,_,(h.nd j d).1,fun b a=>by
  rcases a with rfl|a|a|⟨x,e,_⟩
  ·exact h.own_nd d
  ·cases a
  ·cases a
  ·cases e⟩
def HI.pushSh (h:HI w4 own P H) (E:PJ w4 own H.n H.c gs gn (Dx H.c)) (I:∀ j,j<H.n->Sl w4 own (.nd H.c j) (gn j) ((Dx H.c).nd j)) (X:H.sh H.c=Dx H.c)
  {v:Kr} (f:Eh w4 own P H.c H.m H.net H.ag v) (K:Av w4 w5 v.Vr.ownBlock V'.ownBlock)
  (U:w5.ownsRow 0 80 1 V' (H.c+1) (((WS H.c).map fun s=>pw (P.gs s))++[pw gs])) :
  ∃ own',HI (w5.setCell ⟨P.g,3,B0⟩ V') own' { P with gs:=Af P.gs H.c gs,gn:=Af P.gn H.c gn } { H with c:=H.c+1 }/\(∀ b,own' b≠B0->own b≠B0\/w4.heap.size<=b)/\(∀ b i,own' b=Bs (.sm i)->own b=Bs (.sm i))/\
   Fr (OS own (fun t=>t=.shr\/t=.hs)) w4 (w5.setCell ⟨P.g,3,B0⟩ V'):=by
 have x:Ext own (DK own w4.heap.size (fun q=>V'.ownBlock=Bs q) .shr) w4.heap.size:=QS;have O:Fr (OS own (fun t=>t=.shr\/t=.hs)) w4 w5:=K.1.mono (fun q _ e=>⟨_,f.bx q e.symm,.inl rfl⟩);have y:=Fr.a6 P.g w5 3 V';have m:Fr (OS own (fun t=>t=.shr\/t=.hs)) w4 (w5.setCell ⟨P.g,3,B0⟩ V'):=O.setCell (p:=⟨P.g,3,B0⟩) (.inl ⟨_,f.gt,.inr rfl⟩) _;have M:¬Bs P.g=v.Vr.ownBlock:=fun e=>by have:=f.bx P.g e.symm;rw[f.gt] at this;cases this
 have z:Ae w5 P.g 92 (Oi v H.ag):=K.1.ak f.nt.ak M;have J:∀ q,E7 v q->¬OS own (fun t=>t=.shr\/t=.hs) q:=fun q d hs=>by rcases hs.tag (f.bc q d) with e|e <;> cases e
 have Z:AJ (w5.setCell ⟨P.g,3,B0⟩ V') 0 P.g 0 92 (Oi { v with Vr:=V' } H.ag) v.Vn v.D 100 v.L H.net.ao v.lost:=
  f.nt.bW m J (z.aH 3 V') rfl rfl rfl
 have u:(w5.setCell ⟨P.g,3,B0⟩ V').ownsRow 0 80 1 V' (H.c+1) ((WS (H.c+1)).map fun s=>pw (Af P.gs H.c gs s)):=by
  have S:((WS (H.c+1)).map fun s=>pw (Af P.gs H.c gs s))=(((WS H.c).map fun s=>pw (P.gs s))++[pw gs]):=by
   rw[List.range_succ,Xd];congr 1
   ·apply X9;intro s hs;rw[List.mem_range] at hs;rw[As (by omega)]
   ·rw[WH,XN,An]
  rw[S];exact y.own U (fun q d e=>Bh U z (by decide) (by rw[d,e]))
 have A:∀ q,V'.ownBlock=Bs q->DK own w4.heap.size (fun q=>V'.ownBlock=Bs q) .shr q=Bs .shr:=fun q d=>QQ (by
  rcases K.2 with e|⟨b',e,hl⟩
  ·exact .inl (f.bx q (by rw[<- e];exact d))
  ·rw[e] at d;injection d with d;exact .inr (by omega)) d
 refine⟨_,⟨QP m.size (fun q d=>(u.lt q d).2),⟨{ v with Vr:=V' },Z,f.msgs,fun q d=>(x q (f.nt.aw d)).trans (f.bc q d),f.br,u,A,m.own f.txr (fun q d hs=>by rcases hs.tag (f.bu q d) with e|e <;> cases e),fun q d=>(x q (f.txr.lt q d).2).trans (f.bu q d),(x _ f.nt.ak.lt).trans f.gt⟩,fun s hs=>?_,fun s j hs W=>?_,fun i S Y=>?_⟩,fun b R=>?_,Pz (by simp),m⟩
 ·have hs:s<H.c+1:=hs;show PJ _ _ H.n s (Af P.gs H.c gs s) (Af P.gn H.c gn s) (H.sh s);by_cases e:s=H.c
  ·subst e;rw[An,An,X];exact E.aP m x (fun t D a=>by rcases D with h|h|h|h|h <;> subst h <;> rcases a with h|h <;> cases h)
  ·rw[As e,As e];exact(h.sh s (by omega)).aP m x (fun t D a=>by rcases D with h|h|h|h|h <;> subst h <;> rcases a with h|h <;> cases h)
 ·have hs:s<H.c+1:=hs;show Sl _ _ (.nd s j) (Af P.gn H.c gn s j) ((H.sh s).nd j);by_cases e:s=H.c
  ·subst e;rw[An,X];exact(I j W).aP m x (fun a=>by rcases a with h|h <;> cases h)
  ·rw[As e];exact(h.nd s j (by omega) W).aP m x (fun a=>by rcases a with h|h <;> cases h)
 ·exact(h.tx i S Y).aP m x (fun a=>by rcases a with h|h <;> cases h) (fun a=>by rcases a with h|h <;> cases h)
 ·unfold DK at R;split at R
  ·exact .inl R
  ·exact .inr (by omega)
def HI.addSh (h:HI w own P H) (m:Ee w4 w.heap.size H.c bd gs H.n V gn) (d:VP w.heap.size w w4) (z:H.sh H.c=Dx H.c)
  {v:Kr} (t:Eh w own P H.c H.m H.net H.ag v) (x:Av w4 w5 v.Vr.ownBlock V'.ownBlock)
  (u:w5.ownsRow 0 80 1 V' (H.c+1) (((WS H.c).map fun s=>pw (P.gs s))++[pw gs])) :
  ∃ own',HI (w5.setCell ⟨P.g,3,B0⟩ V') own' { P with gs:=Af P.gs H.c gs,gn:=Af P.gn H.c gn } { H with c:=H.c+1 }/\(∀ b,own' b≠B0->own b≠B0\/w.heap.size<=b)/\(∀ b i,own' b=Bs (.sm i)->own b=Bs (.sm i)):=by
 have p:Ext own (BH own w.heap.size H.c bd gs H.n V gn) w.heap.size:=FR;have A:=h.grown (own':=BH own w.heap.size H.c bd gs H.n V gn) d p (m.own_lt (fun b a=>VL (h.lt b a) d.size));have f:Eh w4 (BH own w.heap.size H.c bd gs H.n V gn) P H.c H.m H.net H.ag v:=t.aP (q68 own d) p (fun _ _ h=>h);obtain⟨own',I,E,D,_⟩:=A.pushSh ⟨_,m.shI⟩ (fun j y=>m.ndC y) z f x u;refine⟨own',I,fun b a=>?_,fun b i e=>Ee.sm b i (D b i e)⟩;rcases E b a with h|h
 ·by_cases e:b<w.heap.size
  ·rw[FR b e] at h;exact .inl h
  ·exact .inr (by omega)
 ·exact .inr (VO d.size h)
def hs_new (w:D0) (n:Nat) (P:Aq) (p:P.g=w.heap.size):HI (w.alloc (.cells #[.slice B0 0 0,.map B0,.int .i64 0,.slice B0 0 0,.slice B0 0 0,.int .i64 0] 92)) (fun b=>if b=w.heap.size then Bs .hs else B0) P (hsE n):=by
 have f:=Ae.new w 92 #[.slice B0 0 0,.map B0,.int .i64 0,.slice B0 0 0,.slice B0 0 0,.int .i64 0];rw[<- p] at f ⊢;refine⟨fun b a=>?_,⟨⟨.slice B0 0 0,B0,[],0,.slice B0 0 0,.slice B0 0 0⟩,⟨f,rfl,rfl,rfl,VZ _ _ _ _,fun x d=>(by cases d),fun i=>rfl,VN _,⟨by decide,by decide⟩,VN _⟩,rfl,fun b a=>?_,fun x d=>(by cases d),VZ _ _ _ _,fun b a=>(by cases a),VZ _ _ _ _,fun b a=>(by cases a),if_pos rfl⟩,fun s hs=>absurd hs (by show ¬s<0;omega),fun s j hs=>absurd hs (by show ¬s<0;omega),fun i t m=>absurd m (by show ¬i<=0;omega)⟩
 ·by_cases e:b=P.g
  ·rw[e];exact f.lt
  ·rw[if_neg e] at a;exact absurd rfl a
 ·rcases a with h|h|⟨x,d,_⟩
  ·cases h
  ·cases h
  ·cases d
end
def Q4:(Tryz.prog.info? 80).map (fun i=>(i.zero,i.size,i.bytes))=Bs (Bs (.pointer B0),1,8):=by kernel_rfl
def Sk (n g:Nat) (w:D0) (v:O0) (wr:D0):Prop:=
 ∃ (q:Nat) (P:Aq) (own:Ah),v=.int .i64 q/\q<=3/\P.g=g/\HI wr own P (AG n q)/\Ef own/\VP w.heap.size w wr/\∀ b,own b≠B0->w.heap.size<=b
def Sj (n q bd gs:Nat) (a:D0) (v:O0) (wr:D0):Prop:=
 ∃ (i:Nat) (V:O0) (gn:Nat->Nat),v=.int .i64 i/\i<=n/\Ee wr bd q bd gs i V gn/\VP bd a wr
def Uy (n:Nat) (w:D0) (e:Ending) (w':D0):Prop:=
 ∃ (P:Aq) (own:Ah),e=.returned (.tuple #[pw P.g,.nilIface])/\HI w' own P (BD n)/\Ef own/\VP w.heap.size w w'/\w.heap.size<=P.g/\∀ b,own b≠B0->w.heap.size<=b
def Ee.grow {B bd gs:Nat} {gn:Nat->Nat} {d:Nat} (h:Ee w B q bd gs i V gn) (u:Fr (fun k=>k=gs\/V.ownBlock=Bs k) w w') (a:Ae w' gs 105 (FG (nwV V' bd) (Dx q)))
  (z:w'.ownsRow (gs+1) 108 1 V' (i+1) (((WS i).map fun j=>pw (gn j))++[pw d])) (A:BI w' 0 d (.slice B0 0 0) (.slice B0 0 0) [] (nd0 (10*q+i))) (E:gs<d) (D:∀ j,j<i->gn j<d) :
  Ee w' B q bd gs (i+1) V' (Af gn i d):=by
 have m:∀ j,j<i->¬(gn j=gs\/V.ownBlock=Bs (gn j)):=fun j t e=>by
  obtain⟨p,v⟩:=h.nd j t;rcases e with e|e
  ·omega
  ·exact Bh h.row p.ak (by decide) e
 refine⟨h.lo,a,h.map.fr u (fun e=>?_),?_,fun j t=>?_,fun j k f I=>?_⟩
 ·have:=h.lo;rcases e with e|e
  ·omega
  ·have:=(h.row.lt _ e).1;omega
 ·have e:(WS (i+1)).map (fun j=>pw (Af gn i d j))=((WS i).map fun j=>pw (gn j))++[pw d]:=by
   rw[List.range_succ,Xd];congr 1
   ·apply X9;intro s hs;rw[List.mem_range] at hs;rw[As (by omega)]
   ·rw[WH,XN,An]
  rw[e];exact z
 ·by_cases e:j=i
  ·subst e;rw[An];exact⟨A,E⟩
  ·rw[As e];obtain⟨p,v⟩:=h.nd j (by omega);exact⟨p.fr u (fun b a=>by
    rcases a with rfl|a|a|⟨x,y,_⟩
    ·exact m j (by omega)
    ·cases a
    ·cases a
    ·cases y),v⟩
 ·by_cases e:k=i
  ·subst e;rw[An,As (by omega)];exact D j f
  ·rw[As e,As (by omega)];exact h.inc j k f (by omega)
def Rn {n:Nat} {H:Hs} (h:Gt n q H):∀ j∈(H.cc.sh q).ah H.cc.n,((H.cc.sh q).nd j).aa<Xn ((H.cc.sh q).aa+1):=fun j _=>by
 show((H.sh q).nd j).aa<Xn ((H.sh q).aa+1);rw[h.new q (K0 _)];show(0:Int)<Xn (0+1);rw[Xf (0+1) ⟨by omega,by omega⟩];omega
section
variable {w:D0}
def FT (n:Nat) (h1:1<=n) (h4:n<=4):VY Tryz.prog 20 #[.int .i64 2,.int .i64 n] w (Uy n w):=by
 have br:=@run_makeMap Tryz.prog;have bh:=LH (UZ h4);have b0:=LH (hs_new w n ⟨w.heap.size,fun _=>0,fun _ _=>0,fun _=>0⟩ rfl);have b8:¬(n:Int)<1:=by omega
 have aK:¬(4:Int)<n:=by omega
 have ba:decide ((n:Int)<1)=Jx:=decide_eq_false b8;have b9:decide ((4:Int)<n)=Jx:=decide_eq_false aK;have aF:Sk n w.heap.size w (.int .i64 0) (w.alloc (.cells #[.slice B0 0 0,.map B0,.int .i64 0,.slice B0 0 0,.slice B0 0 0,.int .i64 0] 92)):=
  ⟨0,_,_,rfl,VN _,rfl,b0.o,fun b i e=>by dsimp only at e;split at e <;> simp at e,(VK _ _).alloc (K0 _) _,fun b D=>by
   by_cases e:b=w.heap.size
   ·omega
   ·rw[if_neg e] at D;exact absurd rfl D⟩
 have aZ:=LH aF;clear aF b0;go_enter Tryz.func20,Tryz.ntmps20;go_wp2_with fail;clear ba b9 aK;generalize bv:w.heap.size=g at aZ ⊢;go_loopw [29] (Sk n g w) (fun v _=>3-(intOf v).toNat)
 case atStart=>exact aZ.o
 case round=>
  obtain⟨q,P,own,rfl,hq,ai,hI,ab,ag,ad⟩:=hrel;by_cases bt:(q:Int)<3
  ·have b7:q<3:=by omega
   obtain⟨d,_⟩:=bh.o q (by omega);have aM:AG n (q+1)=(AG n q).cc.fix q:=by
    show(AG n q).more=_;rw[q9x,d.c]
   have bg:=LH aM;have bi:=LH (Rn d);have aD:Wf (AG n q).cc:=d.wf.cc (by rw[d.c];exact b7) (d.new _ (by rw[d.c];exact K0 _));have bc:=LH aD;have aX:(AG n q).sh (AG n q).c=Dx (AG n q).c:=d.new _ (by rw[d.c];exact K0 _);have bl:=LH aX;have Y:=d.c;have bb:=d.n;clear d aM aD aX;generalize AG n q=H at *;obtain⟨vh,aa⟩:=hI.hs;have M:=LH aa;obtain⟨_,k3,_,_,kl⟩:=aa.cells;have kf:=aa.nt.ak.frozen 3;rw[ai] at k3 kl kf;have bk:=LH hI;have be:=LH ab;have a0:=LH ag;have bj:=LH ad;have Z:=LH ai;have aO:Ab BC (wr.alloc (.map #[] 0)) wr.heap.size 100 (SS fun _=>Jx):=(Ab.made BC wr).mono (VN 100);have aL:Ee ((wr.alloc (.map #[] 0)).alloc (.cells #[.slice B0 0 0,.map (Bs wr.heap.size),.int .i64 0,.int .i64 0,.map B0,.map B0,.int .i64 0,.int .i64 0] 105)) wr.heap.size q wr.heap.size (wr.heap.size+1) 0 (.slice B0 0 0) (fun _=>0):=by
    refine⟨⟨K0 _,Nat.lt_succ_self _⟩,?_,aO.alloc _,VZ _ _ _ _,fun j hj=>absurd hj (by omega),fun j k _ hk=>absurd hk (by omega)⟩;have:=Ae.new (wr.alloc (.map #[] 0)) 105 #[.slice B0 0 0,.map (Bs wr.heap.size),.int .i64 0,.int .i64 0,.map B0,.map B0,.int .i64 0,.int .i64 0];rw[show(wr.alloc (.map #[] 0)).heap.size=wr.heap.size+1 by simp] at this;exact this
   have aT:VP wr.heap.size wr ((wr.alloc (.map #[] 0)).alloc (.cells #[.slice B0 0 0,.map (Bs wr.heap.size),.int .i64 0,.int .i64 0,.map B0,.map B0,.int .i64 0,.int .i64 0] 105)):=((VK _ _).alloc (K0 _) _).alloc (by simp) _;have a8:=LH (show Sj n q wr.heap.size (wr.heap.size+1) wr (.int .i64 0) _ from⟨0,_,_,rfl,VN _,aL,aT⟩);clear hI ab ag ad aa aO aL aT;rename D0=>Wb
   go_wp2_with fail;generalize aP:Wb.heap.size=bd at a8 ⊢;have a1:=LH aP;clear aP;generalize an:bd+1=gs at a8 ⊢;have bw:=LH an;clear an;go_loopw [36] (Sj n q bd gs Wb) (fun v _=>n-(intOf v).toNat)
   case atStart=>exact a8.o
   case round=>
    obtain⟨i,V,gn,rfl,hi,R,E⟩:=hrel;by_cases bm:(i:Int)<n
    ·have bu:i<=4:=by omega
     have a:=LH R;have a9:=LH E;obtain⟨A6,c6,rfl,_,_⟩:=AR R.row;have f:=R.ak.cell 0;have af:=R.ak.lt;unfold FG nwV at f;simp only[Hi,Ft] at f;have bq:IntKind.i64.wrap (10*(q:Int))=10*(q:Int):=V4 _ ⟨by omega,by omega⟩;have bp:IntKind.i64.wrap (10*(q:Int)+i)=10*(q:Int)+i:=V4 _ ⟨by omega,by omega⟩;have ar:=LH (TK 0 (10*(q:Int)+i) wr.drew (VN _));clear R E;go_upto_region 11 with (fail)
     refine nW ?_;refine CF (fun W=>W.cell? ⟨gs,0,B0⟩=Bs (.slice A6 i c6)/\gs<W.heap.size) 12 (fun _ _ _ _ _ h=>h) (fun t=>?_);have u:wr.drew.cell? ⟨gs,0,B0⟩=Bs (.slice A6 i c6)/\gs<wr.drew.heap.size:=⟨f,af⟩
     refine nD 0 [12,13,14] t u ?_;refine nD 1 [2,3,4,11,12,13,14] t u ?_;refine nD 2 [3,4,11,12,13,14] t u ?_;refine nD 3 [4,11,12,13,14] t u ?_;refine nA 4 [11,12,13,14] rfl rfl t u (fun w' b5=>by obtain⟨p1,pl⟩:=b5;go_simp;rfl) ?_;refine nD 5 [6,8,9,10,11,12,13,14] t u ?_;refine nD 6 [8,9,10,11,12,13,14] t u ?_;refine nD 7 [8,9,10,11,12,13,14] t u ?_;refine nD 8 [9,10,11,12,13,14] t u ?_;refine nG 9 (fun KK J=>?_);go_simp;refine ar.o.mono ?_;rintro e w3 ⟨rfl,aI,aS,b6⟩;have I:VP wr.heap.size wr w3:=(VK wr (B:=wr.heap.size)).drew.trans aS;have C3:=LH (show w3.cell? ⟨gs,0,B0⟩=Bs (.slice A6 i c6)/\gs<w3.heap.size from⟨(I.cell (p:=⟨gs,0,B0⟩) af).trans f,VL af I.size⟩);have b2:=LH aI;have b3:=LH I;have ay:=LH ((DG I).own a.o.row (fun b D hs=>by have:=(a.o.row.lt b D).2;omega));have b4:wr.drew.heap.size=wr.heap.size:=rfl;rw[b4] at b2;clear aI aS I f af ar b6;go_simp;refine J _ _ (fun _=>C3.o) ?_;clear J KK u;refine nG 10 (fun KK J=>?_);go_simp;refine J _ _ (fun _=>⟨(WX w3 _ ⟨gs,0,B0⟩ C3.o.2).trans C3.o.1,by have:=C3.o.2;simp;omega⟩) ?_;clear J KK;refine nG 11 (fun KK J=>?_);have aE:gs+1<=w3.heap.size:=C3.o.2;have aG:i+1<=Wo/\(i+1)*8<=140737488355328:=⟨by unfold Wo;omega,by omega⟩
     refine SQ w3 w3.heap.size rfl _ (.tmp 43) (.tmp 49) 97 rfl (gs+1) 108 (.pointer B0) 1 8 Tryz.underlying97 I6 rfl (by decide) _ _ _ #[pw wr.heap.size] rfl ay.o 1 rfl _ rfl rfl (by simp[WB,pw]) aG.1 aG.2 aE ?_;intro K w8 z ac;have a3:¬Bs gs=(WM A6 i c6).ownBlock:=fun e=>by have:=(a.o.row.lt gs e.symm).1;omega
     have aJ:¬Bs wr.heap.size=(WM A6 i c6).ownBlock:=fun e=>by have:=(a.o.row.lt _ e.symm).2;omega
     have a6:=(DG b3.o).ak a.o.ak (by have:=a.o.ak.lt;omega);have m:=ac.1.ak a6 a3;have y0:=m.cell 0;have yf:=m.frozen 0;have yl:=m.lt;unfold FG nwV at y0;simp only[Hi,Ft] at y0;have S:=Fr.a6 gs w8 0 K;have au:Fr (fun k=>k=gs\/(WM A6 i c6).ownBlock=Bs k) wr (w8.setCell ⟨gs,0,B0⟩ K):=
      (((DG b3.o).mono (T:=fun k=>k=gs\/(WM A6 i c6).ownBlock=Bs k) (fun k hk hs=>absurd hs (by omega))).trans' ac.1 (fun k _ e=>.inr e.symm)).trans' S (fun k _ e=>.inl e)
     have a5:Ae (w8.setCell ⟨gs,0,B0⟩ K) gs 105 (FG (nwV K bd) (Dx q)):=by simpa [FG,nwV] using m.aH 0 K
     have al:BI (w8.setCell ⟨gs,0,B0⟩ K) 0 wr.heap.size (.slice B0 0 0) (.slice B0 0 0) [] (nd0 (10*q+i)):=by
      have aH:∀ b,CC wr.heap.size (.slice B0 0 0) (.slice B0 0 0) [] b->b=wr.heap.size:=fun b D=>by
       rcases D with h|h|h|⟨x,hx,_⟩
       ·exact h
       ·cases h
       ·cases h
       ·cases hx
      exact(b2.o.fr ac.1 (fun b D e=>aJ (by rw[aH b D] at e;exact e))).fr S (fun b D e=>by have:=aH b D;have:=a.o.ak.lt;omega)
     have a2:=S.own z (fun b D e=>by have:=(z.lt b D).1;omega);have ao:Ee (w8.setCell ⟨gs,0,B0⟩ K) bd q bd gs (i+1) K (Af gn i wr.heap.size):=
      a.o.grow au a5 a2 al a.o.ak.lt (fun j hj=>(a.o.nd j hj).1.ak.lt)
     have ap:VP bd wr (w8.setCell ⟨gs,0,B0⟩ K):=au.below (fun k hk=>by
      have:=a.o.lo;rcases hk with e|e
      ·omega
      ·have:=(a.o.row.lt k e).1;omega) (by have:=a.o.map.lt;omega)
     have ax:=LH (show Sj n q bd gs Wb (.int .i64 ((i+1:Nat):Int)) (w8.setCell ⟨gs,0,B0⟩ K) from⟨i+1,K,_,rfl,by omega,ao,a9.o.trans ap⟩);obtain⟨A9,c9,rfl,_,_⟩:=AR z;have C8:=LH (show w8.cell? ⟨gs,0,B0⟩=Bs (.slice A6 i c6)/\gs<w8.heap.size from⟨y0,yl⟩);clear ao ap a2 al a5 au S m a6 a3 aJ z ac;go_simp;refine J _ _ (fun _=>C8.o) ?_;clear J KK;refine nG 12 (fun KK J=>?_);go_simp;refine J _ _ nZ ?_;clear J KK;refine nG 13 (fun KK J=>?_);go_simp;refine J _ _ nZ ?_;clear J KK;refine nG 14 (fun KK J=>?_);go_simp;refine J _ _ nZ ?_;clear J KK;refine nX ?_;clear t y0 yf yl;go_wp2_with fail;go_roundw
     ·exact ax.o
     ·simp[intOf];omega
    ·obtain rfl:n=i:=by omega
     have a7:∀ b,own b≠B0->w.heap.size<=b:=bj.o;have y:=M.o.shr;obtain⟨A7,c7,av,_,_⟩:=AR y;have A:=(DG E).own y (fun b D hs=>by have:=(y.lt b D).2;have:=a1.o;omega);rw[av] at A k3;rw[Y] at A k3;have bo:=(E.cell (p:=⟨g,3,B0⟩) (by have:=a1.o;have:=Z.o;show g<bd;omega)).trans k3;have bn:=VL kl E.size;have a4:=(DG E).ak M.o.nt.ak (by have:=M.o.nt.ak.lt;have:=a1.o;omega);have az:=LH a4;have a:=LH R;have a9:=LH E;have ay:=LH A;have aY:=LH av;clear y A a4 R E av k3 kl kf;go_wp2_with (at_builtin;refine stop ?_)
     refine Df ?_;refine PD wr _ rfl (.tmp 58) (.tmp 60) 89 rfl 0 80 (.pointer B0) 1 8 Tryz.underlying89 Q4 rfl (by decide) _ _ _ #[pw gs] rfl ay.o 1 rfl _ rfl rfl (by simp[WB,pw]) (by unfold Wo;omega) (by omega) (VN _) ?_;intro K w6 O aN;have U:Av wr w6 vh.Vr.ownBlock K.ownBlock:=by rw[aY.o,Y];exact aN
     have aU:=bk.o.addSh (w4:=wr) (w5:=w6) (bd:=bd) (gs:=gs) (V:=V) (gn:=gn) (V':=K) (by rw[a1.o,Y,bb];exact a.o) (by rw[a1.o];exact a9.o) bl.o M.o U (by rw[Y];exact O);obtain⟨aj,aw,am,ak⟩:=aU;have a3:¬Bs g=vh.Vr.ownBlock:=fun e=>by have:=M.o.bx g e.symm;rw[<- Z.o,M.o.gt] at this;cases this
     rw[Z.o] at az;have ae:=U.1.ak az.o a3;have y1:=ae.frozen 3;have y0:=ae.cell 3;unfold Oi at y0;simp only[Hi,Ft,N2] at y0;rw[aY.o,Y] at y0;have yl:=ae.lt;have aR:VP w.heap.size Wb (w6.setCell ⟨g,3,B0⟩ K):=by
      have e1:VP w.heap.size Wb wr:=a9.o.mono (by have:=a1.o;have:=a0.o.size;omega);have e2:Fr (fun k=>w.heap.size<=k) wr (w6.setCell ⟨g,3,B0⟩ K):=(U.1.mono (T:=fun k=>w.heap.size<=k) (fun k _ e=>a7 k (by rw[M.o.bx k e.symm];simp))).trans' (Fr.a6 g w6 3 K) (fun k _ e=>by
       have:=a7 g (by rw[<- Z.o,M.o.gt];simp);omega)
      exact e1.trans (e2.below (fun _ h=>h) (VO a0.o.size a9.o.size))
     have aB:=LH aR;obtain⟨P7,X⟩:∃ P7:Aq,P7 = { P with gs:=Af P.gs H.c gs,gn:=Af P.gn H.c gn }:=⟨_,rfl⟩
     rw[<- X,Z.o] at aw;have aA:=LH (JI (s:=q) aw bc.o (show q<H.c+1 by omega) bi.o);have b1:=LH (show ∀ b,aj b≠B0->w.heap.size<=b from fun b D=>by
      rcases am b D with h|h
      ·exact a7 b h
      ·have:=a0.o.size;omega)
     have bf:=LH (show Ef aj from fun b i e=>be.o b i (ak b i e));have aq:P7.g=g:=by rw[X];exact Z.o
     have aV:P7.gs q=gs:=by rw[X];show Af P.gs H.c gs q=gs;rw[Y,An]
     clear X;rw[aq,aV] at aA;obtain⟨A9,c9,rfl,_,_⟩:=AR O;unfold pw at aA;clear aN U ae aw am ak O aR a3 az;go_upto_region 14 with (fail)
     clear y0 y1 yl;generalize (w6.setCell _ _)=w7 at *;go_wp2_with fail;refine aA.o.mono ?_;rintro e w8 ⟨rfl,aC,aW,ah⟩;have aQ:VP w.heap.size w7 w8:=ah.fr.below (fun k hk=>b1.o k hk.owned) (VO a0.o.size aB.o.size);have ax:=LH (show Sk n g w (.int .i64 ((q+1:Nat):Int)) w8 from⟨q+1,P7,aC,rfl,by omega,aq,by rw[bg.o];exact aW,ah.dg bf.o,(a0.o.trans aB.o).trans aQ,fun b D=>by
      by_cases e:b<w7.heap.size
      ·rw[ah.ext b e] at D;exact b1.o b D
      ·have:=aB.o.size;have:=a0.o.size;omega⟩)
     clear aW ah aQ;go_wp2_with fail;go_roundw
     ·exact ax.o
     ·simp[intOf];omega
  ·obtain rfl:q=3:=by omega
   have HF:=LH (show Uy n w (.returned (.tuple #[.pointer (Bs ⟨g,0,B0⟩),.nilIface])) wr from⟨P,own,by rw[ai];rfl,hI,ab,ag,by rw[ai];omega,ad⟩);clear hI ab ag ad;go_wp2_with fail;go_ret2;exact HF.o
end
def Aw (a:Int) (n:Nat):Nat:=((a % 18446744073709551616) % n).toNat
def K9 (a:Int) {n:Nat} (h:0<n):Aw a n<n:=by
 unfold Aw;have e:0<=(a % 18446744073709551616) % (n:Int):=Int.emod_nonneg _ (by omega);have d:(a % 18446744073709551616) % (n:Int)<n:=Int.emod_lt_of_pos _ (by omega);omega
def Tw (a:Int) (n:Nat) (h:0<n) (m:n<=4611686018427387904) (w:D0):VY Tryz.prog 13 #[.int .i64 a,.int .i64 n] w fun e w'=>e=.returned (.int .i64 (Aw a n))/\w=w':=by
 go_enter Tryz.func13,Tryz.ntmps13;go_wp2_with fail;go_ret;refine⟨?_,rfl⟩;have d:IntKind.u64.wrap a=a % 18446744073709551616:=by simp[IntKind.wrap,IntKind.bits,IntKind.signed]
 have f:0<=a % 18446744073709551616:=Int.emod_nonneg _ (by omega);have t:0<=(a % 18446744073709551616) % (n:Int):=Int.emod_nonneg _ (by omega);have p:(a % 18446744073709551616) % (n:Int)<n:=Int.emod_lt_of_pos _ (by omega);have e:Xn ((IntKind.u64.wrap a).tmod n)=(Aw a n:Int):=by
  rw[d,Int.tmod_eq_emod_of_nonneg f,Xf _ (by omega)];unfold Aw;omega
 show Ending.returned (.int .i64 (Xn ((IntKind.u64.wrap a).tmod n)))=_;rw[e]
section
variable {H H':Hs}
def TE (t:Wf H) (x:H.c=3) (id:Int) (f:sx p.key∈names):EP H (H.put id p).2:=by
 unfold Hs.put;split
 ·exact .star (.refl _)
 ·rename_i J;have h:=QO (id:=id) (mode:=2) t x f (by unfold Br;omega);have m:Wf (H.lock id (sx p.key) 2).2:=(q63 t x f).1;have v:(H.lock id (sx p.key) 2).1=0->1<=id.toNat/\id.toNat<=(H.lock id (sx p.key) 2).2.m:=fun a=>by
   have D:=(q63 (mode:=2) (id:=id) t x f).2.m;by_cases E:id<1\/H.m<id
   ·rw[Ty E] at a;cases a
   ·rw[D];omega
  simp only;split
  ·exact .star h
  ·rename_i a;have a:(H.lock id (sx p.key) 2).1=0:=by simpa using a
   obtain⟨z,y⟩:=v a;split
   ·rename_i l hl;have d:=m.tx _ z y;have A:Sc ⟨p.key,if p.gone then⟨#[]⟩ else p.val,p.gone⟩:=by
     refine⟨f,?_⟩;show(if p.gone then(⟨#[]⟩:ByteArray) else p.val).size<=40;split
     ·decide
     ·omega
    have e:l.length<=20/\∀ q∈l,Sc q:=by
     unfold Ci at hl;split at hl
     ·injection hl with hl;subst hl;refine⟨by rw[XS];exact d.br,fun q u=>?_⟩;rcases List.mem_or_eq_of_mem_set u with g|g
      ·exact d.ps q g
      ·rw[g];exact A
     ·split at hl
      ·cases hl
      ·rename_i I;injection hl with hl;subst hl;refine⟨by have:=d.br;simp;omega,fun q u=>?_⟩;rcases List.mem_append.1 u with g|g
       ·exact d.ps q g
       ·rw[List.mem_singleton.1 g];exact A
    exact .write h z y e.1 e.2
   ·exact .star h
end
structure Eg (w w1:D0) (own:Ah) (P:Aq) (H:Hs):Prop where
 hi:HI w1 own P H
 ns:Ef own
 bl:VP w.heap.size w w1
 lo:∀ b,own b≠B0->w.heap.size<=b
def Eg.step {Z:Tg->Prop} {w w1 w2:D0} {own own2:Ah} {P P':Aq} {H H':Hs} (k:Eg w w1 own P H) (f:HI w2 own2 P' H') (d:HZ Z w1 own w2 own2):Eg w w2 own2 P' H':=by
 refine⟨f,d.dg k.ns,k.bl.trans (d.fr.below (fun b a=>k.lo b a.owned) k.bl.size),fun b a=>?_⟩;by_cases e:b<w1.heap.size
 ·rw[d.ext b e] at a;exact k.lo b a
 ·have:=k.bl.size;omega
def Eg.c7 {own:Ah} {P:Aq} {H H':Hs} (k:Eg w W own P H) (h:BZ P own H' W w'):∃ own2,Eg w w' own2 P H':=by
 obtain⟨own2,a,b⟩:=h;exact⟨own2,k.step a b⟩
def Eg.below {w w1 w2:D0} {own:Ah} {P:Aq} {H:Hs} (k:Eg w w1 own P H) (a:VP w1.heap.size w1 w2):Eg w w2 own P H:=⟨k.hi.below a,k.ns,k.bl.trans (a.mono k.bl.size),k.lo⟩
def Hy (w:D0) (e:Ending) (w':D0):Prop:=e=.returned (.bool VJ)/\VP w.heap.size w w'
structure Mz where
 ai:Int
 key:ByteArray
 val:ByteArray
 found:Bool
structure AZ where
 ops:List Mz
 from_:Int
 a4:Int
abbrev Mp:=ByteArray->Option ByteArray
def Mp.empty:Mp:=fun _=>B0
def Mp.set (m:Mp) (k:ByteArray) (v:Option ByteArray):Mp:=fun x=>if x=k then v else m x
def RH (m:Mp) (o:Mz):Prop:=(m o.key).isSome=o.found/\∀ v,m o.key=Bs v->v=o.val
instance (m:Mp) (o:Mz):Decidable (RH m o):=by
 unfold RH;rcases h:m o.key with _|v
 ·exact decidable_of_iff ((B0:Option ByteArray).isSome=o.found) ⟨fun h=>⟨h,fun v e=>by cases e⟩,fun h=>h.1⟩
 ·exact decidable_of_iff (VJ=o.found/\v=o.val) ⟨fun h=>⟨h.1,fun u e=>by injection e with e;rw[<- e];exact h.2⟩,fun h=>⟨h.1,h.2 v rfl⟩⟩
def op1 (m:Mp) (o:Mz):Option Mp:=
 if o.ai=1 then(if RH m o then Bs m else B0) else if o.ai=2 then Bs (m.set o.key (Bs o.val)) else if o.ai=3 then Bs (m.set o.key B0) else Bs m
def Q5 (m:Mp):List Mz->Option Mp
 | []=>Bs m
 | o::l=>(op1 m o).bind fun a=>Q5 a l
section
variable (l:List AZ)
def UJ (i:Nat):Int:=(l[i]?.map (·.a4)).getD (-1)
def RL (i:Nat):Int:=(l[i]?.map (·.from_)).getD 0
def opsA (i:Nat):List Mz:=(l[i]?.map (·.ops)).getD []
def mayP (a:List Nat) (i:Nat):Prop:=∀ k,k<l.length->k≠i->k ∉ a->¬(0<=UJ l k/\UJ l k<RL l i)
def Vm (a:List Nat):Prop:=∀ k,k<l.length->0<=UJ l k->k∈a
instance (a:List Nat) (i:Nat):Decidable (mayP l a i):=by unfold mayP;exact inferInstance
instance (a:List Nat):Decidable (Vm l a):=by unfold Vm;exact inferInstance
def posP (a:List Nat) (k:Nat):Nat:=if k∈a then a.idxOf k+1 else 0
def Sw (a:List Nat):Prop:=
 a.Nodup/\(∀ k∈a,k<l.length)/\(∀ i,i<l.length->(0<=UJ l i->i∈a)/\∀ k,k<l.length->¬(0<=UJ l i/\UJ l i<RL l k/\0<posP a k/\posP a k<posP a i))/\
  (Q5 Mp.empty (a.flatMap (opsA l))).isSome=VJ
def cutP (a:List Nat):List AZ:=l.mapIdx fun i t=>if i ∉ a/\0<=t.a4 then { t with a4:=-1 } else t
def Nr (a:List Nat):Prop:=(∀ i,i<l.length->i ∉ a->0<=UJ l i->∀ k∈a,¬UJ l i<RL l k)/\Sw (cutP l a) a
instance (a:List Nat):Decidable (Sw l a):=by unfold Sw;exact inferInstance
instance (a:List Nat):Decidable (Nr l a):=by unfold Nr;exact inferInstance
end
structure DY where
 t:AZ
 V:O0
def q7n (o:Mz):List O0:=[.int .i64 o.ai,.string o.key,.string o.val,.bool o.found]
def Ol (x:DY):List O0:=[x.V,.int .i64 x.t.from_,.int .i64 x.t.a4]
def Tj:(Tryz.prog.info? 52).map (fun i=>(i.zero,i.size,i.bytes))=Bs (Bs (.agg #[.slice B0 0 0,.int .i64 0,.int .i64 0]),3,40):=by kernel_rfl
def MP:(Tryz.prog.info? 56).map (fun i=>(i.zero,i.size,i.bytes))=Bs (Bs (.agg #[.int .i64 0,.string ⟨#[]⟩,.string ⟨#[]⟩,.bool Jx]),4,48):=by kernel_rfl
structure BU (w:D0) (g gh:Nat) (V:O0) (L:List DY) (now:Int) (safe:Bool) (nodes:Int) (B:Nat):Prop where
 ak:Ae w g 37 #[pw gh,V,.int .i64 now,.bool safe,.int .i64 nodes]
 row:w.ownsRow 0 52 3 V L.length (L.flatMap Ol)
 ops:∀ x∈L,w.ownsRow 0 56 4 x.V x.t.ops.length (x.t.ops.flatMap q7n)/\x.t.ops.length<=B/\∀ o∈x.t.ops,True
 apart:∀ (i j:Nat) (x y:DY),L[i]? = Bs x->L[j]? = Bs y->i≠j->∀ b,x.V.ownBlock=Bs b->y.V.ownBlock≠Bs b
def DB (g:Nat) (V:O0) (L:List DY) (b:Nat):Prop:=b=g\/V.ownBlock=Bs b\/∃ x∈L,x.V.ownBlock=Bs b
section
variable {w w':D0} {g gh:Nat} {V:O0} {L:List DY} {now nodes:Int} {safe:Bool} {B:Nat}
def BU.fr {S:Nat->Prop} (h:BU w g gh V L now safe nodes B) (e:Fr S w w') (d:∀ b,DB g V L b->¬S b):BU w' g gh V L now safe nodes B:=
 ⟨e.ak h.ak (d g (.inl rfl)),e.own h.row (fun b f=>d b (.inr (.inl f))),fun x a=>⟨e.own (h.ops x a).1 (fun b f=>d b (.inr (.inr ⟨x,a,f⟩))),(h.ops x a).2⟩,h.apart⟩
def BU.lt (h:BU w g gh V L now safe nodes B) {b:Nat} (a:DB g V L b):b<w.heap.size:=by
 rcases a with rfl|a|⟨x,d,a⟩
 ·exact h.ak.lt
 ·exact(h.row.lt b a).2
 ·exact((h.ops x d).1.lt b a).2
end
structure VF (w:D0) (r o k:Nat):Prop where
 var:w.cell? ⟨0,0,B0⟩=Bs (.slice (Bs ⟨r,o,B0⟩) 4 k)
 at_:∀ (q:Nat) (x:Sx),names[q]? = Bs x->w.cell? ⟨r,o+q,B0⟩=Bs (.string ⟨x.toArray⟩)
 lt0:0<w.heap.size
 lt:r<w.heap.size
def VF.fr {S:Nat->Prop} {r o:Nat} (h:VF w r o k) (a:Fr S w w') (t:¬S 0) (e:¬S r):VF w' r o k:=by
 have d:∀ b,b<w.heap.size->¬S b->∀ p,w'.cell? ⟨b,p,B0⟩=w.cell? ⟨b,p,B0⟩:=fun b m hs p=>a.cell (p:=⟨b,p,B0⟩) m hs
 exact⟨by rw[d 0 h.lt0 t];exact h.var,fun q x f=>by rw[d r h.lt e];exact h.at_ q x f,VL h.lt0 a.size,VL h.lt a.size⟩
structure CV (w:D0) (own:Ah) (P:Aq) (F:Nat->Prop) (g r o k:Nat) (H:Hs) (T:List AZ) (now:Int) (safe:Bool) (nodes:Int) (B:Nat):Prop where
 hi:HI w own P H
 ns:Ef own
 st:∃ V L,BU w g P.g V L now safe nodes B/\L.map (·.t)=T/\∀ b,DB g V L b->F b
 nm:VF w r o k
 o0:own 0=B0
 or_:own r=B0
 F0:∀ b,F b->own b=B0/\b≠0/\b≠r
 Fl:∀ b,F b->b<w.heap.size
structure Gr (w:D0) (own:Ah) (F:Nat->Prop) (w':D0) (own':Ah) (F':Nat->Prop):Prop where
 ext:Ext own own' w.heap.size
 fr:Fr (fun b=>own b≠B0\/F b) w w'
 F:∀ b,F' b->F b\/w.heap.size<=b
section
variable {w w1 w2:D0} {own own1 own2:Ah} {P P':Aq} {F F1 F2:Nat->Prop} {g r o k:Nat} {H H':Hs} {T:List AZ} {now nodes:Int} {safe:Bool} {B:Nat}
def Gr.refl (w:D0) (own:Ah) (F:Nat->Prop):Gr w own F w own F:=⟨Ext.refl _ _,Fr.refl _ _,fun _ h=>.inl h⟩
def Gr.trans (h:Gr w own F w1 own1 F1) (k:Gr w1 own1 F1 w2 own2 F2):Gr w own F w2 own2 F2:=by
 refine⟨h.ext.trans k.ext h.fr.size,h.fr.trans' k.fr (fun b a e=>?_),fun b a=>?_⟩
 ·rcases e with e|e
  ·exact .inl (by rw[<- h.ext b a];exact e)
  ·rcases h.F b e with e|e
   ·exact .inr e
   ·omega
 ·rcases k.F b a with e|e
  ·exact h.F b e
  ·exact .inr (VO h.fr.size e)
def CV.bY {Z:Tg->Prop} (c:CV w own P F g r o k H T now safe nodes B) (t:HI w1 own1 P' H') (d:HZ Z w own w1 own1) (hP:P'.g=P.g):CV w1 own1 P' F g r o k H' T now safe nodes B/\Gr w own F w1 own1 F:=by
 have f:∀ b,own b=B0->¬OS own Z b:=fun b a e=>e.owned a
 have m:∀ b,b<w.heap.size->own b=B0->own1 b=B0:=fun b a e=>by rw[d.ext b a];exact e
 refine⟨⟨t,d.dg c.ns,?_,c.nm.fr d.fr (f 0 c.o0) (f r c.or_),m 0 c.nm.lt0 c.o0,m r c.nm.lt c.or_,fun b a=>⟨m b (c.Fl b a) (c.F0 b a).1,(c.F0 b a).2⟩,fun b a=>VL (c.Fl b a) d.fr.size⟩,d.ext,d.fr.mono (fun b _ e=>.inl e.owned),fun _ h=>.inl h⟩;obtain⟨V,L,v,u,p⟩:=c.st;exact⟨V,L,by rw[hP];exact v.fr d.fr (fun b a=>f b (c.F0 b (p b a)).1),u,p⟩
def CV.c7 (c:CV w own P F g r o k H T now safe nodes B) (h:BZ P own H' w w1):∃ own1,CV w1 own1 P F g r o k H' T now safe nodes B/\Gr w own F w1 own1 F:=by
 obtain⟨own1,a,b⟩:=h;exact⟨own1,c.bY a b rfl⟩
def CV.below (c:CV w own P F g r o k H T now safe nodes B) (a:VP w.heap.size w w1):CV w1 own P F g r o k H T now safe nodes B/\Gr w own F w1 own F:=
 c.bY (Z:=fun _=>True) (c.hi.below a) (HZ.below own a) rfl
def CV.cB {S:Nat->Prop} {T':List AZ} {d:Int} {B':Nat} (c:CV w own P F g r o k H T now safe nodes B) (u:Fr S w w1) (v:∀ b,b<w.heap.size->S b->F b) {L:List DY} (hs:BU w1 g P.g V L d safe nodes B') (y:L.map (·.t)=T') (x:∀ b,DB g V L b->F b\/w.heap.size<=b) :
  CV w1 own P (fun b=>F b\/DB g V L b) g r o k H T' d safe nodes B'/\Gr w own F w1 own (fun b=>F b\/DB g V L b):=by
 have z:∀ b,b<w.heap.size->¬F b->¬S b:=fun b a h e=>h (v b a e)
 have f:Fr F w w1:=u.mono (fun b a e=>v b a e);have m:∀ b,w.heap.size<=b->own b=B0:=fun b a=>c.hi.free a
 have t:¬F 0:=fun e=>(c.F0 0 e).2.1 rfl
 have p:¬F r:=fun e=>(c.F0 r e).2.2 rfl
 refine⟨⟨c.hi.fr0 f (fun b a e=>a (c.F0 b e).1),c.ns,⟨V,L,hs,y,fun b a=>.inr a⟩,c.nm.fr f t p,c.o0,c.or_,fun b a=>?_,fun b a=>?_⟩,Ext.refl _ _,f.mono (fun b _ e=>.inr e),fun b a=>?_⟩
 ·have:F b\/w.heap.size<=b:=a.elim .inl (x b);rcases this with e|e
  ·exact c.F0 b e
  ·have:=c.nm.lt0;have:=c.nm.lt;exact⟨m b e,by omega,by omega⟩
 ·rcases a with e|e
  ·exact VL (c.Fl b e) u.size
  ·exact hs.lt e
 ·rcases a with e|e
  ·exact .inl e
  ·exact x b e
end
def Qn:∀ (M:List DY) (i:Nat) (x:DY) (V:O0) (ops:List Mz),M[i]? = Bs x->(M.flatMap Ol).set (i*3) V=(M.set i ⟨{ x.t with ops:=ops },V⟩).flatMap Ol
 | [],i,x,V,ops,h=>by simp at h
 | y::M,0,x,V,ops,h=>by
  obtain rfl:y=x:=by simpa using h
  simp[Ol]
 | y::M,i+1,x,V,ops,h=>by
  have a:=Qn M i x V ops (by simpa using h);have d:(i+1)*3=i*3+3:=by omega
  rw[d,XH,VM,VM,<- a];simp[Ol]
def Qm:∀ (M:List DY) (i:Nat) (x:DY) (v:Int),M[i]? = Bs x->(M.flatMap Ol).set (i*3+2) (.int .i64 v)=(M.set i ⟨{ x.t with a4:=v },x.V⟩).flatMap Ol
 | [],i,x,v,h=>by simp at h
 | y::M,0,x,v,h=>by
  obtain rfl:y=x:=by simpa using h
  simp[Ol]
 | y::M,i+1,x,v,h=>by
  have a:=Qm M i x v (by simpa using h);have d:(i+1)*3+2=(i*3+2)+3:=by omega
  rw[d,XH,VM,VM,<- a];simp[Ol]
section
variable {w w':D0} {g gh:Nat} {V:O0} {L:List DY} {now nodes:Int} {safe:Bool} {B:Nat}
def BU.cells (h:BU w g gh V L now safe nodes B):w.cell? ⟨g,0,B0⟩=Bs (pw gh)/\w.cell? ⟨g,1,B0⟩=Bs V/\w.cell? ⟨g,2,B0⟩=Bs (.int .i64 now)/\w.cell? ⟨g,3,B0⟩=Bs (.bool safe)/\w.cell? ⟨g,4,B0⟩=Bs (.int .i64 nodes)/\g<w.heap.size:=by
 have m:=h.ak.cell 0;have f:=h.ak.cell 1;have e:=h.ak.cell 2;have d:=h.ak.cell 3;have a:=h.ak.cell 4;simp only[Hi,Ft,N2] at m f e d a;exact⟨m,f,e,d,a,h.ak.lt⟩
def BU.hour (h:BU w g gh V L now safe nodes B) (v:Int):BU (w.setCell ⟨g,2,B0⟩ (.int .i64 v)) g gh V L v safe nodes B/\Fr (fun b=>b=g) w (w.setCell ⟨g,2,B0⟩ (.int .i64 v)):=by
 have d:=Fr.a6 g w 2 (.int .i64 v);refine⟨⟨h.ak.aH 2 _,d.own h.row (fun b f e=>Bh h.row h.ak (by decide) (by rw[f,e])),fun x a=>⟨d.own (h.ops x a).1 (fun b f e=>Bh (h.ops x a).1 h.ak (by decide) (by rw[f,e])),(h.ops x a).2⟩,h.apart⟩,d⟩
def Gl {L:List DY} {x z:DY} (A:L[i]? = Bs x) (h:∀ (i j:Nat) (x y:DY),L[i]? = Bs x->L[j]? = Bs y->i≠j->∀ b,x.V.ownBlock=Bs b->y.V.ownBlock≠Bs b)
  (t:∀ (j:Nat) (y:DY),L[j]? = Bs y->j≠i->∀ b,z.V.ownBlock=Bs b->y.V.ownBlock≠Bs b):∀ (j k:Nat) (u y:DY),(L.set i z)[j]? = Bs u->(L.set i z)[k]? = Bs y->j≠k->∀ b,u.V.ownBlock=Bs b->y.V.ownBlock≠Bs b:=by
 intro j k u y d a e b m f;obtain⟨hl,_⟩:=List.getElem?_eq_some_iff.1 A;rw[Y9] at d a;by_cases p:i=j
 ·subst p;rw[if_pos rfl,if_pos hl] at d;rw[if_neg e] at a;injection d with d;subst d;exact t k y a (Ne.symm e) b m f
 ·rw[if_neg p] at d;by_cases v:i=k
  ·subst v;rw[if_pos rfl,if_pos hl] at a;injection a with a;subst a;exact t j u d (Ne.symm p) b f m
  ·rw[if_neg v] at a;exact h j k u y d a e b m f
def q9y {α:Type} {L:List α} {x z y:α} (f:L[i]? = Bs x) (d:y∈L.set i z):y=z\/∃ j,L[j]? = Bs y/\j≠i:=by
 obtain⟨j,a⟩:=List.getElem?_of_mem d;obtain⟨hl,_⟩:=List.getElem?_eq_some_iff.1 f;rw[Y9] at a;by_cases e:i=j
 ·subst e;rw[if_pos rfl,if_pos hl] at a;injection a with a;exact .inl a.symm
 ·rw[if_neg e] at a;exact .inr ⟨j,a,Ne.symm e⟩
def BU.cq (h:BU w g gh V L now safe nodes B) {d cap:Nat} {x:DY} (A:L[i]? = Bs x) (U:V=.slice (Bs ⟨d,0,B0⟩) L.length cap) {o:Mz} (ho:True) (z:Av w w' x.V.ownBlock V'.ownBlock)
  (Y:w'.ownsRow 0 56 4 V' (x.t.ops.length+1) (x.t.ops.flatMap q7n++q7n o)) :
  BU (w'.setCell ⟨d,i*3,B0⟩ V') g gh V (L.set i ⟨{ x.t with ops:=x.t.ops++[o] },V'⟩) now safe nodes (B+1)/\Fr (fun b=>Bs b=x.V.ownBlock\/Bs b=V.ownBlock) w (w'.setCell ⟨d,i*3,B0⟩ V')/\
   ∀ b,DB g V (L.set i ⟨{ x.t with ops:=x.t.ops++[o] },V'⟩) b->DB g V L b\/w.heap.size<=b:=by
 obtain⟨hl,_⟩:=List.getElem?_eq_some_iff.1 A;have I:=S2 A;have m:V.ownBlock=Bs d:=by rw[U];rfl
 have K:=h.ops x I;have f:w'.ownsRow 0 52 3 V L.length (L.flatMap Ol):=z.1.own h.row (fun b a e=>ES h.row K.1 (by decide) a e.symm);have D:=z.1.ak h.ak (fun e=>Bh K.1 h.ak (by decide) e.symm);have S:d<w.heap.size:=(h.row.lt d m).2;have R:V'.ownBlock≠Bs d:=fun e=>by
  rcases z.2 with p|⟨b,p,a⟩
  ·exact ES h.row K.1 (by decide) m (by rw[<- p];exact e)
  ·rw[p] at e;injection e with e;omega
 have t:=Fr.a6 d w' (i*3) V';have Z:Fr (fun b=>Bs b=x.V.ownBlock\/Bs b=V.ownBlock) w (w'.setCell ⟨d,i*3,B0⟩ V'):=(z.1.mono (fun b _ e=>.inl e)).trans' t (fun b _ (e:b=d)=>.inr (by rw[e,m]));refine⟨⟨?_,?_,fun y E=>?_,?_⟩,Z,fun b a=>?_⟩
 ·exact t.ak D (fun e=>Bh h.row h.ak (by decide) (by rw[m];exact congrArg Bs e.symm))
 ·have:=f;rw[U] at this ⊢;rw[XS,<- Qn L i x V' (x.t.ops++[o]) A];exact(this.stored _ _).1
 ·rcases q9y A E with rfl|⟨j,J,e⟩
  rotate_left
  ·have u:=S2 J;have v:∀ b,y.V.ownBlock=Bs b->x.V.ownBlock≠Bs b:=fun b a=>h.apart j i y x J A e b a
   have W:=z.1.own (h.ops y u).1 (fun b a e=>v b a e.symm);exact⟨t.own W (fun b a (e:b=d)=>ES W f (by decide) a (by rw[m,e])),by have:=(h.ops y u).2.1;omega,(h.ops y u).2.2⟩
  ·refine⟨?_,by have:=K.2.1;simp;omega,fun q hq=>?_⟩
   ·have:=t.own Y (fun b a (e:b=d)=>R (by rw[a,e]));simpa [VS,WG] using this
   ·trivial
 ·refine Gl A h.apart (fun j y J v b a=>?_);rcases z.2 with p|⟨X,p,O⟩
  ·exact h.apart i j x y A J (Ne.symm v) b (by rw[<- p];exact a)
  ·intro M;have e3:X=b:=by
    have:V'.ownBlock=Bs b:=a;rw[p] at this;injection this
   have:=((h.ops y (S2 J)).1.lt b M).2;omega
 ·rcases a with a|a|⟨y,E,a⟩
  ·exact .inl (.inl a)
  ·exact .inl (.inr (.inl a))
  ·rcases List.mem_or_eq_of_mem_set E with E|rfl
   ·exact .inl (.inr (.inr ⟨y,E,a⟩))
   ·rcases z.2 with p|⟨X,p,O⟩
    ·exact .inl (.inr (.inr ⟨x,I,by rw[<- p];exact a⟩))
    ·have a:V'.ownBlock=Bs b:=a;rw[p] at a;injection a with a;exact .inr (by omega)
def BU.setTo (h:BU w g gh V L now safe nodes B) {cap:Nat} {x:DY} (A:L[i]? = Bs x) (E:V=.slice (Bs ⟨k,0,B0⟩) L.length cap) (v:Int) :
  BU (w.setCell ⟨k,i*3+2,B0⟩ (.int .i64 v)) g gh V (L.set i ⟨{ x.t with a4:=v },x.V⟩) now safe nodes B/\Fr (fun b=>Bs b=V.ownBlock) w (w.setCell ⟨k,i*3+2,B0⟩ (.int .i64 v))/\
   ∀ b,DB g V (L.set i ⟨{ x.t with a4:=v },x.V⟩) b->DB g V L b:=by
 have m:=S2 A;have t:V.ownBlock=Bs k:=by rw[E];rfl
 have p:=Fr.a6 k w (i*3+2) (.int .i64 v);have d:∀ y∈L,(w.setCell ⟨k,i*3+2,B0⟩ (.int .i64 v)).ownsRow 0 56 4 y.V y.t.ops.length (y.t.ops.flatMap q7n):=fun y u=>p.own (h.ops y u).1 (fun b a (e:b=k)=>ES (h.ops y u).1 h.row (by decide) a (by rw[t,e]))
 refine⟨⟨?_,?_,fun y u=>?_,?_⟩,p.mono (fun b _ (e:b=k)=>by rw[e,t]),fun b a=>?_⟩
 ·exact p.ak h.ak (fun e=>Bh h.row h.ak (by decide) (by rw[t];exact congrArg Bs e.symm))
 ·have:=h.row;rw[E] at this ⊢;rw[XS,<- Qm L i x v A];exact(this.stored _ _).1
 ·rcases q9y A u with rfl|⟨j,z,e⟩
  ·exact⟨d x m,(h.ops x m).2⟩
  ·exact⟨d y (S2 z),(h.ops y (S2 z)).2⟩
 ·exact Gl A h.apart (fun j y z D b a=>h.apart i j x y A z (Ne.symm D) b a)
 ·rcases a with a|a|⟨y,u,a⟩
  ·exact .inl a
  ·exact .inr (.inl a)
  ·rcases q9y A u with rfl|⟨j,z,e⟩
   ·exact .inr (.inr ⟨x,m,a⟩)
   ·exact .inr (.inr ⟨y,S2 z,a⟩)
def BU.cE (h:BU w g gh V L now safe nodes B) {D:Int} (z:Av w w' V.ownBlock V'.ownBlock)
  (E:w'.ownsRow 0 52 3 V' (L.length+1) (L.flatMap Ol++[.slice B0 0 0,.int .i64 D,.int .i64 (-1)])) :
  BU (w'.setCell ⟨g,1,B0⟩ V') g gh V' (L++[⟨⟨[],D,-1⟩,.slice B0 0 0⟩]) now safe nodes B/\Fr (fun b=>Bs b=V.ownBlock\/b=g) w (w'.setCell ⟨g,1,B0⟩ V')/\
   ∀ b,DB g V' (L++[⟨⟨[],D,-1⟩,.slice B0 0 0⟩]) b->DB g V L b\/w.heap.size<=b:=by
 have d:=z.1.ak h.ak (fun e=>Bh h.row h.ak (by decide) e.symm);have m:=Fr.a6 g w' 1 V';have O:(WM B0 0 0).ownBlock=B0:=rfl;refine⟨⟨d.aH 1 _,?_,fun y f=>?_,?_⟩,(z.1.mono (fun b _ e=>.inl e)).trans' m (fun b _ e=>.inr e),fun b a=>?_⟩
 ·have:=m.own E (fun b a (e:b=g)=>Bh E d (by decide) (by rw[a,e]));rw[VS,WG];exact this
 ·rcases List.mem_append.1 f with f|f
  ·have I:=z.1.own (h.ops y f).1 (fun b a e=>ES (h.ops y f).1 h.row (by decide) a e.symm);exact⟨m.own I (fun b a (e:b=g)=>Bh I d (by decide) (by rw[a,e])),(h.ops y f).2⟩
  ·rw[List.mem_singleton.1 f];exact⟨VZ _ _ _ _,VN _,fun o K=>(by cases K)⟩
 ·intro i j x y v u A b a p;rw[List.getElem?_append] at v u;by_cases J:i<L.length
  ·rw[if_pos J] at v;by_cases t:j<L.length
   ·rw[if_pos t] at u;exact h.apart i j x y v u A b a p
   ·rw[if_neg t] at u;have:=S2 u;rw[List.mem_singleton.1 this] at p;cases p
  ·rw[if_neg J] at v;have:=S2 v;rw[List.mem_singleton.1 this] at a;cases a
 ·rcases a with a|a|⟨y,f,a⟩
  ·exact .inl (.inl a)
  ·rcases z.2 with t|⟨R,t,M⟩
   ·exact .inl (.inr (.inl (by rw[<- t];exact a)))
   ·rw[t] at a;injection a with a;exact .inr (by omega)
  ·rcases List.mem_append.1 f with f|f
   ·exact .inl (.inr (.inr ⟨y,f,a⟩))
   ·rw[List.mem_singleton.1 f] at a;cases a
end
structure ActX where
 aD:Int
 tx:Int
 a:Int
 val:ByteArray
def Bi (T:List AZ) (tx:Int):Int:=if T.length=0 then 0 else((1+Aw tx T.length:Nat):Int)
def AY (a:Int):Sx:=names.getD (Aw a 4) []
def CI (v:ByteArray):ByteArray:=if 9<v.size then v.extract 0 9 else v
def Ey (T:List AZ) (id:Int) (o:Mz):List AZ:=match T[id.toNat-1]? with
 | some t=>if 0<id then T.set (id.toNat-1) { t with ops:=t.ops++[o] } else T
 | none=>T
def Hs.bq (H:Hs) (safe:Bool) (s j:Nat):Hs:=if 1<((H.sh s).ah H.n).length\/safe=Jx then H.fail (10*s+j) else H
def opG (a:Int) (r:(Int×Sx×Bool)×Hs):Mz:=⟨1,⟨(AY a).toArray⟩,⟨r.1.2.1.toArray⟩,r.1.2.2⟩
def opP (x:ActX):Mz:=⟨x.aD,⟨(AY x.a).toArray⟩,CI x.val,Jx⟩
def PE (x:ActX):Pr:=⟨⟨(AY x.a).toArray⟩,CI x.val,x.aD == 3⟩
inductive Ba (safe:Bool) (nodes:Nat) (now:Int) (x:ActX) (H:Hs) (T:List AZ):Hs->List AZ->Prop where
 | begin (h:x.aD=0) (h7:T.length<7):Ba safe nodes now x H T H.begin (T++[⟨[],now,-1⟩])
 | full (h:x.aD=0) (h7:¬T.length<7):Ba safe nodes now x H T H T
 | get (h:x.aD=1) (he:(H.get (Bi T x.tx) (AY x.a)).1.1=0):Ba safe nodes now x H T (H.get (Bi T x.tx) (AY x.a)).2 (Ey T (Bi T x.tx) (opG x.a (H.get (Bi T x.tx) (AY x.a))))
 | getE (h:x.aD=1) (he:(H.get (Bi T x.tx) (AY x.a)).1.1≠0):Ba safe nodes now x H T (H.get (Bi T x.tx) (AY x.a)).2 T
 | put (h:x.aD=2\/x.aD=3) (he:(H.put (Bi T x.tx) (PE x)).1=0):Ba safe nodes now x H T (H.put (Bi T x.tx) (PE x)).2 (Ey T (Bi T x.tx) (opP x))
 | putE (h:x.aD=2\/x.aD=3) (he:(H.put (Bi T x.tx) (PE x)).1≠0):Ba safe nodes now x H T (H.put (Bi T x.tx) (PE x)).2 T
 | ends (h:x.aD=4) {e:Int} {H':Hs} (r:Hz H (Bi T x.tx) e H'):Ba safe nodes now x H T H' T
 | drop (h:x.aD=5) (h4:x.a.tmod 4=0):Ba safe nodes now x H T (H.drop (Bi T x.tx)).2 T
 | dropE (h:x.aD=5) (h4:x.a.tmod 4≠0):Ba safe nodes now x H T H T
 | deliver (h:x.aD=6) (hn:0<H.net.l.length) {H':Hs} (r:Pu H (Aw x.a H.net.l.length) H'):Ba safe nodes now x H T H' T
 | lose (h:x.aD=7) (hn:0<H.net.l.length):Ba safe nodes now x H T (H.lose (Aw x.a H.net.l.length)) T
 | twice (h:x.aD=8) (hn:0<H.net.l.length):Ba safe nodes now x H T (H.twice (Aw x.a H.net.l.length)) T
 | none (h:6<=x.aD/\x.aD<=8) (hn:¬0<H.net.l.length):Ba safe nodes now x H T H T
 | tick (h:x.aD=9) {H':Hs} (r:DX H H'):Ba safe nodes now x H T H' T
 | fail (h:x.aD=10):Ba safe nodes now x H T (H.bq safe (Aw x.a 3) (Aw x.tx nodes)) T
 | fix (h:x.aD=11) {H':Hs} (r:E8 H H'):Ba safe nodes now x H T H' T
 | calm (h:x.aD=12) {H':Hs} (r:Cd 4 H H'):Ba safe nodes now x H T H' T
 | other (h:x.aD<0\/12<x.aD):Ba safe nodes now x H T H T
def Vf (H:Hs) (now:Int) (i:Nat) (t:AZ):AZ:=if t.a4<0/\H.state (i+1)=3 then { t with a4:=now } else t
def B9 (H:Hs) (now:Int) (T:List AZ):List AZ:=T.mapIdx (Vf H now)
def QN (a:Int):AY a∈names:=by
 have h:=K9 a (n:=4) (by omega);unfold AY;rw[List.getD_eq_getElem?_getD];have:Aw a 4<names.length:=h;rw[L1 this];exact Wv this
def T5 (a:Int):names[Aw a 4]? = Bs (AY a):=by
 have h:Aw a 4<names.length:=K9 a (n:=4) (by omega);unfold AY;rw[List.getD_eq_getElem?_getD,L1 h];rfl
def Gi (v:ByteArray):(CI v).size<=9:=by
 unfold CI;split
 ·rw[ByteArray.size_extract];omega
 ·omega
def RC (T:List AZ) (tx:Int):0<=Bi T tx/\Bi T tx<=T.length:=by
 unfold Bi;split
 ·omega
 ·have:=K9 tx (n:=T.length) (by omega);omega
section
variable {H H':Hs}
def RG (a:Wf H) (e:H.c=3) (id:Int) {k:Sx} (d:k∈names):Sm H (H.get id k).2:=by
 have h:=(QO (id:=id) (mode:=1) a e d (by unfold Br;omega)).sm;unfold Hs.get;simp only;split
 ·exact h
 ·split <;> exact h
def QU (a:Wf H) (e:H.c=3) (id:Int) (d:sx p.key∈names):Sm H (H.put id p).2:=by
 unfold Hs.put;split
 ·exact .refl _
 ·have h:=(QO (id:=id) (mode:=2) a e d (by unfold Br;omega)).sm;simp only;split
  ·exact h
  ·split
   ·exact⟨h.n,h.c,h.m⟩
   ·exact h
def fix_sm {B:Int} (h:Ad H B) (d:B<=999000) (r:E8 H H'):Sm H H':=by
 have e:=h.a9 (s:=0) (by omega) (by omega);have t:=e.1.a9 (s:=1) (by omega) (by omega);have a:∀ {H:Hs} {B:Int} (s:Nat),s<3->Ad H B->B<=1000000->Sm H (H.a9 s):=fun {H B} s hs h d=>by
  unfold Hs.a9;split
  ·exact .refl _
  ·obtain⟨_,_,_,f⟩:=h.fix d hs;exact⟨f.n,f.c,f.m⟩
 have g:=qab r h d;have k0:=a 0 (by omega) h (by omega);have p:=a 1 (by omega) e.1 (by omega);have m:=a 2 (by omega) t.1 (by omega);exact((k0.trans p).trans m).trans g.sm
def Gm (T:List AZ) (id:Int) (o:Mz):(Ey T id o).length=T.length:=by
 unfold Ey;split
 ·split
  ·exact XS
  ·rfl
 ·rfl
def Ba.cnt {safe:Bool} {nodes:Nat} {now:Int} {x:ActX} {T T':List AZ} {B:Int} (h:Ba safe nodes now x H T H' T') (m:Ad H B) (u:B<=999000) (t:H.m=T.length) (v:T.length<=7):H'.m=T'.length/\T'.length<=7/\H'.n=H.n:=by
 have d:=m.wf;have f:=m.c;have a:∀ {H2:Hs} {p:List AZ},Sm H H2->p.length=T.length->H2.m=p.length/\p.length<=7/\H2.n=H.n:=fun s e=>⟨by rw[s.m,e];exact t,by omega,s.n⟩
 cases h with
 | begin _ y=>exact⟨by show H.m+1=_;rw[t];simp,by simp;omega,rfl⟩
 | full|none|dropE|other=>exact a (.refl _) rfl
 | get=>exact a (RG d f _ (QN _)) (Gm _ _ _)
 | getE=>exact a (RG d f _ (QN _)) rfl
 | put=>exact a (QU d f _ (QN _)) (Gm _ _ _)
 | putE=>exact a (QU d f _ (QN _)) rfl
 | ends _ r=>
  refine a ?_ rfl;cases r with
  | missing=>exact .refl _
  | state=>exact .refl _
  | waits=>exact .refl _
  | ends h A z r=>
   have:=(q2m r (d.ending (by omega) (by omega)) f).sm;exact⟨this.n,this.c,this.m⟩
 | drop=>exact a (Gf _).sm rfl
 | deliver _ _ r=>exact a (q5n r d f).sm rfl
 | lose=>exact a ⟨rfl,rfl,rfl⟩ rfl
 | twice=>
  refine a ?_ rfl;unfold Hs.twice;split <;> exact⟨rfl,rfl,rfl⟩
 | tick _ r=>exact a (q95 r d f).sm rfl
 | fail=>
  refine a ?_ rfl;unfold Hs.bq Hs.fail;split
  ·split <;> exact⟨rfl,rfl,rfl⟩
  ·exact .refl _
 | fix _ r=>exact a (fix_sm m u r) rfl
 | calm _ r=>exact a (qai r d f).sm rfl
def F7 (H:Hs) (now:Int) (T:List AZ):(B9 H now T).length=T.length:=by unfold B9;simp
end
def Uv (w:D0) (own:Ah) (F:Nat->Prop) (g r o k:Nat) (safe:Bool) (nodes:Int) (R:Hs->List AZ->Int->Nat->Prop) (e:Ending) (w':D0):Prop:=
 e=.returned (.tuple #[])/\∃ own' P' d H' T' a B',CV w' own' P' d g r o k H' T' a safe nodes B'/\Gr w own F w' own' d/\R H' T' a B'
section
variable {w w':D0} {own own':Ah} {P:Aq} {F:Nat->Prop} {g r o k:Nat} {H:Hs} {T:List AZ} {now nodes:Int} {safe:Bool} {B:Nat}
def CV.cells (c:CV w own P F g r o k H T now safe nodes B):∃ V L,BU w g P.g V L now safe nodes B/\L.map (·.t)=T/\(∀ b,DB g V L b->F b)/\w.cell? ⟨g,0,B0⟩=Bs (pw P.g)/\w.cell? ⟨g,1,B0⟩=Bs V/\w.cell? ⟨g,2,B0⟩=Bs (.int .i64 now)/\w.cell? ⟨g,3,B0⟩=Bs (.bool safe)/\w.cell? ⟨g,4,B0⟩=Bs (.int .i64 nodes)/\g<w.heap.size:=by
 obtain⟨V,L,a,e,d⟩:=c.st;exact⟨V,L,a,e,d,a.cells⟩
def O9 (c:CV w own P F g r o k H T now safe nodes B) (J:Wf H) (hc:H.c=3) (hs:s<3) (hj:j<10):VY Tryz.prog 32 #[pw g,.int .i64 s,.int .i64 j] w
  (Uv w own F g r o k safe nodes fun H' T' a B'=>H'=H.bq safe s j/\T'=T/\a=now/\B'=B):=by
 obtain⟨V,L,M,hT,hF,c0,c1,c2,c3,c4,K⟩:=c.cells;have U:=LH (Rp c.hi J hc hs);have HC:=LH c;have S:=LH J;have a2:((H.sh s).ah H.n).length<=4:=by have:=U3 (H.sh s) H.n;have:=J.n4;omega
 clear c M hT hF J c1 c2 c4;unfold So NB at U;unfold pw at *;go_enter Tryz.func32,Tryz.ntmps32;go_wp2_with fail;refine U.o.mono ?_;rintro e w1 ⟨V1,z,rfl,Z,d⟩;obtain⟨A1,k1,rfl,_,_⟩:=AR d.1;obtain⟨v,A⟩:=HC.o.below d.2.2;have d3:=(d.2.2.cell (p:=⟨g,3,B0⟩) K).trans c3;have d0:=(d.2.2.cell (p:=⟨g,0,B0⟩) K).trans c0;have a3:=VL K d.2.2.size;have I:=LH v;have D:=LH A;have x:=LH (RT v.hi S.o hc (10*(s:Int)+j));clear v A d c3 c0 K U HC;have a1:z.length<=4:=by omega
 by_cases y:1<((H.sh s).ah H.n).length\/safe=Jx
 ·have f:H.bq safe s j=H.fail (10*(s:Int)+j):=if_pos y;have X:=LH f;have Y:IntKind.i64.wrap (10*(s:Int))=10*(s:Int):=V4 _ ⟨by omega,by omega⟩;have a0:IntKind.i64.wrap (10*(s:Int)+j)=10*(s:Int)+j:=V4 _ ⟨by omega,by omega⟩;unfold E9 pw at x;have h:∀ W,BZ P own (H.fail (10*(s:Int)+j)) w1 W->Uv w own F g r o k safe nodes (fun H' T' a B'=>H'=H.bq safe s j/\T'=T/\a=now/\B'=B) (.returned (.tuple #[])) W:=fun W u=>by
   obtain⟨own2,R,O⟩:=I.o.c7 u;exact⟨rfl,own2,P,F,_,T,now,B,R,D.o.trans O,X.o.symm,rfl,rfl,rfl⟩
  have m:=LH h;clear f h;by_cases h1:1<z.length
  ·have hd:decide ((1:Int)<z.length)=VJ:=decide_eq_true (by omega);go_wp2_with fail;refine x.o.mono ?_;rintro e w2 ⟨rfl,u⟩;have E:=LH (m.o w2 u);clear u;go_wp2_with fail
   go_end0
   exact E.o
  ·have hd:decide ((1:Int)<z.length)=Jx:=decide_eq_false (by omega);have t:safe=Jx:=y.elim (fun e=>absurd e (by omega)) id;subst t;go_wp2_with fail;refine x.o.mono ?_;rintro e w2 ⟨rfl,u⟩;have E:=LH (m.o w2 u);clear u;go_wp2_with fail
   go_end0
   exact E.o
 ·have f:H.bq safe s j=H:=if_neg y;have h1:¬1<z.length:=fun e=>y (.inl (by omega))
  have hd:decide ((1:Int)<z.length)=Jx:=decide_eq_false (by omega);have t:safe=VJ:=by cases safe with
   | true=>rfl
   | false=>exact absurd (.inr rfl) y
  have E:=LH (show Uv w own F g r o k safe nodes (fun H' T' a B'=>H'=H.bq safe s j/\T'=T/\a=now/\B'=B) (.returned (.tuple #[])) w1 from⟨rfl,own,P,F,H,T,now,B,I.o,D.o,f.symm,rfl,rfl,rfl⟩);clear f y;subst t;go_wp2_with fail
  go_end0
  exact E.o
end
def Mu (x:ActX):O0:=.agg #[.int .i64 x.aD,.int .i64 x.tx,.int .i64 x.a,.string x.val]
def Ez (x:ActX):Array O0:=#[.int .i64 x.aD,.int .i64 x.tx,.int .i64 x.a,.string x.val]
def DQ (w:D0) (own:Ah) (P:Aq) (F:Nat->Prop) (g r o k:Nat) (H:Hs) (T:List AZ) (now:Int) (safe:Bool) (nodes:Int) (B a:Nat) (x:ActX) (W:D0):Prop:=
 ∃ d,CV W own P d g r o k H T now safe nodes B/\Gr w own F W own d/\Ae W a 34 (Ez x)/\own a=B0/\¬d a
def Dc (w:D0) (own:Ah) (F:Nat->Prop) (g r o k:Nat) (H:Hs) (T:List AZ) (now:Int) (safe:Bool) (nodes:Nat) (B:Nat) (x:ActX) (W:D0):Prop:=
 ∃ own' P' a H' T' B',CV W own' P' a g r o k H' T' now safe nodes B'/\Gr w own F W own' a/\Ba safe nodes now x H T H' T'/\B'<=B+1
section
variable {w w':D0} {own own':Ah} {P:Aq} {F:Nat->Prop} {g r o k:Nat} {H:Hs} {T:List AZ} {now:Int} {nodes:Nat} {safe:Bool} {B:Nat}
def DQ.below {nodes:Int} {m:Nat} {x:ActX} {W p:D0} (h:DQ w own P F g r o k H T now safe nodes B m x W) (f:VP W.heap.size W p):DQ w own P F g r o k H T now safe nodes B m x p:=by
 obtain⟨v,a,b,c,d,e⟩:=h;obtain⟨u,t⟩:=a.below f;exact⟨v,u,b.trans t,(DG f).ak c (fun hs=>by have:=c.lt;omega),d,e⟩
def DQ.start {nodes:Int} (c:CV w own P F g r o k H T now safe nodes B) (x:ActX) (v:Int):DQ w own P F g r o k H T v safe nodes B w.heap.size x ((w.setCell ⟨g,2,B0⟩ (.int .i64 v)).alloc (.cells (Ez x) 34)):=by
 obtain⟨V,L,y,u,f⟩:=c.st;obtain⟨t,p⟩:=y.hour v;obtain⟨A,m⟩:=c.cB p (fun b a e=>f b (.inl e)) t u (fun b a=>.inl (f b a));have d:(w.setCell ⟨g,2,B0⟩ (.int .i64 v)).heap.size=w.heap.size:=by simp
 obtain⟨z,h⟩:=A.below ((VK (w.setCell ⟨g,2,B0⟩ (.int .i64 v)).heap.size (w.setCell ⟨g,2,B0⟩ (.int .i64 v))).alloc (K0 _) (.cells (Ez x) 34));have a:=Ae.new (w.setCell ⟨g,2,B0⟩ (.int .i64 v)) 34 (Ez x);rw[d] at a;refine⟨_,z,m.trans h,a,c.hi.free (K0 _),fun e=>?_⟩;have e:F w.heap.size:=e.elim id (f _);exact Nat.lt_irrefl _ (c.Fl _ e)
def acts (W:D0) (a:Nat) (x:ActX) (h:Ae W a 34 (Ez x)):W.cell? ⟨a,0,B0⟩=Bs (.int .i64 x.aD)/\W.cell? ⟨a,1,B0⟩=Bs (.int .i64 x.tx)/\W.cell? ⟨a,2,B0⟩=Bs (.int .i64 x.a)/\W.cell? ⟨a,3,B0⟩=Bs (.string x.val)/\a<W.heap.size:=by
 have m:=h.cell 0;have f:=h.cell 1;have e:=h.cell 2;have d:=h.cell 3;unfold Ez at m f e d;simp only[Hi,Ft,N2] at m f e d;exact⟨m,f,e,d,h.lt⟩
def idT_0 {T:List AZ} (h:T.length=0):Bi T tx=0:=if_pos h
def idT_1 {T:List AZ} (h:T.length≠0):Bi T tx=1+(Aw tx T.length:Int):=by unfold Bi;rw[if_neg h];omega
end
def lkF:List O0->Nat->O0
 | [],_=>Yq
 | v::_,0=>v
 | _::l,k+1=>lkF l k
def Ek (s0 s1 s3 s4 s5:O0) (u:Nat->O0):Act:={ tmps:=#[s0,s1,Yq,s3,s4,s5,u 6,u 7,u 8,u 9,u 10,u 11,u 12,u 13,Yq,u 15,u 16,u 17,u 18,u 19,u 20,u 21,u 22,u 23,u 24,u 25,u 26,u 27,u 28,u 29,u 30,u 31,u 32,u 33,u 34,u 35,u 36,u 37,u 38,u 39,u 40,u 41,u 42,u 43,u 44,u 45,u 46,u 47,u 48,u 49,u 50,u 51,u 52,u 53,u 54,u 55,u 56,u 57,u 58,u 59,u 60,u 61,u 62,u 63,u 64,u 65,u 66,u 67,u 68,u 69,u 70,u 71,u 72,u 73,u 74,u 75,u 76,u 77,u 78,u 79,u 80,u 81,u 82,u 83,u 84,u 85,u 86,u 87,u 88,u 89,u 90,u 91,u 92,u 93,u 94,u 95,u 96,u 97,u 98,u 99,u 100,u 101,u 102,u 103,u 104,u 105,u 106,u 107,u 108,u 109,u 110,u 111,u 112,u 113,u 114,u 115,u 116,u 117,u 118,u 119,u 120,u 121,u 122,u 123,u 124,u 125,u 126,u 127,u 128,u 129,u 130,u 131,u 132,u 133,u 134,u 135,u 136,u 137,u 138,u 139,u 140,u 141,u 142,u 143,u 144,u 145,u 146,u 147,u 148,u 149,u 150,u 151,u 152,u 153,u 154,u 155,u 156,u 157,u 158,u 159,u 160,u 161,u 162,u 163,u 164,u 165,u 166,u 167,u 168,u 169,u 170,u 171,u 172,u 173,u 174,u 175,u 176,u 177,u 178,u 179,u 180,u 181,u 182,u 183,u 184,u 185,u 186,u 187,u 188,u 189,u 190,u 191,u 192,u 193,u 194,u 195,u 196,u 197,u 198,u 199,u 200,u 201,u 202,u 203,u 204,u 205,u 206,u 207,u 208,u 209,u 210,u 211,u 212,u 213,u 214,u 215,u 216,u 217,u 218,u 219,u 220,u 221,u 222,u 223,u 224,u 225,u 226,u 227,u 228,u 229,u 230,u 231,u 232,u 233,u 234,u 235,u 236,u 237,u 238,u 239,u 240,u 241,u 242,u 243,u 244,u 245,u 246,u 247,u 248,u 249,u 250,u 251,u 252,u 253,u 254,u 255,u 256,u 257,u 258,u 259,u 260,u 261,u 262,u 263,u 264,u 265,u 266,u 267,u 268,u 269,u 270,u 271,u 272,u 273,u 274,u 275,u 276,u 277,u 278,u 279,u 280,u 281,u 282,u 283,u 284,u 285,u 286,u 287,u 288,u 289,u 290,u 291,u 292,u 293,u 294,u 295,u 296,u 297,u 298,u 299,u 300,u 301,u 302,u 303,u 304,u 305,u 306,u 307,u 308,u 309,u 310,u 311,u 312,u 313,u 314,u 315,u 316,u 317,u 318],defers:=[] }
def Ap (s0 s1 s3 s4 s5:O0) (a:Act):Prop:=∃ u,a=Ek s0 s1 s3 s4 s5 u
def Ap.mk' (t:Array O0) (h:({ tmps:=t,defers:=[] } : Act)=Ek V' s1 s3 V s5 (fun k=>lkF t.toList k)):Ap V' s1 s3 V s5 { tmps:=t,defers:=[] }:=⟨_,h⟩
def cL:Code->Code | .seq a _=>a|c=>c
def cR:Code->Code | .seq _ b=>b|c=>c
def cT:Code->Code | .cond _ a _=>a|c=>c
def cE:Code->Code | .cond _ _ b=>b|c=>c
def cB:Code->Code | .block _ b=>b|c=>c
noncomputable def GV:Code:=(Tryz.f10.body).getD .skip
noncomputable def FL:Code:=cR (cR (cR (cR (cR GV))))
noncomputable def BB:Code:=cR (cL FL)
noncomputable def E6:Code:=cB BB
noncomputable def FO:Code:=cE (cR E6)
noncomputable def EV:Code:=cE (cR FO)
noncomputable def FN:Code:=cE (cR EV)
noncomputable def E5:Code:=cE (cR FN)
noncomputable def En:Code:=cE (cR E5)
noncomputable def FM:Code:=cE (cR En)
noncomputable def CA:Code:=cE (cR FM)
noncomputable def Cy:Code:=cE (cR CA)
noncomputable def CG:Code:=cE (cR Cy)
noncomputable def wy (c:Code):Code:=cT (cR c)
section
variable {w w':D0} {own own':Ah} {P:Aq} {F:Nat->Prop} {g r o k:Nat} {H:Hs} {T:List AZ} {now:Int} {nodes:Nat} {safe:Bool} {B:Nat}
def S4 {x:ActX} {S:Act} (O:DQ w own P F g r o k H T now safe nodes B i x W) (v:Ad H Z) (a1:Z<=999000) (hx:x.aD=4)
  (h0:Ap (pw g) s1 (pw i) (.int .i64 (Bi T x.tx)) s5 S) (R:∀ U X,Ap (pw g) s1 (pw i) (.int .i64 (Bi T x.tx)) s5 U->Dc w own F g r o k H T now safe nodes B x X->Q .normal U X):Yh Tryz.prog (wy FN) Q S W:=by
 have a2:=LH O;obtain⟨F2,a,m,t,y,E⟩:=O;obtain⟨V2,L2,f,z,D,c0,c1,c2,_,c4,gl⟩:=a.cells;obtain⟨x0,x1,x2,x3,xl⟩:=acts _ _ _ t;have M:=LH a;have K:=LH m;have HA:=LH v;have HQ:=LH R;have Y:=LH (Hj a.hi v.wf v.c (Bi T x.tx));clear x0 x1 x2 x3 c1 c2 c4;obtain⟨u,rfl⟩:=h0;clear a m t y E R v f z D;unfold pw Ek at *;simp only[wy,CG,Cy,CA,FM,En,E5,FN,EV,FO,E6,BB,FL,GV,cL,cR,cT,cE,cB,Tryz.f10,Xg];go_wp2_with fail;refine Y.o.mono ?_;rintro e w3 ⟨er,H3,rfl,I,A⟩;obtain⟨d,p,h⟩:=M.o.c7 A;have HX:=LH (show Dc w own F g r o k H T now safe nodes B x w3 from⟨d,P,F2,H3,T,B,p,K.o.trans h,.ends hx I,WT _⟩);clear p h Y;go_wp2_with fail;exact HQ.o _ _ (Ap.mk' _ rfl) HX.o
def PT {x:ActX} {S:Act} (O:DQ w own P F g r o k H T now safe nodes B i x W) (v:Ad H Z) (a1:Z<=999000) (hx:x.aD=9)
  (h0:Ap (pw g) s1 (pw i) (.int .i64 (Bi T x.tx)) s5 S) (R:∀ U X,Ap (pw g) s1 (pw i) (.int .i64 (Bi T x.tx)) s5 U->Dc w own F g r o k H T now safe nodes B x X->Q .normal U X):Yh Tryz.prog (wy FM) Q S W:=by
 have a2:=LH O;obtain⟨F2,a,m,t,y,E⟩:=O;obtain⟨V2,L2,f,z,D,c0,c1,c2,_,c4,gl⟩:=a.cells;obtain⟨x0,x1,x2,x3,xl⟩:=acts _ _ _ t;have M:=LH a;have K:=LH m;have HA:=LH v;have HQ:=LH R;have Y:=LH (F9 a.hi v.wf v.c);clear x0 x1 x2 x3 c1 c2 c4;obtain⟨u,rfl⟩:=h0;clear a m t y E R v f z D;unfold pw Ek at *;simp only[wy,CG,Cy,CA,FM,En,E5,FN,EV,FO,E6,BB,FL,GV,cL,cR,cT,cE,cB,Tryz.f10,Xg];go_wp2_with fail;refine Y.o.mono ?_;rintro e w3 ⟨rfl,H3,I,A⟩;obtain⟨d,p,h⟩:=M.o.c7 A;have HX:=LH (show Dc w own F g r o k H T now safe nodes B x w3 from⟨d,P,F2,H3,T,B,p,K.o.trans h,.tick hx I,WT _⟩);clear p h Y;go_wp2_with fail;exact HQ.o _ _ (Ap.mk' _ rfl) HX.o
def S3 {K:Nat} {x:ActX} {U:Act} (R:DQ w own P F g r o k H T now safe nodes B K x W) (y:Ad H Bd) (J:Bd<=999000) (hx:x.aD=11)
  (h0:Ap (pw g) s1 (pw K) (.int .i64 (Bi T x.tx)) s5 U) (S:∀ X Y,Ap (pw g) s1 (pw K) (.int .i64 (Bi T x.tx)) s5 X->Dc w own F g r o k H T now safe nodes B x Y->Q .normal X Y):Yh Tryz.prog (wy Cy) Q U W:=by
 have a1:=LH R;obtain⟨F2,a,m,t,v,E⟩:=R;obtain⟨V2,L2,f,z,D,c0,c1,c2,_,c4,gl⟩:=a.cells;obtain⟨x0,x1,x2,x3,xl⟩:=acts _ _ _ t;have O:=LH a;have M:=LH m;have HA:=LH y;have HQ:=LH S;have Z:=LH (O1 a.hi y J a.ns);clear x0 x1 x2 x3 c1 c2 c4;obtain⟨u,rfl⟩:=h0;clear a m t v E S y f z D;unfold pw Ek at *;simp only[wy,CG,Cy,CA,FM,En,E5,FN,EV,FO,E6,BB,FL,GV,cL,cR,cT,cE,cB,Tryz.f10,Xg];go_wp2_with fail;refine Z.o.mono ?_;rintro e w3 ⟨rfl,H3,I,A⟩;obtain⟨d,p,h⟩:=O.o.c7 A;have HX:=LH (show Dc w own F g r o k H T now safe nodes B x w3 from⟨d,P,F2,H3,T,B,p,M.o.trans h,.fix hx I,WT _⟩);clear p h Z;go_wp2_with fail;exact HQ.o _ _ (Ap.mk' _ rfl) HX.o
def PX {x:ActX} {S:Act} (O:DQ w own P F g r o k H T now safe nodes B i x W) (v:Ad H Z) (a1:Z<=999000) (hx:x.aD=12)
  (h0:Ap (pw g) s1 (pw i) (.int .i64 (Bi T x.tx)) s5 S) (R:∀ U X,Ap (pw g) s1 (pw i) (.int .i64 (Bi T x.tx)) s5 U->Dc w own F g r o k H T now safe nodes B x X->Q .normal U X):Yh Tryz.prog (wy CG) Q S W:=by
 have a2:=LH O;obtain⟨F2,a,m,t,y,E⟩:=O;obtain⟨V2,L2,f,z,D,c0,c1,c2,_,c4,gl⟩:=a.cells;obtain⟨x0,x1,x2,x3,xl⟩:=acts _ _ _ t;have M:=LH a;have K:=LH m;have HA:=LH v;have HQ:=LH R;have Y:=LH (qcy a.hi v.wf v.c);clear x0 x1 x2 x3 c1 c2 c4;obtain⟨u,rfl⟩:=h0;clear a m t y E R v f z D;unfold pw Ek at *;simp only[wy,CG,Cy,CA,FM,En,E5,FN,EV,FO,E6,BB,FL,GV,cL,cR,cT,cE,cB,Tryz.f10,Xg];go_wp2_with fail;refine Y.o.mono ?_;rintro e w3 ⟨rfl,H3,I,A,_,_⟩;obtain⟨d,p,h⟩:=M.o.c7 A;have HX:=LH (show Dc w own F g r o k H T now safe nodes B x w3 from⟨d,P,F2,H3,T,B,p,K.o.trans h,.calm hx I,WT _⟩);clear p h Y;go_wp2_with fail;exact HQ.o _ _ (Ap.mk' _ rfl) HX.o
def NP {x:ActX} {U:Act} (O:DQ w own P F g r o k H T now safe nodes B i x W) (v:Ad H Z) (a3:Z<=999000) (hx:x.aD=5) (S:x.a.tmod 4=0)
  (h0:Ap (pw g) s1 (pw i) (.int .i64 (Bi T x.tx)) s5 U) (R:∀ X Y,Ap (pw g) s1 (pw i) (.int .i64 (Bi T x.tx)) s5 X->Dc w own F g r o k H T now safe nodes B x Y->Q .normal X Y):Yh Tryz.prog (wy E5) Q U W:=by
 have a4:=LH O;obtain⟨F2,a,m,t,y,E⟩:=O;obtain⟨V2,L2,f,z,D,c0,c1,c2,_,c4,gl⟩:=a.cells;obtain⟨x0,x1,x2,x3,xl⟩:=acts _ _ _ t;have M:=LH a;have J:=LH m;have HA:=LH v;have HQ:=LH R;have K:=LH (RX a.hi v.wf v.c (Bi T x.tx));have a1:IntKind.i64.wrap (x.a.tmod 4)=x.a.tmod 4:=V4 _ (by have:=Int.tmod_lt_of_pos x.a (show(0:Int)<4 by omega);have:=Int.lt_tmod_of_pos x.a (show(0:Int)<4 by omega);constructor <;> omega);have a2:(x.a.tmod 4 == 0)=VJ:=by simpa using S
 clear x0 x1 x3 c1 c2 c4;unfold E9 at K;obtain⟨u,rfl⟩:=h0;clear a m t y E R v f z D;unfold pw Ek at *;simp only[wy,CG,Cy,CA,FM,En,E5,FN,EV,FO,E6,BB,FL,GV,cL,cR,cT,cE,cB,Tryz.f10,Xg];go_wp2_with fail;refine K.o.mono ?_;rintro e w3 ⟨rfl,A⟩;obtain⟨d,p,h⟩:=M.o.c7 A;have HX:=LH (show Dc w own F g r o k H T now safe nodes B x w3 from⟨d,P,F2,_,T,B,p,J.o.trans h,.drop hx S,WT _⟩);clear p h K;go_wp2_with fail;exact HQ.o _ _ (Ap.mk' _ rfl) HX.o
def NO {O:Int} {v:Nat} {x:ActX} {J:Act} (A:DQ w own P F g r o k H T now safe nodes B v x W) (D:Ad H O) (Z:O<=999000) (U:x.aD=5) (I:x.a.tmod 4≠0)
  (h0:Ap (pw g) s1 (pw v) (.int .i64 (Bi T x.tx)) s5 J) (E:∀ K M,Ap (pw g) s1 (pw v) (.int .i64 (Bi T x.tx)) s5 K->Dc w own F g r o k H T now safe nodes B x M->Q .normal K M):Yh Tryz.prog (wy E5) Q J W:=by
 have a1:=LH A;obtain⟨F2,a,e,f,h,t⟩:=A;obtain⟨V2,L2,d,m,p,c0,c1,c2,_,c4,gl⟩:=a.cells;obtain⟨x0,S,x2,R,xl⟩:=acts _ _ _ f;have z:=LH a;have y:=LH e;have HA:=LH D;have HQ:=LH E;have X:IntKind.i64.wrap (x.a.tmod 4)=x.a.tmod 4:=V4 _ (by have:=Int.tmod_lt_of_pos x.a (show(0:Int)<4 by omega);have:=Int.lt_tmod_of_pos x.a (show(0:Int)<4 by omega);constructor <;> omega);have Y:(x.a.tmod 4 == 0)=Jx:=by simpa using I
 clear x0 S R c1 c2 c4;obtain⟨u,rfl⟩:=h0;clear a e f h t E D d m p;unfold pw Ek at *;simp only[wy,CG,Cy,CA,FM,En,E5,FN,EV,FO,E6,BB,FL,GV,cL,cR,cT,cE,cB,Tryz.f10,Xg];have HX:=LH (show Dc w own F g r o k H T now safe nodes B x W from⟨own,P,F2,_,T,B,z.o,y.o,.dropE U I,WT _⟩);go_wp2_with fail;exact HQ.o _ _ (Ap.mk' _ rfl) HX.o
def Iw {x:ActX} (Y:DQ w own P F g r o k H T now safe nodes B i x W) (z:Ad H Bd) (a3:Bd<=999000) (X:x.aD=6) (y:0<H.net.l.length)
  (h0:Ap (pw g) s1 (pw i) (.int .i64 (Bi T x.tx)) s5 a0) (Z:∀ a' W',Ap (pw g) s1 (pw i) (.int .i64 (Bi T x.tx)) s5 a'->Dc w own F g r o k H T now safe nodes B x W'->Q .normal a' W'):Yh Tryz.prog (wy En) Q a0 W:=by
 have a4:=LH Y;obtain⟨F2,a,p,v,A,K⟩:=Y;obtain⟨V2,L2,f,E,J,c0,c1,c2,_,c4,gl⟩:=a.cells;obtain⟨x0,x1,x2,x3,xl⟩:=acts _ _ _ v;have U:=LH a;have R:=LH p;have HA:=LH z;have HQ:=LH Z;have HM:=LH (q7b a.hi);have D:H.net.l.length<=200:=a.hi.cw;have S:=LH (Tw x.a H.net.l.length y (by omega) W);have h:=K9 x.a (n:=H.net.l.length) y;have HE:=LH (qae a.hi z.wf z.c h);rw[X] at x0;clear x1 x3 c1 c2 c4 h;unfold pw at HM;obtain⟨u,rfl⟩:=h0;clear a p v A K Z z f E J;unfold pw Ek at *;simp only[wy,CG,Cy,CA,FM,En,E5,FN,EV,FO,E6,BB,FL,GV,cL,cR,cT,cE,cB,Tryz.f10,Xg];have a2:decide ((0:Int)<H.net.l.length)=VJ:=decide_eq_true (by omega);have a1:decide (0<H.net.l.length)=VJ:=decide_eq_true y;go_wp2_with fail;refine HM.o.mono ?_;rintro e w2 ⟨rfl,rfl⟩;go_wp2_with fail;refine S.o.mono ?_;rintro e w2 ⟨rfl,rfl⟩;go_wp2_with fail;refine HE.o.mono ?_;rintro e w3 ⟨rfl,H3,M,I⟩;obtain⟨d,t,m⟩:=U.o.c7 I;have HX:=LH (show Dc w own F g r o k H T now safe nodes B x w3 from⟨d,P,F2,H3,T,B,t,R.o.trans m,.deliver X y M,WT _⟩);clear t m HE;go_wp2_with fail;exact HQ.o _ _ (Ap.mk' _ rfl) HX.o
def PU {K:Nat} {x:ActX} {Z:Act} (U:DQ w own P F g r o k H T now safe nodes B K x W) (X:Ad H Bd) (a3:Bd<=999000) (S:x.aD=7) (y:0<H.net.l.length)
  (h0:Ap (pw g) s1 (pw K) (.int .i64 (Bi T x.tx)) s5 Z) (Y:∀ a' W',Ap (pw g) s1 (pw K) (.int .i64 (Bi T x.tx)) s5 a'->Dc w own F g r o k H T now safe nodes B x W'->Q .normal a' W'):Yh Tryz.prog (wy En) Q Z W:=by
 have a4:=LH U;obtain⟨F2,a,p,v,z,J⟩:=U;obtain⟨V2,L2,f,D,I,c0,c1,c2,_,c4,gl⟩:=a.cells;obtain⟨x0,x1,x2,x3,xl⟩:=acts _ _ _ v;have R:=LH a;have M:=LH p;have HA:=LH X;have HQ:=LH Y;have HM:=LH (q7b a.hi);have A:H.net.l.length<=200:=a.hi.cw;have O:=LH (Tw x.a H.net.l.length y (by omega) W);have h:=K9 x.a (n:=H.net.l.length) y;have HE:=LH (OZ a.hi h);rw[S] at x0;clear x1 x3 c1 c2 c4 h;unfold pw at HM;obtain⟨u,rfl⟩:=h0;clear a p v z J Y X f D I;unfold pw Ek at *;simp only[wy,CG,Cy,CA,FM,En,E5,FN,EV,FO,E6,BB,FL,GV,cL,cR,cT,cE,cB,Tryz.f10,Xg];have a2:decide ((0:Int)<H.net.l.length)=VJ:=decide_eq_true (by omega);have a1:decide (0<H.net.l.length)=VJ:=decide_eq_true y;go_wp2_with fail;refine HM.o.mono ?_;rintro e w2 ⟨rfl,rfl⟩;go_wp2_with fail;refine O.o.mono ?_;rintro e w2 ⟨rfl,rfl⟩;go_wp2_with fail;refine HE.o.mono ?_;rintro e w3 ⟨rfl,E⟩;obtain⟨d,t,m⟩:=R.o.c7 E;have HX:=LH (show Dc w own F g r o k H T now safe nodes B x w3 from⟨d,P,F2,_,T,B,t,M.o.trans m,.lose S y,WT _⟩);clear t m HE;go_wp2_with fail;exact HQ.o _ _ (Ap.mk' _ rfl) HX.o
def NN {x:ActX} {Z:Act} (X:DQ w own P F g r o k H T now safe nodes B i x W) (D:Ad H Bd) (a3:Bd<=999000) (U:x.aD=8) (y:0<H.net.l.length)
  (h0:Ap (pw g) s1 (pw i) (.int .i64 (Bi T x.tx)) s5 Z) (Y:∀ a' W',Ap (pw g) s1 (pw i) (.int .i64 (Bi T x.tx)) s5 a'->Dc w own F g r o k H T now safe nodes B x W'->Q .normal a' W'):Yh Tryz.prog (wy En) Q Z W:=by
 have a4:=LH X;obtain⟨F2,a,p,v,z,K⟩:=X;obtain⟨V2,L2,f,E,J,c0,c1,c2,_,c4,gl⟩:=a.cells;obtain⟨x0,x1,x2,x3,xl⟩:=acts _ _ _ v;have S:=LH a;have O:=LH p;have HA:=LH D;have HQ:=LH Y;have HM:=LH (q7b a.hi);have A:H.net.l.length<=200:=a.hi.cw;have R:=LH (Tw x.a H.net.l.length y (by omega) W);have h:=K9 x.a (n:=H.net.l.length) y;have HE:=LH (LQ a.hi D.wf h);rw[U] at x0;clear x1 x3 c1 c2 c4 h;unfold pw at HM;obtain⟨u,rfl⟩:=h0;clear a p v z K Y D f E J;unfold pw Ek at *;simp only[wy,CG,Cy,CA,FM,En,E5,FN,EV,FO,E6,BB,FL,GV,cL,cR,cT,cE,cB,Tryz.f10,Xg];have a2:decide ((0:Int)<H.net.l.length)=VJ:=decide_eq_true (by omega);have a1:decide (0<H.net.l.length)=VJ:=decide_eq_true y;go_wp2_with fail;refine HM.o.mono ?_;rintro e w2 ⟨rfl,rfl⟩;go_wp2_with fail;refine R.o.mono ?_;rintro e w2 ⟨rfl,rfl⟩;go_wp2_with fail;refine HE.o.mono ?_;rintro e w3 ⟨rfl,I⟩;obtain⟨d,t,m⟩:=S.o.c7 I;have HX:=LH (show Dc w own F g r o k H T now safe nodes B x w3 from⟨d,P,F2,_,T,B,t,O.o.trans m,.twice U y,WT _⟩);clear t m HE;go_wp2_with fail;exact HQ.o _ _ (Ap.mk' _ rfl) HX.o
def q90 {S:Int} {x:ActX} {K:Act} (E:DQ w own P F g r o k H T now safe nodes B i x W) (I:Ad H S) (a1:S<=999000) (Y:6<=x.aD/\x.aD<=8) (Z:¬0<H.net.l.length)
  (h0:Ap (pw g) s1 (pw i) (.int .i64 (Bi T x.tx)) s5 K) (J:∀ M O,Ap (pw g) s1 (pw i) (.int .i64 (Bi T x.tx)) s5 M->Dc w own F g r o k H T now safe nodes B x O->Q .normal M O):Yh Tryz.prog (wy En) Q K W:=by
 have a2:=LH E;obtain⟨F2,a,f,h,m,y⟩:=E;obtain⟨V2,L2,d,t,v,c0,c1,c2,_,c4,gl⟩:=a.cells;obtain⟨x0,X,x2,U,xl⟩:=acts _ _ _ h;have D:=LH a;have A:=LH f;have HA:=LH I;have HQ:=LH J;have R:=LH (q7b a.hi);have p:H.net.l.length<=200:=a.hi.cw;clear x0 X U x2 c1 c2 c4;unfold pw at R;obtain⟨u,rfl⟩:=h0;clear a f h m y J I d t v;unfold pw Ek at *;simp only[wy,CG,Cy,CA,FM,En,E5,FN,EV,FO,E6,BB,FL,GV,cL,cR,cT,cE,cB,Tryz.f10,Xg];have HX:=LH (show Dc w own F g r o k H T now safe nodes B x W from⟨own,P,F2,_,T,B,D.o,A.o,.none Y Z,WT _⟩);go_wp2_with fail;refine R.o.mono ?_;rintro e w2 ⟨rfl,rfl⟩;go_wp2_with fail;exact HQ.o _ _ (Ap.mk' _ rfl) HX.o
def PW {x:ActX} (hp:DQ w own P F g r o k H T now safe nodes B i x W) (S:Ad H Bd) (a7:Bd<=999000) (hx:x.aD=10) (a6:1<=nodes/\nodes<=3) (Z:∀ c a d v W,Q (.panic c) (Xl a (Bs d) v) W->Q (.panic c) a W)
  (h0:Ap (pw g) s1 (pw i) (.int .i64 (Bi T x.tx)) s5 a0) (hQ:∀ a' W',Ap (pw g) s1 (pw i) (.int .i64 (Bi T x.tx)) s5 a'->Dc w own F g r o k H T now safe nodes B x W'->Q .normal a' W'):Yh Tryz.prog (wy CA) Q a0 W:=by
 have a8:=LH hp;obtain⟨F2,p,J,M,X,a2⟩:=hp;obtain⟨V2,L2,D,Y,a1,c0,c1,c2,_,c4,gl⟩:=p.cells;obtain⟨x0,x1,x2,x3,xl⟩:=acts _ _ _ M;have a9:=LH p;have a3:=LH J;have HA:=LH S;have HQ:=LH hQ;have R:=LH (p.below (VK W.heap.size W).drew);have E:=K9 x.a (n:=3) (by omega);have U:=K9 x.tx (n:=nodes) (by omega);have a5:=LH (show VY Tryz.prog 13 #[.int .i64 x.a,.int .i64 3] W.drew fun e w'=>e=.returned (.int .i64 (Aw x.a 3))/\W.drew=w' from Tw x.a 3 (by omega) (by omega) W.drew);have a4:=LH (Tw x.tx nodes (by omega) (by omega) W.drew);have HE:=LH (O9 R.o.1 S.wf S.c E (show Aw x.tx nodes<10 by omega));clear E U x0 x3 c0 c1 c2;obtain⟨u,rfl⟩:=h0;clear p J M X a2 hQ S D Y a1;unfold pw Ek at *;simp only[wy,CG,Cy,CA,FM,En,E5,FN,EV,FO,E6,BB,FL,GV,cL,cR,cT,cE,cB,Tryz.f10,Xg];unfold Uv at HE;go_upto_region 43 with (fail)
 refine nW ?_;refine CF (fun W=>W.cell? ⟨i,2,B0⟩=Bs (.int .i64 x.a)/\W.cell? ⟨i,1,B0⟩=Bs (.int .i64 x.tx)/\W.cell? ⟨g,4,B0⟩=Bs (.int .i64 nodes)) 11 Z (fun h=>?_);have f:(fun W=>W.cell? ⟨i,2,B0⟩=Bs (.int .i64 x.a)/\W.cell? ⟨i,1,B0⟩=Bs (.int .i64 x.tx)/\W.cell? ⟨g,4,B0⟩=Bs (.int .i64 nodes)) W.drew:=⟨x2,x1,c4⟩
 refine nD 0 [11] h f ?_;refine nD 1 [2,3,10,11] h f ?_;refine nA 2 [3,10,11] rfl rfl h f (fun w' m=>by obtain⟨p0,p1,p2⟩:=m;go_simp;rfl) ?_;refine nD 4 [5,10,11] h f ?_;refine nA 5 [10,11] rfl rfl h f (fun w' m=>by obtain⟨p0,p1,p2⟩:=m;go_simp;rfl) ?_;refine nD 6 [7,8,9,10,11] h f ?_;refine nD 7 [8,9,10,11] h f ?_;refine nD 8 [9,10,11] h f ?_;refine nA 9 [10,11] rfl rfl h f (fun w' m=>by obtain⟨p0,p1,p2⟩:=m;go_simp;rfl) ?_;refine nG 3 (fun O t=>?_);go_simp;refine a5.o.mono ?_;rintro e w2 ⟨rfl,rfl⟩;go_simp;refine t _ _ (fun _=>f) ?_;clear t O;refine nG 10 (fun O t=>?_);go_simp;refine a4.o.mono ?_;rintro e w2 ⟨rfl,rfl⟩;go_simp;refine t _ _ (fun _=>f) ?_;clear t O f;refine nG 11 (fun O t=>?_);go_simp;refine HE.o.mono ?_;rintro e w3 ⟨rfl,z,P3,F3,H3,T3,A,B3,K,I,rfl,rfl,rfl,rfl⟩;have HX:=LH (show Dc w own F g r o k H T3 A safe nodes B3 x w3 from⟨z,P3,F3,_,T3,B3,K,a3.o.trans (R.o.2.trans I),.fail hx,WT _⟩);clear K I;go_simp;refine t _ _ nZ ?_;clear t O;refine nX ?_;clear h;go_wp2_with fail;exact HQ.o _ _ (Ap.mk' _ rfl) HX.o
def R9 {T:List AZ} {L:List DY} {x:DY} (a:L.map (·.t)=T) (f:L[i]? = Bs x) (o:Mz) (V:O0):(L.set i ⟨{ x.t with ops:=x.t.ops++[o] },V⟩).map (·.t)=Ey T ((i:Int)+1) o:=by
 unfold Ey;have e:((i:Int)+1).toNat-1=i:=by omega
 rw[e];have d:T[i]? = Bs x.t:=by rw[<- a,V8,f];rfl
 rw[d];simp only;rw[if_pos (by omega),<- a,List.map_set]
def Ua {H:Hs} {T:List AZ} {x:ActX} (d:H.m=T.length) (f:(H.get (Bi T x.tx) (AY x.a)).1.1=0):∃ i:Nat,Bi T x.tx=(i:Int)+1/\i<T.length:=by
 have h:=RC T x.tx;by_cases a:Bi T x.tx<1
 ·exfalso;have e:(H.get (Bi T x.tx) (AY x.a)).1.1=7:=by
   have hl:=Ty (H:=H) (id:=Bi T x.tx) (k:=AY x.a) (mode:=1) (.inl a);unfold Hs.get;simp only[hl];rfl
  omega
 ·exact⟨(Bi T x.tx).toNat-1,by omega,by omega⟩
def CV.cq {d a:D0} {t:Nat->Prop} {nodes:Int} (c:CV d own P t g r o k H T now safe nodes B) {V:O0} {L:List DY} (h:BU d g P.g V L now safe nodes B) (I:L.map (·.t)=T) (v:∀ b,DB g V L b->t b) {i p cap:Nat} {x:DY} (m:L[i]? = Bs x) (E:V=.slice (Bs ⟨p,0,B0⟩) L.length cap) {op:Mz} (A:True) {V':O0} (D:Av d a x.V.ownBlock V'.ownBlock)
  (z:a.ownsRow 0 56 4 V' (x.t.ops.length+1) (x.t.ops.flatMap q7n++q7n op)):∃ y,CV (a.setCell ⟨p,i*3,B0⟩ V') own P y g r o k H (Ey T ((i:Int)+1) op) now safe nodes (B+1)/\Gr d own t (a.setCell ⟨p,i*3,B0⟩ V') own y:=by
 obtain⟨R,O,M⟩:=h.cq m E A D z;have f:=S2 m;obtain⟨K,J⟩:=c.cB O (fun b u e=>v b (e.elim (fun e=>.inr (.inr ⟨x,f,e.symm⟩)) (fun e=>.inr (.inl e.symm)))) R (R9 I m op V') (fun b u=>(M b u).imp (v b) id);exact⟨_,K,J⟩
def q5c {base n:Nat} {e:TypeId} {size:Nat} {xs:List O0} (h:w.ownsRow base e size V n xs) (u:0<n):∃ p cap,V=.slice (Bs ⟨p,0,B0⟩) n cap/\(∀ q,w.frozen? ⟨p,q,B0⟩=Jx)/\p<w.heap.size:=by
 rcases h.2 with ⟨_,e⟩|⟨t,f,d,a,_,m,_⟩
 ·omega
 ·exact⟨t,f,a,fun q=>Ae.frozen (show Ae w t _ d from m) q,(h.lt t (by rw[a];rfl)).2⟩
def sxat:∀ (M:List DY) (i:Nat) (x:DY),M[i]? = Bs x->(M.flatMap Ol)[i*3]? = Bs x.V/\(M.flatMap Ol)[i*3+2]? = Bs (.int .i64 x.t.a4)
 | [],i,x,h=>by simp at h
 | y::M,0,x,h=>by
  obtain rfl:y=x:=by simpa using h
  exact⟨rfl,rfl⟩
 | y::M,i+1,x,h=>by
  have a:=sxat M i x (by simpa using h);have e:(i+1)*3=i*3+3:=by omega
  have d:(i+1)*3+2=(i*3+2)+3:=by omega
  rw[d,e,VM];exact a
def GJ {g:Nat} {L:List DY} {nodes:Int} (h:BU w g j V L now safe nodes B) {cap:Nat} {x:DY} (f:L[i]? = Bs x) (v:V=.slice (Bs ⟨a,0,B0⟩) L.length cap):w.cell? ⟨a,i*3,B0⟩=Bs x.V/\w.cell? ⟨a,i*3+2,B0⟩=Bs (.int .i64 x.t.a4):=by
 have d:=h.row;rw[v] at d;obtain⟨hl,_⟩:=List.getElem?_eq_some_iff.1 f;obtain⟨z,y⟩:=sxat L i x f;obtain⟨A,u,e,_,m⟩:=(Rd.ay d).2 (by omega);injection e with e;injection e with e1 e2;subst e1 e2;have t:=m _ _ z;have p:=m _ _ y;rw[Nat.zero_add] at t p;exact⟨t,p⟩
def S1 {x:ActX} {s5:O0} (hp:DQ w own P F g r o k H T now safe nodes B j x W) (ha:Ad H Bd) (aP:Bd<=999000) (hx:x.aD=1) (hm:H.m=T.length) (h7:T.length<=7) (hB:B<=1000) (ay:∀ c a d v W,Q (.panic c) (Xl a (Bs d) v) W->Q (.panic c) a W)
  (h0:Ap (pw g) s1 (pw j) (.int .i64 (Bi T x.tx)) (.string ⟨(AY x.a).toArray⟩) a0) (hQ:∀ a' W',Ap (pw g) s1 (pw j) (.int .i64 (Bi T x.tx)) (.string ⟨(AY x.a).toArray⟩) a'->Dc w own F g r o k H T now safe nodes B x W'->Q .normal a' W'):Yh Tryz.prog (wy FO) Q a0 W:=by
 have aR:=LH hp;obtain⟨F2,R,ag,aj,au,az⟩:=hp;obtain⟨V2,L2,a9,ax,Z,c0,c1,c2,_,c4,gl⟩:=R.cells;obtain⟨x0,x1,x2,x3,xl⟩:=acts _ _ _ aj;have aq:=LH R;have am:=LH ag;have HA:=LH ha;have HQ:=LH hQ;have HE:=LH (JH R.hi ha.wf R.ns ha.c (Bi T x.tx) (AY x.a) (QN _));have a2:=LH (fun X=>Ua (H:=H) (T:=T) (x:=x) hm X);have a4:=LH (fun X=>Ba.get (safe:=safe) (nodes:=nodes) (now:=now) (H:=H) (T:=T) (x:=x) hx X);have a3:=LH (fun X=>Ba.getE (safe:=safe) (nodes:=nodes) (now:=now) (H:=H) (T:=T) (x:=x) hx X);have aS:=LH (Ea (QN x.a));clear x0 x1 x2 x3 xl c1 c2 c4;unfold Pn at HE;obtain⟨u,rfl⟩:=h0;clear R ag aj au az hQ ha a9 ax Z;unfold pw Ek at *;simp only[wy,CG,Cy,CA,FM,En,E5,FN,EV,FO,E6,BB,FL,GV,cL,cR,cT,cE,cB,Tryz.f10,Xg];generalize Bi T x.tx=ar at *;obtain⟨r0,hr⟩:∃ r0,H.get ar (AY x.a)=r0:=⟨_,rfl⟩
 rw[hr] at HE a2 a4 a3;obtain⟨⟨er,v,b⟩,H3⟩:=r0;clear hr;go_wp2_with fail;refine HE.o.mono ?_;rintro e S ⟨rfl,ah⟩;obtain⟨a5,a1,af⟩:=aq.o.c7 ah;have ap:=LH a1;have al:=LH (am.o.trans af);clear ah af HE aq am;by_cases X:er=0
 ·subst X;obtain⟨i,hi,aK⟩:=a2.o rfl;have aC:=LH (a4.o rfl);subst hi;obtain⟨V3,L3,m,a7,Z,_,c1,_,_,_,ak⟩:=a1.cells;have aE:L3.length=T.length:=by rw[<- a7,We]
  have ac:i<L3.length:=by omega
  obtain⟨y,hy⟩:∃ y,L3[i]? = Bs y:=⟨_,L1 ac⟩
  have K:=S2 hy;obtain⟨gV,cap,Y,aN,ad⟩:=q5c m.row (show 0<L3.length by omega);obtain⟨A3,k3,U,_,_⟩:=AR (m.ops y K).1;obtain⟨d0,_⟩:=GJ m hy Y;rw[U] at d0;rw[Y] at c1;have aH:=(m.ops y K).2.1;have O:=(m.ops y K).1;rw[U] at O;have an:=LH O;have A:=LH m;have aB:=LH a7;have aD:=LH Z;have HY:=LH hy;have aA:=LH U;have a8:=LH Y;have aJ:IntKind.i64.wrap ((i:Int)+1-1)=i:=by rw[show(i:Int)+1-1=i by omega];exact V4 _ ⟨by omega,by omega⟩
  have aI:IntKind.i64.wrap (i:Int)=i:=V4 _ ⟨by omega,by omega⟩;have aM:decide ((0:Int)<(i:Int)+1)=VJ:=decide_eq_true (by omega);clear m a7 Z hy U Y O a1 a2 a4 a3;simp only[CD,if_pos];have aL:(i:Int)<L3.length:=by omega
  go_upto_region 15 with (fail)
  refine nW ?_;refine CF (fun W=>W.cell? ⟨g,1,B0⟩=Bs (.slice (Bs ⟨gV,0,B0⟩) L3.length cap)/\W.cell? ⟨gV,i*3,B0⟩=Bs (.slice A3 y.t.ops.length k3)) 21 ay (fun h=>?_);have f:(fun W=>W.cell? ⟨g,1,B0⟩=Bs (.slice (Bs ⟨gV,0,B0⟩) L3.length cap)/\W.cell? ⟨gV,i*3,B0⟩=Bs (.slice A3 y.t.ops.length k3)) S.drew:=⟨c1,d0⟩
  refine nD 0 [1,2,3,21,22,23] h f ?_;refine nD 1 [2,3,21,22,23] h f ?_;refine nD 2 [3,21,22,23] h f ?_;refine nA 3 [21,22,23] rfl rfl h f (fun w' M=>by obtain⟨p0,p1⟩:=M;go_simp;rfl) ?_;refine nD 4 [5,21,22,23] h f ?_;refine nD 5 [21,22,23] h f ?_;refine nD 6 [7,8,9,12,13,14,20,21,22,23] h f ?_;refine nD 7 [8,9,12,13,14,20,21,22,23] h f ?_;refine nD 8 [9,12,13,14,20,21,22,23] h f ?_;refine nA 9 [12,13,14,20,21,22,23] rfl rfl h f (fun w' M=>by obtain⟨p0,p1⟩:=M;go_simp;rfl) ?_;refine nD 10 [11,12,13,14,20,21,22,23] h f ?_;refine nD 11 [12,13,14,20,21,22,23] h f ?_;refine nD 12 [13,14,20,21,22,23] h f ?_;refine nD 13 [14,20,21,22,23] h f ?_;refine nA 14 [20,21,22,23] rfl rfl h f (fun w' M=>by obtain⟨p0,p1⟩:=M;go_simp;rfl) ?_;refine nD 15 [18,19,20,21,22,23] h f ?_;refine nD 16 [18,19,20,21,22,23] h f ?_;refine nD 17 [18,19,20,21,22,23] h f ?_;refine nD 18 [19,20,21,22,23] h f ?_;have I:∀ o q p,q<S.heap.size->(S.alloc o).cell? ⟨q,p,B0⟩=S.cell? ⟨q,p,B0⟩:=fun o q p hq=>WX S o ⟨q,p,B0⟩ hq
  refine nG 19 (fun KK J=>?_);go_simp;refine J _ _ (fun _=>⟨(I _ _ _ ak).trans f.1,(I _ _ _ ad).trans f.2⟩) ?_;clear J KK f I;refine nG 20 (fun KK J=>?_);refine SQ S.drew S.heap.size rfl _ (.tmp 122) (.tmp 127) 50 rfl 0 56 _ 4 48 Tryz.underlying50 MP rfl (by decide) _ _ _ #[.int .i64 1,.string ⟨(AY x.a).toArray⟩,.string ⟨v.toArray⟩,.bool b] rfl an.o 1 rfl _ rfl rfl (by simp[WB]) (by unfold Wo;omega) (by omega) (VN _) ?_;intro V6 w6 D E;have t:Av S w6 y.V.ownBlock V6.ownBlock:=by rw[aA.o];exact⟨⟨E.1.os,E.1.tape,E.1.output,E.1.size,E.1.block⟩,E.2⟩
  obtain⟨F6,ai,ae⟩:=CV.cq (op:=opG x.a ((0,v,b),H3)) ap.o A.o aB.o aD.o HY.o a8.o trivial t D;have HX:=LH (show Dc w own F g r o k H T now safe nodes B x (w6.setCell ⟨gV,i*3,B0⟩ V6) from⟨a5,P,F6,H3,_,B+1,ai,al.o.trans ae,aC.o,K0 _⟩);have aa:=t.1.own A.o.row (fun b hb e=>ES A.o.row (A.o.ops y K).1 (by decide) hb e.symm);obtain⟨aQ,aG,z,a6,aF⟩:=q5c aa (show 0<L3.length by omega);rw[a8.o] at z;injection z with z _ _;injection z with z;injection z with z _ _;subst z;have aO:=a6 (i*3);have ao:=LH (show(fun W=>W.cell? ⟨g,1,B0⟩=Bs (.slice (Bs ⟨gV,0,B0⟩) L3.length cap)/\W.cell? ⟨gV,i*3,B0⟩=Bs (.slice A3 y.t.ops.length k3)) w6 from⟨(t.1.cell (p:=⟨g,1,B0⟩) ak (fun e=>Bh (A.o.ops y K).1 A.o.ak (by decide) e.symm)).trans c1,(t.1.cell (p:=⟨gV,i*3,B0⟩) ad (fun e=>ES A.o.row (A.o.ops y K).1 (by decide) (by rw[a8.o];rfl) e.symm)).trans d0⟩);have y0:=ao.o.2;obtain⟨A7,c7,aw,_,_⟩:=AR D;subst aw;clear E t D aa ai ae a6;go_simp;refine J _ _ (fun _=>ao.o) ?_;clear J KK;refine nG 21 (fun KK J=>?_);go_simp;refine J _ _ nZ ?_;clear J KK;refine nG 22 (fun KK J=>?_);go_simp;refine J _ _ nZ ?_;clear J KK;refine nG 23 (fun KK J=>?_);go_simp;refine J _ _ nZ ?_;clear J KK;refine nX ?_;clear h;go_wp2_with fail;exact HQ.o _ _ (Ap.mk' _ rfl) HX.o

 ·have HX:=LH (show Dc w own F g r o k H T now safe nodes B x S from⟨a5,P,F2,H3,T,B,ap.o,al.o,a3.o X,WT _⟩);have av:CD er=.iface 79 (.int .i64 er):=if_neg X;simp only[av];clear a1 a2 a4 a3;go_wp2_with fail;exact HQ.o _ _ (Ap.mk' _ rfl) HX.o
def TB {H:Hs} {T:List AZ} {x:ActX} (d:H.m=T.length) (f:(H.put (Bi T x.tx) (PE x)).1=0):∃ i:Nat,Bi T x.tx=(i:Int)+1/\i<T.length:=by
 have h:=RC T x.tx;by_cases a:Bi T x.tx<1
 ·exfalso;have e:(H.put (Bi T x.tx) (PE x)).1=7:=by
   have hl:=Ty (H:=H) (id:=Bi T x.tx) (k:=sx (PE x).key) (mode:=2) (.inl a);unfold Hs.put;rw[if_neg (by have:=Gi x.val;show ¬40<(CI x.val).size;omega)];simp only[hl];rfl
  omega
 ·exact⟨(Bi T x.tx).toNat-1,by omega,by omega⟩
def PuC (w:D0) (own:Ah) (P:Aq) (F:Nat->Prop) (g r o k:Nat) (H:Hs) (T:List AZ) (now:Int) (safe:Bool) (nodes:Int) (B e d:Nat) (x:ActX) (W:D0):Prop:=
 ∃ a,CV W own P a g r o k H T now safe nodes B/\Gr w own F W own a/\Ae W e 34 (Ez x)/\own e=B0/\¬a e/\Ae W d 45 #[.string ⟨(AY x.a).toArray⟩,.string (CI x.val),.bool (x.aD == 3)]/\own d=B0/\¬a d
def DQ.put0 {nodes:Int} {m:Nat} {x:ActX} (h:DQ w own P F g r o k H T now safe nodes B m x W) (z:w.heap.size<=W.heap.size) {v:ByteArray} (p:v=CI x.val):PuC w own P F g r o k H T now safe nodes B m W.heap.size x (W.alloc (.cells #[.string ⟨(AY x.a).toArray⟩,.string v,.bool (x.aD == 3)] 45)):=by
 subst p;obtain⟨y,a,b,c,d,e⟩:=h;have f:VP W.heap.size W (W.alloc (.cells #[.string ⟨(AY x.a).toArray⟩,.string (CI x.val),.bool (x.aD == 3)] 45)):=(VK W.heap.size W).alloc (K0 _) _;obtain⟨u,t⟩:=a.below f;exact⟨y,u,b.trans t,(DG f).ak c (fun hs=>by have:=c.lt;omega),d,e,Ae.new W _ _,a.hi.free (K0 _),fun e=>Nat.lt_irrefl _ (a.Fl _ e)⟩
def PuC.drew {nodes:Int} {p m:Nat} {x:ActX} {W:D0} (h:PuC w own P F g r o k H T now safe nodes B p m x W):PuC w own P F g r o k H T now safe nodes B p m x W.drew:=by
 obtain⟨z,a,b,c,d,e,f,u,t⟩:=h;obtain⟨y,v⟩:=a.below (VK W.heap.size W).drew;exact⟨z,y,b.trans v,c,d,e,f,u,t⟩
section
variable {P:Program} {md:Region.Mode} {ops:Array Oper} {Q:Exit->Act->D0->Prop} {N:Nat} {C:D0->Prop}
def Rc (i:Nat) {o:Oper} {fuel:Nat} {d:Array Bool} {a:Act} (e:Region.ready md ops d=[i]) (t:ops[i]? = Bs o)
  (p:Region.wanted o (yielded ops a.tmps)=Jx) (v:i<N->C w) (h:BW P md ops Q N C fuel (d.setIfInBounds i VJ) (a.put o.dst Yq) w):BW P md ops Q N C (fuel+1) d a w:=
 ⟨(fun m=>by rw[e] at m;cases m),fun j f=>by
  rw[e] at f;obtain rfl:j=i:=by simpa using f
  exact wpOp_step t (fun x u=>by rw[if_neg (by rw[p];simp)];exact u _ _ ⟨v,h⟩)⟩
end
def Kd (s0 s1 s3 s4 s5:O0) (d:Nat) (a:Act):Prop:=∃ u:Nat->O0,u 11=.pointer (Bs ⟨d,0,B0⟩)/\a=Ek s0 s1 s3 s4 s5 u
def Kd.mk' (t:Array O0) (h:({ tmps:=t,defers:=[] } : Act)=Ek V' s1 s3 V s5 (fun k=>lkF t.toList k)) (d:lkF t.toList 11=.pointer (Bs ⟨a,0,B0⟩)):Kd V' s1 s3 V s5 a { tmps:=t,defers:=[] }:=⟨_,d,h⟩
def Iv {x:ActX} {K:Act->D0->Prop} (aJ:∀ a w,Yh Tryz.prog (cR (cR (cR (wy EV)))) Q a w->K a w) (hp:PuC w own P F g r o k H T now safe nodes B j s x W) (ha:Ad H Bd) (hx:x.aD=2\/x.aD=3) (hm:H.m=T.length) (h7:T.length<=7) (hB:B<=1000) (aq:∀ c a d v W,Q (.panic c) (Xl a (Bs d) v) W->Q (.panic c) a W)
  (h0:Kd (pw g) s1 (pw j) (.int .i64 (Bi T x.tx)) (.string ⟨(AY x.a).toArray⟩) s a0) (hQ:∀ a' W',Ap (pw g) s1 (pw j) (.int .i64 (Bi T x.tx)) (.string ⟨(AY x.a).toArray⟩) a'->Dc w own F g r o k H T now safe nodes B x W'->Q .normal a' W'):Yh Tryz.prog (cL (cR (cR (wy EV)))) (Exit.then K Q) a0 W:=by
 have aa:=LH (fun he=>TB (H:=H) (T:=T) (x:=x) hm he);have ae:=LH (fun he=>Ba.put (safe:=safe) (nodes:=nodes) (now:=now) (H:=H) (T:=T) (x:=x) hx he);have ad:=LH (fun he=>Ba.putE (safe:=safe) (nodes:=nodes) (now:=now) (H:=H) (T:=T) (x:=x) hx he);have HQ:=LH hQ;obtain⟨F2,a1,ap,a9,ak,au,U,aj,Z⟩:=hp.drew;obtain⟨V2,L2,_,_,_,c0,_,_,_,_,gl⟩:=a1.cells;have aK:=acts _ _ _ a9;have HE:=LH (qcs a1.hi ha.wf a1.ns ha.c (Bi T x.tx) (AY x.a) (QN _) (CI x.val) (by have:=Gi x.val;omega) (x.aD == 3));rw[show(⟨⟨(AY x.a).toArray⟩,CI x.val,x.aD == 3⟩:Pr)=PE x from rfl] at HE;have k0:=U.cell 0;have k1:=U.cell 1;have k2:=U.cell 2;have kl:=U.lt;simp only[Hi,Ft,N2] at k0 k1 k2;have aD:=LH a1;have az:=LH ap;have X:=LH (show Ae W.drew j _ _/\own j=B0/\¬F2 j/\Ae W.drew s _ _/\own s=B0/\¬F2 s from⟨a9,ak,au,U,aj,Z⟩);obtain⟨u,hu,rfl⟩:=h0;clear a1 ap a9 ak au U aj Z hQ aK hp ha gl;unfold E9 at HE;unfold pw Ek at *;generalize am:(x.aD == 3)=gb at *;generalize Bi T x.tx=aG at *;generalize ai:H.put aG (PE x)=aF at *;have b1:=LH am;clear am ai;obtain⟨er,H3⟩:=aF;rw[hu];simp only[wy,CG,Cy,CA,FM,En,E5,FN,EV,FO,E6,BB,FL,GV,cL,cR,cT,cE,cB,Tryz.f10,Xg] at aJ ⊢;go_upto_region 21 with (fail)
 refine nW ?_;refine CF (fun W=>W.cell? ⟨g,0,B0⟩=Bs (.pointer (Bs ⟨P.g,0,B0⟩))/\W.cell? ⟨s,0,B0⟩=Bs (.string ⟨(AY x.a).toArray⟩)/\W.cell? ⟨s,1,B0⟩=Bs (.string (CI x.val))/\W.cell? ⟨s,2,B0⟩=Bs (.bool gb)/\s<W.heap.size) 6 aq (fun h=>?_);have f:(fun W=>W.cell? ⟨g,0,B0⟩=Bs (.pointer (Bs ⟨P.g,0,B0⟩))/\W.cell? ⟨s,0,B0⟩=Bs (.string ⟨(AY x.a).toArray⟩)/\W.cell? ⟨s,1,B0⟩=Bs (.string (CI x.val))/\W.cell? ⟨s,2,B0⟩=Bs (.bool gb)/\s<W.heap.size) W.drew:=⟨c0,k0,k1,k2,kl⟩
 refine nD 0 [1,2,3,6,7,8,9,10,11] h f ?_;refine nD 1 [2,3,6,7,8,9,10,11] h f ?_;refine nD 2 [3,6,7,8,9,10,11] h f ?_;refine nA 3 [6,7,8,9,10,11] rfl rfl h f (fun w' z=>by obtain⟨p0,p1,p2,p3,pl⟩:=z;go_simp;rfl) ?_;refine nD 4 [6,7,8,9,10,11] h f ?_;refine nA 5 [6,7,8,9,10,11] rfl rfl h f (fun w' z=>by obtain⟨p0,p1,p2,p3,pl⟩:=z;go_simp;rfl) ?_;clear f;refine nG 6 (fun t m=>?_);go_simp;refine HE.o.mono ?_;rintro e w3 ⟨rfl,ar⟩;obtain⟨a6,a5,a3⟩:=aD.o.c7 ar;have aC:=LH a5;have aE:=LH (a3.fr.ak X.o.1 (fun e=>e.elim (fun e=>e X.o.2.1) X.o.2.2.1));have af:=LH (a3.fr.ak X.o.2.2.2.1 (fun e=>e.elim (fun e=>e X.o.2.2.2.2.1) X.o.2.2.2.2.2));have ay:=LH (az.o.trans a3);clear ar a3 HE aD az c0 k0 k1 k2 kl;by_cases he:er=0
 ·subst he;obtain⟨i,hi,aV⟩:=aa.o rfl;have aN:=LH (ae.o rfl);subst hi;have aX:decide ((0:Int)<(i:Int)+1)=VJ:=decide_eq_true (by omega);simp only[CD,if_pos];go_simp;refine m _ _ nZ ?_;clear m t;refine nG 7 (fun t m=>?_);go_simp;refine m _ _ nZ ?_;clear m t;refine nG 8 (fun t m=>?_);go_simp;refine m _ _ nZ ?_;clear m t;refine nG 9 (fun t m=>?_);go_simp;refine m _ _ nZ ?_;clear m t;refine nG 10 (fun t m=>?_);go_simp;refine m _ _ nZ ?_;clear m t;refine nG 11 (fun t m=>?_);go_simp;refine m _ _ nZ ?_;clear m t;refine nX ?_;obtain⟨V3,L3,A,a8,Z,_,c1,_,_,_,aw⟩:=a5.cells;have aP:L3.length=T.length:=by rw[<- a8,We]
  have al:i<L3.length:=by omega
  obtain⟨y,hy⟩:∃ y,L3[i]? = Bs y:=⟨_,L1 al⟩
  have M:=S2 hy;obtain⟨gV,cap,a4,aY,an⟩:=q5c A.row (show 0<L3.length by omega);obtain⟨A3,k3,a2,_,_⟩:=AR (A.ops y M).1;obtain⟨d0,_⟩:=GJ A hy a4;rw[a2] at d0;rw[a4] at c1;have aS:=(A.ops y M).2.1;have Y:=(A.ops y M).1;rw[a2] at Y;have aA:=LH Y;have I:=LH A;have aM:=LH a8;have aO:=LH Z;have HY:=LH hy;have aL:=LH a2;have ac:=LH a4;have aU:IntKind.i64.wrap ((i:Int)+1-1)=i:=by rw[show(i:Int)+1-1=i by omega];exact V4 _ ⟨by omega,by omega⟩
  have aT:IntKind.i64.wrap (i:Int)=i:=V4 _ ⟨by omega,by omega⟩;obtain⟨w0,_,_,_,ax⟩:=acts _ _ _ aE.o;have ag:=af.o.lt;have q1:w3.cell? ⟨s,1,B0⟩=Bs (.string (CI x.val)):=af.o.cell 1;clear A a8 Z hy a2 a4 Y a5 aa ae ad;have aW:(i:Int)<L3.length:=by omega
  go_upto_region 22 with (fail)
  refine nW ?_;refine CF (fun W=>W.cell? ⟨g,1,B0⟩=Bs (.slice (Bs ⟨gV,0,B0⟩) L3.length cap)/\W.cell? ⟨gV,i*3,B0⟩=Bs (.slice A3 y.t.ops.length k3)/\W.cell? ⟨j,0,B0⟩=Bs (.int .i64 x.aD)/\W.cell? ⟨s,1,B0⟩=Bs (.string (CI x.val))) 23 aq (fun h=>?_);have f:(fun W=>W.cell? ⟨g,1,B0⟩=Bs (.slice (Bs ⟨gV,0,B0⟩) L3.length cap)/\W.cell? ⟨gV,i*3,B0⟩=Bs (.slice A3 y.t.ops.length k3)/\W.cell? ⟨j,0,B0⟩=Bs (.int .i64 x.aD)/\W.cell? ⟨s,1,B0⟩=Bs (.string (CI x.val))) w3.drew:=⟨c1,d0,w0,q1⟩
  refine nD 0 [1,2,3,23,24,25] h f ?_;refine nD 1 [2,3,23,24,25] h f ?_;refine nD 2 [3,23,24,25] h f ?_;refine nA 3 [23,24,25] rfl rfl h f (fun w' z=>by obtain⟨p0,p1,p2,p3⟩:=z;go_simp;rfl) ?_;refine nD 4 [5,23,24,25] h f ?_;refine nD 5 [23,24,25] h f ?_;refine nD 6 [7,8,9,12,13,14,22,23,24,25] h f ?_;refine nD 7 [8,9,12,13,14,22,23,24,25] h f ?_;refine nD 8 [9,12,13,14,22,23,24,25] h f ?_;refine nA 9 [12,13,14,22,23,24,25] rfl rfl h f (fun w' z=>by obtain⟨p0,p1,p2,p3⟩:=z;go_simp;rfl) ?_;refine nD 10 [11,12,13,14,22,23,24,25] h f ?_;refine nD 11 [12,13,14,22,23,24,25] h f ?_;refine nD 12 [13,14,22,23,24,25] h f ?_;refine nD 13 [14,22,23,24,25] h f ?_;refine nA 14 [22,23,24,25] rfl rfl h f (fun w' z=>by obtain⟨p0,p1,p2,p3⟩:=z;go_simp;rfl) ?_;refine nD 15 [16,20,21,22,23,24,25] h f ?_;refine nA 16 [20,21,22,23,24,25] rfl rfl h f (fun w' z=>by obtain⟨p0,p1,p2,p3⟩:=z;go_simp;rfl) ?_;refine nD 17 [20,21,22,23,24,25] h f ?_;refine nD 18 [19,20,21,22,23,24,25] h f ?_;refine nA 19 [20,21,22,23,24,25] rfl rfl h f (fun w' z=>by obtain⟨p0,p1,p2,p3⟩:=z;go_simp;rfl) ?_;refine nD 20 [21,22,23,24,25] h f ?_;have E:∀ o q p,q<w3.heap.size->(w3.alloc o).cell? ⟨q,p,B0⟩=w3.cell? ⟨q,p,B0⟩:=fun o q p hq=>WX w3 o ⟨q,p,B0⟩ hq
  refine nG 21 (fun t m=>?_);go_simp;refine m _ _ (fun _=>⟨(E _ _ _ aw).trans f.1,(E _ _ _ an).trans f.2.1,(E _ _ _ ax).trans f.2.2.1,(E _ _ _ ag).trans f.2.2.2⟩) ?_;clear m t f E;refine nG 22 (fun t m=>?_);refine SQ w3.drew w3.heap.size rfl _ (.tmp 175) (.tmp 182) 50 rfl 0 56 _ 4 48 Tryz.underlying50 MP rfl (by decide) _ _ _ #[.int .i64 x.aD,.string ⟨(AY x.a).toArray⟩,.string (CI x.val),.bool Jx] rfl aA.o 1 rfl _ rfl rfl (by simp[WB]) (by unfold Wo;omega) (by omega) (VN _) ?_;intro V6 w6 R S;have D:Av w3 w6 y.V.ownBlock V6.ownBlock:=by rw[aL.o];exact⟨⟨S.1.os,S.1.tape,S.1.output,S.1.size,S.1.block⟩,S.2⟩
  obtain⟨F6,av,ao⟩:=CV.cq (op:=opP x) aC.o I.o aM.o aO.o HY.o ac.o trivial D R;have HX:=LH (show Dc w own F g r o k H T now safe nodes B x (w6.setCell ⟨gV,i*3,B0⟩ V6) from⟨a6,P,F6,H3,_,B+1,av,ay.o.trans ao,aN.o,K0 _⟩);have ah:=D.1.own I.o.row (fun b hb e=>ES I.o.row (I.o.ops y M).1 (by decide) hb e.symm);obtain⟨b0,aR,O,a7,aQ⟩:=q5c ah (show 0<L3.length by omega);rw[ac.o] at O;injection O with O _ _;injection O with O;injection O with O _ _;subst O;have aZ:=a7 (i*3);have aB:=LH (show(fun W=>W.cell? ⟨g,1,B0⟩=Bs (.slice (Bs ⟨gV,0,B0⟩) L3.length cap)/\W.cell? ⟨gV,i*3,B0⟩=Bs (.slice A3 y.t.ops.length k3)/\W.cell? ⟨j,0,B0⟩=Bs (.int .i64 x.aD)/\W.cell? ⟨s,1,B0⟩=Bs (.string (CI x.val))) w6 from⟨(D.1.cell (p:=⟨g,1,B0⟩) aw (fun e=>Bh (I.o.ops y M).1 I.o.ak (by decide) e.symm)).trans c1,(D.1.cell (p:=⟨gV,i*3,B0⟩) an (fun e=>ES I.o.row (I.o.ops y M).1 (by decide) (by rw[ac.o];rfl) e.symm)).trans d0,(D.1.cell (p:=⟨j,0,B0⟩) ax (fun e=>Bh (I.o.ops y M).1 aE.o (by decide) e.symm)).trans w0,(D.1.cell (p:=⟨s,1,B0⟩) ag (fun e=>Bh (I.o.ops y M).1 af.o (by decide) e.symm)).trans q1⟩);have y0:=aB.o.2.1;obtain⟨A7,c7,aI,_,_⟩:=AR R;subst aI;clear S D R ah av ao a7;go_simp;refine m _ _ (fun _=>aB.o) ?_;clear m t;refine nG 23 (fun t m=>?_);go_simp;refine m _ _ nZ ?_;clear m t;refine nG 24 (fun t m=>?_);go_simp;refine m _ _ nZ ?_;clear m t;refine nG 25 (fun t m=>?_);go_simp;refine m _ _ nZ ?_;clear m t;refine nX ?_;clear h;go_wp2_with fail;exact HQ.o _ _ (Ap.mk' _ rfl) HX.o

 ·have HX:=LH (show Dc w own F g r o k H T now safe nodes B x w3 from⟨a6,P,F2,H3,T,B,aC.o,ay.o,ad.o he,WT _⟩);have aH:CD er=.iface 79 (.int .i64 er):=if_neg he;simp only[aH];clear a5 aa ae ad;go_simp;refine m _ _ nZ ?_;clear m t;refine nG 7 (fun t m=>?_);go_simp;refine m _ _ nZ ?_;clear m t;refine nG 8 (fun t m=>?_);go_simp;refine m _ _ nZ ?_;clear m t;refine Rc 9 (by kernel_rfl) rfl (by kernel_rfl) nZ ?_;refine Rc 10 (by kernel_rfl) rfl (by kernel_rfl) nZ ?_;refine nG 11 (fun t m=>?_);go_simp;refine m _ _ nZ ?_;clear m t;refine nX ?_;clear h;go_wp2_with fail;exact HQ.o _ _ (Ap.mk' _ rfl) HX.o
def MI {K:Nat} {x:ActX} {s5:O0} (O:DQ w own P F g r o k H T now safe nodes B K x W) (S:Ad H Bd) (a1:Bd<=999000) (M:x.aD=2\/x.aD=3) (R:H.m=T.length) (Z:T.length<=7) (X:B<=1000) (p:∀ c a d v W,Q (.panic c) (Xl a (Bs d) v) W->Q (.panic c) a W)
  (h0:Ap (pw g) s1 (pw K) (.int .i64 (Bi T x.tx)) (.string ⟨(AY x.a).toArray⟩) a0) (U:∀ a' W',Ap (pw g) s1 (pw K) (.int .i64 (Bi T x.tx)) (.string ⟨(AY x.a).toArray⟩) a'->Dc w own F g r o k H T now safe nodes B x W'->Q .normal a' W'):Yh Tryz.prog (wy EV) Q a0 W:=by
 have z:=LH O;obtain⟨F2,e,m,t,A,I⟩:=O;obtain⟨V2,L2,h,D,E,c0,c1,c2,_,c4,gl⟩:=e.cells;obtain⟨x0,x1,x2,x3,xl⟩:=acts _ _ _ t;have a2:=LH e;have y:=LH m;have HA:=LH S;have HQ:=LH U;clear x1 x2 c0 c1 c2 c4;obtain⟨u,rfl⟩:=h0;clear e m t A I U S h D E;unfold pw Ek at *;simp only[wy,CG,Cy,CA,FM,En,E5,FN,EV,FO,E6,BB,FL,GV,cL,cR,cT,cE,cB,Tryz.f10,Xg];by_cases Y:9<x.val.size
 ·have J:(9:Int)<x.val.size:=by omega
  have f:=LH (z.o.put0 y.o.fr.size (v:=x.val.extract 0 9) (by unfold CI;rw[if_pos Y]));go_upto_region 21 with (fail)
  refine Iv ?_ f.o HA.o M R Z X p ?_ HQ.o
  rotate_left
  ·exact Kd.mk' _ rfl rfl
  ·assumption
 ·have J:¬(9:Int)<x.val.size:=by omega
  have f:=LH (z.o.put0 y.o.fr.size (v:=x.val) (by unfold CI;rw[if_neg Y]));go_upto_region 21 with (fail)
  refine Iv ?_ f.o HA.o M R Z X p ?_ HQ.o
  rotate_left
  ·exact Kd.mk' _ rfl rfl
  ·assumption
def NQ {x:ActX} (hp:DQ w own P F g r o k H T now safe nodes B i x W) (ha:Ad H Bd) (aF:Bd<=999000) (hx:x.aD=0) (hm:H.m=T.length) (h7:T.length<7) (av:∀ c a d v W,Q (.panic c) (Xl a (Bs d) v) W->Q (.panic c) a W)
  (h0:Ap (pw g) s1 (pw i) (.int .i64 (Bi T x.tx)) s5 a0) (hQ:∀ a' W',Ap (pw g) s1 (pw i) (.int .i64 (Bi T x.tx)) s5 a'->Dc w own F g r o k H T now safe nodes B x W'->Q .normal a' W'):Yh Tryz.prog (wy E6) Q a0 W:=by
 have aG:=LH hp;obtain⟨F2,K,aa,ag,ap,aw⟩:=hp;obtain⟨V2,L2,U,ad,J,c0,c1,c2,_,c4,gl⟩:=K.cells;obtain⟨x0,x1,x2,x3,xl⟩:=acts _ _ _ ag;have an:=LH K;have ai:=LH aa;have HA:=LH ha;have HQ:=LH hQ;have HE:=LH (qak K.hi (by omega));have aA:=LH (Ba.begin (safe:=safe) (nodes:=nodes) (now:=now) (H:=H) (T:=T) (x:=x) hx h7);have aq:L2.length=T.length:=by rw[<- ad,We]
 obtain⟨A2,k2,ac,_,_⟩:=AR U.row;rw[ac] at c1;unfold SF at HE;rw[show((H.m+1:Nat):Int)=(L2.length:Int)+1 by omega] at HE;have ak:=LH aq;clear x0 x1 x2 x3 xl c2 c4 ac;obtain⟨u,rfl⟩:=h0;clear K aa ag ap aw hQ ha U ad J;unfold pw Ek at *;simp only[wy,CG,Cy,CA,FM,En,E5,FN,EV,FO,E6,BB,FL,GV,cL,cR,cT,cE,cB,Tryz.f10,Xg];have ar:decide ((L2.length:Int)<7)=VJ:=decide_eq_true (by omega);have a5:(L2.length:Int)<7:=by omega
 have ao:IntKind.i64.wrap ((L2.length:Int)+1)=(L2.length:Int)+1:=V4 _ ⟨by omega,by omega⟩;go_wp2_with fail;refine HE.o.mono ?_;rintro e S ⟨rfl,b3,a4,ae,a9⟩;obtain⟨a2,a8⟩:=an.o.bY (P':={ P with gt:=Af P.gt (H.m+1) b3 }) ae a9 rfl;have aB:=LH a2;have ax:=LH (ai.o.trans a8);obtain⟨V3,L3,A,a1,J,_,a3,ah,_,_,M⟩:=a2.cells;have a6:L3.length=L2.length:=by rw[ak.o,<- a1,We]
 obtain⟨A3,k3,I,_,_⟩:=AR A.row;rw[I] at a3;have E:=A.row;rw[I] at E;have aj:=LH E;have R:=LH A;have az:=LH a1;have al:=LH J;have ay:=LH I;clear a2 a8 ae a9 HE an ai c0 c1 A a1 J I E ar a5 gl;rw[<- a6] at ao ⊢;have aC:L3.length<=7:=by omega
 clear a6 ak;go_upto_region 11 with (fail)
 refine nW ?_;refine CF (fun W=>W.cell? ⟨g,1,B0⟩=Bs (.slice A3 L3.length k3)/\W.cell? ⟨g,2,B0⟩=Bs (.int .i64 now)) 12 av (fun h=>?_);have f:(fun W=>W.cell? ⟨g,1,B0⟩=Bs (.slice A3 L3.length k3)/\W.cell? ⟨g,2,B0⟩=Bs (.int .i64 now)) S.drew:=⟨a3,ah⟩
 refine nD 0 [12,13,14] h f ?_;refine nD 1 [2,3,4,11,12,13,14] h f ?_;refine nD 2 [3,4,11,12,13,14] h f ?_;refine nD 3 [4,11,12,13,14] h f ?_;refine nA 4 [11,12,13,14] rfl rfl h f (fun w' X=>by obtain⟨p0,p1⟩:=X;go_simp;rfl) ?_;refine nD 5 [6,7,8,9,10,11,12,13,14] h f ?_;refine nD 6 [7,8,9,10,11,12,13,14] h f ?_;refine nD 7 [8,9,10,11,12,13,14] h f ?_;refine nA 8 [9,10,11,12,13,14] rfl rfl h f (fun w' X=>by obtain⟨p0,p1⟩:=X;go_simp;rfl) ?_;refine nD 9 [10,11,12,13,14] h f ?_;have z:∀ o q p,q<S.heap.size->(S.alloc o).cell? ⟨q,p,B0⟩=S.cell? ⟨q,p,B0⟩:=fun o q p hq=>WX S o ⟨q,p,B0⟩ hq
 refine nG 10 (fun O D=>?_);go_simp;refine D _ _ (fun _=>⟨(z _ _ _ M).trans f.1,(z _ _ _ M).trans f.2⟩) ?_;clear D O f z;refine nG 11 (fun O D=>?_);refine SQ S.drew S.heap.size rfl _ (.tmp 79) (.tmp 85) 29 rfl 0 52 _ 3 40 Tryz.underlying29 Tj rfl (by decide) _ _ _ #[.slice B0 0 0,.int .i64 now,.int .i64 (-1)] rfl aj.o 1 rfl _ rfl rfl (by simp[WB]) (by unfold Wo;omega) (by omega) (VN _) ?_;intro V6 w6 t y;have m:Av S w6 V3.ownBlock V6.ownBlock:=by rw[ay.o];exact⟨⟨y.1.os,y.1.tape,y.1.output,y.1.size,y.1.block⟩,y.2⟩
 obtain⟨q1,q2,q3⟩:=R.o.cE m t;obtain⟨af,a7⟩:=aB.o.cB q2 (fun b hb e=>al.o b (e.elim (fun e=>.inr (.inl e.symm)) (fun e=>.inl e))) q1 (T':=T++[⟨[],now,-1⟩]) (by rw[Xd,az.o];rfl) (fun b hb=>(q3 b hb).imp (al.o b) id);have HX:=LH (show Dc w own F g r o k H T now safe nodes B x (w6.setCell ⟨g,1,B0⟩ V6) from⟨a4,_,_,_,_,B,af,ax.o.trans a7,aA.o,WT _⟩);have Y:¬Bs g=V3.ownBlock:=fun e=>Bh R.o.row R.o.ak (by decide) e.symm
 have am:=LH (show(fun W=>W.cell? ⟨g,1,B0⟩=Bs (.slice A3 L3.length k3)/\W.cell? ⟨g,2,B0⟩=Bs (.int .i64 now)) w6 from⟨(m.1.cell (p:=⟨g,1,B0⟩) M Y).trans a3,(m.1.cell (p:=⟨g,2,B0⟩) M Y).trans ah⟩);have Z:=m.1.ak R.o.ak Y;have aE:=Z.frozen 1;have aD:=Z.lt;have y0:=am.o.1;obtain⟨A7,c7,au,_,_⟩:=AR t;subst au;clear y m t af a7 Z q1 q2 q3;go_simp;refine D _ _ (fun _=>am.o) ?_;clear D O;refine nG 12 (fun O D=>?_);go_simp;refine D _ _ nZ ?_;clear D O;refine nG 13 (fun O D=>?_);go_simp;refine D _ _ nZ ?_;clear D O;refine nG 14 (fun O D=>?_);go_simp;refine D _ _ nZ ?_;clear D O;refine nX ?_;clear h;go_wp2_with fail;exact HQ.o _ _ (Ap.mk' _ rfl) HX.o
def PV {S:Int} {x:ActX} {M:Act} (E:DQ w own P F g r o k H T now safe nodes B i x W) (J:Ad H S) (a3:S<=999000) (Z:x.aD=0) (h7:¬T.length<7) (h8:T.length<=7)
  (h0:Ap (pw g) s1 (pw i) (.int .i64 (Bi T x.tx)) s5 M) (K:∀ O R,Ap (pw g) s1 (pw i) (.int .i64 (Bi T x.tx)) s5 O->Dc w own F g r o k H T now safe nodes B x R->Q .normal O R):Yh Tryz.prog (wy E6) Q M W:=by
 have a4:=LH E;obtain⟨F2,d,e,m,p,v⟩:=E;obtain⟨V2,z,a,h,t,c0,c1,c2,_,c4,gl⟩:=d.cells;obtain⟨x0,Y,x2,X,U⟩:=acts _ _ _ m;have D:=LH d;have A:=LH e;have HA:=LH J;have HQ:=LH K;have a1:z.length=T.length:=by rw[<- h,We]
 obtain⟨A2,k2,f,_,_⟩:=AR a.row;rw[f] at c1;clear x0 Y x2 X U c2 c4 f;obtain⟨u,rfl⟩:=h0;clear d e m p v K J a h t;unfold pw Ek at *;simp only[wy,CG,Cy,CA,FM,En,E5,FN,EV,FO,E6,BB,FL,GV,cL,cR,cT,cE,cB,Tryz.f10,Xg];have a2:decide ((z.length:Int)<7)=Jx:=decide_eq_false (by omega);have I:¬(z.length:Int)<7:=by omega
 have HX:=LH (show Dc w own F g r o k H T now safe nodes B x W from⟨own,P,F2,_,T,B,D.o,A.o,.full Z h7,WT _⟩);go_wp2_with fail;exact HQ.o _ _ (Ap.mk' _ rfl) HX.o
def Nw (s0 s1 s3 s4 s5:O0) (d:Int) (a:Act):Prop:=∃ u:Nat->O0,u 46=.int .i64 d/\a=Ek s0 s1 s3 s4 s5 u
def Nw.mk' {a:Int} (t:Array O0) (h:({ tmps:=t,defers:=[] } : Act)=Ek V' s1 s3 V s5 (fun k=>lkF t.toList k)) (d:lkF t.toList 46=.int .i64 a):Nw V' s1 s3 V s5 a { tmps:=t,defers:=[] }:=⟨_,d,h⟩
def GU {x:ActX} {K:Act->D0->Prop} (hp:DQ w own P F g r o k H T now safe nodes B i x W) (ha:Ad H Bd) (t:Bd<=999000) (X:H.m=T.length) (Y:T.length<=7) (hB:B<=1000) (Z:1<=nodes/\nodes<=3) (I:∀ c a d v W,Q (.panic c) (Xl a (Bs d) v) W->Q (.panic c) a W)
  (h0:Nw (pw g) s1 (pw i) (.int .i64 (Bi T x.tx)) (.string ⟨(AY x.a).toArray⟩) x.aD a0) (hQ:∀ m p,Ap (pw g) s1 (pw i) (.int .i64 (Bi T x.tx)) (.string ⟨(AY x.a).toArray⟩) m->Dc w own F g r o k H T now safe nodes B x p->K m p):Yh Tryz.prog BB (Exit.then K Q) a0 W:=by
 obtain⟨u,hu,rfl⟩:=h0;have f:=LH hp;have E:=LH ha;have D:=LH hQ;have a3:=LH (fun k (h:x.aD=k)=>h);generalize M:x.aD=A at *;have e:=LH M;clear hp ha hQ M a3;unfold Ek;rw[hu];simp only[wy,CG,Cy,CA,FM,En,E5,FN,EV,FO,E6,BB,FL,GV,cL,cR,cT,cE,cB,Tryz.f10,Xg];by_cases e0:A=0
 ·subst e0;go_upto_if 47 with (fail)
  refine Xj rfl ?_;by_cases O:T.length<7
  ·refine NQ f.o E.o t e.o X O (fun c a d v W h=>I c a d v W h) ?_ (fun m p z y=>D.o m p z y);exact Ap.mk' _ rfl
  ·refine PV f.o E.o t e.o O Y ?_ (fun m p z y=>D.o m p z y);exact Ap.mk' _ rfl
 by_cases e1:A=1
 ·subst e1;go_upto_if 89 with (fail)
  refine Xj rfl ?_;refine S1 (s5:=Yq) f.o E.o t e.o X Y hB (fun c a d v W h=>I c a d v W h) ?_ (fun m p z y=>D.o m p z y);exact Ap.mk' _ rfl
 by_cases e2:A=2
 ·subst e2;go_upto_if 131 with (fail)
  refine Xj rfl ?_;go_upto_if 131 with (fail)
  refine Xj rfl ?_;refine MI (s5:=Yq) f.o E.o t (.inl e.o) X Y hB (fun c a d v W h=>I c a d v W h) ?_ (fun m p z y=>D.o m p z y);exact Ap.mk' _ rfl
 by_cases e3:A=3
 ·subst e3;go_upto_if 131 with (fail)
  refine wp_cond_false rfl ?_;go_upto_if 131 with (fail)
  refine Xj rfl ?_;refine MI (s5:=Yq) f.o E.o t (.inr e.o) X Y hB (fun c a d v W h=>I c a d v W h) ?_ (fun m p z y=>D.o m p z y);exact Ap.mk' _ rfl
 by_cases e4:A=4
 ·subst e4;go_upto_if 186 with (fail)
  refine Xj rfl ?_;refine S4 f.o E.o t e.o ?_ (fun m p z y=>D.o m p z y);exact Ap.mk' _ rfl
 by_cases e5:A=5
 ·subst e5;go_upto_if 194 with (fail)
  refine Xj rfl ?_;by_cases h4:x.a.tmod 4=0
  ·refine NP f.o E.o t e.o h4 ?_ (fun m p z y=>D.o m p z y);exact Ap.mk' _ rfl
  ·refine NO f.o E.o t e.o h4 ?_ (fun m p z y=>D.o m p z y);exact Ap.mk' _ rfl
 by_cases e6:A=6
 ·subst e6;go_upto_if 206 with (fail)
  refine Xj rfl ?_;go_upto_if 206 with (fail)
  refine Xj rfl ?_;by_cases J:0<H.net.l.length
  ·refine Iw f.o E.o t e.o J ?_ (fun m p z y=>D.o m p z y);exact Ap.mk' _ rfl
  ·refine q90 f.o E.o t (by rw[e.o];omega) J ?_ (fun m p z y=>D.o m p z y);exact Ap.mk' _ rfl
 by_cases e7:A=7
 ·subst e7;go_upto_if 206 with (fail)
  refine wp_cond_false rfl ?_;go_upto_if 206 with (fail)
  refine Xj rfl ?_;go_upto_if 206 with (fail)
  refine Xj rfl ?_;by_cases J:0<H.net.l.length
  ·refine PU f.o E.o t e.o J ?_ (fun m p z y=>D.o m p z y);exact Ap.mk' _ rfl
  ·refine q90 f.o E.o t (by rw[e.o];omega) J ?_ (fun m p z y=>D.o m p z y);exact Ap.mk' _ rfl
 by_cases e8:A=8
 ·subst e8;go_upto_if 206 with (fail)
  refine wp_cond_false rfl ?_;go_upto_if 206 with (fail)
  refine wp_cond_false rfl ?_;go_upto_if 206 with (fail)
  refine Xj rfl ?_;by_cases J:0<H.net.l.length
  ·refine NN f.o E.o t e.o J ?_ (fun m p z y=>D.o m p z y);exact Ap.mk' _ rfl
  ·refine q90 f.o E.o t (by rw[e.o];omega) J ?_ (fun m p z y=>D.o m p z y);exact Ap.mk' _ rfl
 by_cases e9:A=9
 ·subst e9;go_upto_if 245 with (fail)
  refine Xj rfl ?_;refine PT f.o E.o t e.o ?_ (fun m p z y=>D.o m p z y);exact Ap.mk' _ rfl
 by_cases U:A=10
 ·subst U;go_upto_if 252 with (fail)
  refine Xj rfl ?_;refine PW f.o E.o t e.o Z (fun c a d v W h=>I c a d v W h) ?_ (fun m p z y=>D.o m p z y);exact Ap.mk' _ rfl
 by_cases S:A=11
 ·subst S;go_upto_if 266 with (fail)
  refine Xj rfl ?_;refine S3 f.o E.o t e.o ?_ (fun m p z y=>D.o m p z y);exact Ap.mk' _ rfl
 by_cases R:A=12
 ·subst R;go_upto_if 273 with (fail)
  refine Xj rfl ?_;refine PX f.o E.o t e.o ?_ (fun m p z y=>D.o m p z y);exact Ap.mk' _ rfl
 have b0:(A == 0)=Jx:=by simpa using e0
 have b1:(A == 1)=Jx:=by simpa using e1
 have b2:(A == 2)=Jx:=by simpa using e2
 have b3:(A == 3)=Jx:=by simpa using e3
 have b4:(A == 4)=Jx:=by simpa using e4
 have b5:(A == 5)=Jx:=by simpa using e5
 have b6:(A == 6)=Jx:=by simpa using e6
 have b7:(A == 7)=Jx:=by simpa using e7
 have b8:(A == 8)=Jx:=by simpa using e8
 have b9:(A == 9)=Jx:=by simpa using e9
 have a6:(A == 10)=Jx:=by simpa using U
 have a5:(A == 11)=Jx:=by simpa using S
 have a4:(A == 12)=Jx:=by simpa using R
 have HX:=LH (show Dc w own F g r o k H T now safe nodes B x W from by
  obtain⟨F2,a2,a1,_,_,_⟩:=f.o;exact⟨own,P,F2,H,T,B,a2,a1,.other (by rw[e.o];omega),WT _⟩)
 go_wp2_with fail;refine D.o _ _ ?_ HX.o;exact Ap.mk' _ rfl
def Kk (H:Hs) (now:Int) (i:Nat) (T:List AZ):List AZ:=T.mapIdx fun j t=>if j<i then Vf H now j t else t
def qbk (H:Hs) (now:Int) (i:Nat) (T:List AZ):(Kk H now i T).length=T.length:=by unfold Kk;simp
def Rt (H:Hs) (now:Int) (T:List AZ):Kk H now 0 T=T:=by
 unfold Kk;apply YE;intro j;rw[Xr];cases T[j]? <;> simp
def LF (H:Hs) (now:Int) (T:List AZ):Kk H now T.length T=B9 H now T:=by
 unfold Kk B9;apply YE;intro j;rw[Xr,Xr];cases a:T[j]? with
 | none=>rfl
 | some t=>
  obtain⟨hl,_⟩:=List.getElem?_eq_some_iff.1 a;simp[hl]
def OL {H:Hs} {now:Int} {T:List AZ} {t:AZ} (h:(Kk H now i T)[i]? = Bs t):T[i]? = Bs t:=by
 unfold Kk at h;rw[Xr] at h;cases a:T[i]? with
 | none=>rw[a] at h;cases h
 | some u=>rw[a] at h;simpa using h
def F5 {H:Hs} {now:Int} {T:List AZ} {t:AZ} (h:T[i]? = Bs t) (f:¬(t.a4<0/\H.state (i+1)=3)):Kk H now (i+1) T=Kk H now i T:=by
 unfold Kk;apply YE;intro j;rw[Xr,Xr];cases a:T[j]? with
 | none=>rfl
 | some u=>
  simp only[WK,VR];by_cases e:j=i
  ·subst e;rw[h] at a;injection a with a;subst a;rw[if_pos (by omega),if_neg (by omega)];exact if_neg f
  ·by_cases d:j<i
   ·rw[if_pos (by omega),if_pos d]
   ·rw[if_neg (by omega),if_neg d]
def LD {H:Hs} {now:Int} {T:List AZ} {t:AZ} (h:T[i]? = Bs t) (d:t.a4<0/\H.state (i+1)=3):(Kk H now i T).set i { t with a4:=now } = Kk H now (i+1) T:=by
 obtain⟨hl,_⟩:=List.getElem?_eq_some_iff.1 h;apply YE;intro j;rw[Y9,qbk];unfold Kk;rw[Xr,Xr];by_cases e:i=j
 ·subst e;rw[if_pos rfl,if_pos hl,h];simp only[WK];rw[if_pos (by omega)];exact congrArg Bs (if_pos d).symm
 ·rw[if_neg e];cases f:T[j]? with
  | none=>rfl
  | some u=>
   simp only[WK,VR];by_cases a:j<i
   ·rw[if_pos a,if_pos (by omega)]
   ·rw[if_neg a,if_neg (by omega)]
def Ny (W:D0) (own:Ah) (P:Aq) (F:Nat->Prop) (g r o k:Nat) (H:Hs) (T:List AZ) (now:Int) (safe:Bool) (nodes:Nat) (B:Nat) (v:O0) (wr:D0):Prop:=
 ∃ (i:Nat) (a:Nat->Prop),v=.int .i64 i/\i<=T.length/\CV wr own P a g r o k H (Kk H now i T) now safe nodes B/\Gr W own F wr own a
def Lh (c:CV W own P F g r o k H T now safe nodes B) (hm:H.m<=1000) (h7:T.length<=7) (a5:∀ c a d v W,Q (.panic c) (Xl a (Bs d) v) W->Q (.panic c) a W)
  (h0:Ap (pw g) s1 s3 V' s5 a0) (hQ:∀ a' W' F',a'.defers=[]->CV W' own P F' g r o k H (B9 H now T) now safe nodes B->Gr W own F W' own F'->Q .normal a' W'):Yh Tryz.prog (cR FL) Q a0 W:=by
 obtain⟨u,rfl⟩:=h0;have HC:=LH c;have HQ:=LH hQ;clear c hQ;unfold Ek pw;simp only[wy,CG,Cy,CA,FM,En,E5,FN,EV,FO,E6,BB,FL,GV,cL,cR,cT,cE,cB,Tryz.f10,Xg];go_wp2_with fail;go_loopw [14] (Ny W own P F g r o k H T now safe nodes B) (fun v _=>7-(intOf v).toNat)
 case atStart=>exact⟨0,F,rfl,VN _,by rw[Rt];exact HC.o,Gr.refl _ _ _⟩
 case round=>
  obtain⟨i,F1,rfl,hi,x,K⟩:=hrel;obtain⟨V3,R,m,t,O,c0,c1,c2,_,_,ai⟩:=x.cells;have ac:R.length=T.length:=by rw[<- qbk H now i T,<- t,We]
  obtain⟨A0,k0,M,_,_⟩:=AR m.row;have E:=LH x;have D:=LH K;by_cases ae:(i:Int)<R.length
  ·have X:i<R.length:=by omega
   obtain⟨y,hy⟩:∃ y,R[i]? = Bs y:=⟨_,L1 X⟩
   obtain⟨gV,cap,A,Z,af⟩:=q5c m.row (show 0<R.length by omega);obtain⟨_,d2⟩:=GJ m hy A;rw[A] at c1;have a1:T[i]? = Bs y.t:=OL (by rw[<- t,V8,hy];rfl);have S:=LH a1;have U:=LH (q4c x.hi hm ((i:Int)+1));have aa:=LH m;have a9:=LH t;have a2:=LH O;have HY:=LH hy;have a8:=LH A;have ad:IntKind.i64.wrap ((i:Int)+1)=(i:Int)+1:=V4 _ ⟨by omega,by omega⟩;have ag:=Z (i*3+2);unfold pw at U c0;clear m t O hy A M x K a1 Z;by_cases z:y.t.a4<0
   ·have hd:decide (y.t.a4<0)=VJ:=decide_eq_true z;by_cases p:H.state ((i:Int)+1)=3
    ·have HX:=LH (show Ny W own P F g r o k H T now safe nodes B (.int .i64 ((i+1:Nat):Int)) (wr.setCell ⟨gV,i*3+2,B0⟩ (.int .i64 now)).drew from by
      obtain⟨q1,q2,q3⟩:=aa.o.setTo HY.o a8.o now;obtain⟨a7,a4⟩:=E.o.cB (T':=Kk H now (i+1) T) q2 (fun b hb e=>a2.o b (.inr (.inl e.symm))) q1 (by rw[List.map_set,a9.o];exact LD S.o ⟨z,p⟩) (fun b hb=>.inl (a2.o b (q3 b hb)));obtain⟨a6,a3⟩:=a7.below (VK (wr.setCell ⟨gV,i*3+2,B0⟩ (.int .i64 now)).heap.size (wr.setCell ⟨gV,i*3+2,B0⟩ (.int .i64 now))).drew;exact⟨i+1,_,rfl,by omega,a6,D.o.trans (a4.trans a3)⟩)
     rw[p] at U;clear p;go_wp2_with fail;refine U.o.mono ?_;rintro e w2 ⟨rfl,rfl⟩;clear U c0;go_upto_region 52 with (fail)
     refine nW ?_;refine CF (fun W=>W.cell? ⟨g,1,B0⟩=Bs (.slice (Bs ⟨gV,0,B0⟩) R.length cap)/\W.cell? ⟨g,2,B0⟩=Bs (.int .i64 now)) 9 a5 (fun f=>?_);have h:(fun W=>W.cell? ⟨g,1,B0⟩=Bs (.slice (Bs ⟨gV,0,B0⟩) R.length cap)/\W.cell? ⟨g,2,B0⟩=Bs (.int .i64 now)) wr.drew:=⟨c1,c2⟩
     refine nD 0 [1,2,3,9,10,11] f h ?_;refine nD 1 [2,3,9,10,11] f h ?_;refine nD 2 [3,9,10,11] f h ?_;refine nA 3 [9,10,11] rfl rfl f h (fun w' J=>by obtain⟨p0,p1⟩:=J;go_simp;rfl) ?_;refine nD 4 [9,10,11] f h ?_;refine nD 5 [6,7,8,9,10,11] f h ?_;refine nD 6 [7,8,9,10,11] f h ?_;refine nD 7 [8,9,10,11] f h ?_;refine nA 8 [9,10,11] rfl rfl f h (fun w' J=>by obtain⟨p0,p1⟩:=J;go_simp;rfl) ?_;clear h;refine nG 9 (fun KK I=>?_);go_simp;refine I _ _ nZ ?_;clear I KK;refine nG 10 (fun KK I=>?_);go_simp;refine I _ _ nZ ?_;clear I KK;refine nG 11 (fun KK I=>?_);go_simp;refine I _ _ nZ ?_;clear I KK;refine nX ?_;clear f;go_wp2_with fail;go_roundw
     ·exact HX.o
     ·simp[intOf];omega
    ·have HX:=LH (show Ny W own P F g r o k H T now safe nodes B (.int .i64 ((i+1:Nat):Int)) wr from⟨i+1,F1,rfl,by omega,by rw[F5 S.o (fun e=>p e.2)];exact E.o,D.o⟩);have ah:(H.state ((i:Int)+1) == 3)=Jx:=by simpa using p
     go_wp2_with fail;refine U.o.mono ?_;rintro e w2 ⟨rfl,rfl⟩;clear U c0;go_wp2_with fail;go_roundw
     ·exact HX.o
     ·simp[intOf];omega
   ·have HX:=LH (show Ny W own P F g r o k H T now safe nodes B (.int .i64 ((i+1:Nat):Int)) wr from⟨i+1,F1,rfl,by omega,by rw[F5 S.o (fun e=>z e.1)];exact E.o,D.o⟩);have hd:decide (y.t.a4<0)=Jx:=decide_eq_false z;clear U c0;go_wp2_with fail;go_roundw
    ·exact HX.o
    ·simp[intOf];omega
  ·have Y:i=T.length:=by omega
   have ab:=LH (show CV wr own P F1 g r o k H (B9 H now T) now safe nodes B from by rw[<- LF,<- Y];exact E.o);rw[M] at c1;clear m t O M x K Y c0 c2;go_wp2_with fail;exact HQ.o _ _ _ rfl ab.o D.o
def q9o (c:CV w own P F g r o k H T now safe nodes B) (ha:Ad H Bd) (aa:Bd<=999000) (hm:H.m=T.length) (h7:T.length<=7) (aA:0<=now) (az:now<=1000000) (hB:B<=1000) (ak:1<=nodes/\nodes<=3) (x:ActX) (hx:x.val.size<=Wo) :
  VY Tryz.prog 10 #[pw g,Mu x] w (Uv w own F g r o k safe nodes fun H' T' v B'=>v=now+1/\B'<=B+1/\∃ T1,Ba safe nodes (now+1) x H T H' T1/\T'=B9 H' (now+1) T1):=by
 have ae:=LH (DQ.start c x (now+1));obtain⟨V9,L9,y,hT,hF,_,_,c2,_,_,gl⟩:=c.cells;have ad:(w.alloc (.cells (Ez x) 34)).cell? ⟨g,2,B0⟩=Bs (.int .i64 now):=(WX w _ ⟨g,2,B0⟩ gl).trans c2;have ac:g<(w.alloc (.cells (Ez x) 34)).heap.size:=by simp;omega
 have f2:(w.alloc (.cells (Ez x) 34)).frozen? ⟨g,2,B0⟩=Jx:=(y.ak.alloc _).frozen 2;have ai:IntKind.i64.wrap (now+1)=now+1:=V4 _ ⟨by omega,by omega⟩;have HA:=LH ha;clear c y hT hF c2 ha;unfold Mu;unfold Ez at ad ac f2;unfold pw at *;go_enter Tryz.func10,Tryz.ntmps10;go_upto_region 3 with (fail)
 clear ad ac f2 ai;generalize a5:World.alloc _ _=M;have p:DQ w own P F g r o k H T (now+1) safe nodes B w.heap.size x M:=by rw[<- a5];exact ae.o
 clear ae a5;generalize Y:w.heap.size=U at *;have aB:=LH Y;clear Y;have O:=LH p;obtain⟨F1,a9,ao,K,_,_⟩:=p;obtain⟨V,L,y,hT,hF,c0,c1,c2,c3,c4,gl⟩:=a9.cells;obtain⟨A0,k0,a6,_,_⟩:=AR y.row;have A:T.length=L.length:=by rw[<- hT,We]
 have ap:L.length<=7:=by omega
 rw[a6] at c1;have HL:=LH A;obtain⟨a0,a1,a2,a3,al⟩:=acts _ _ _ K;have HK:=LH (acts _ _ _ K);clear a9 ao K y hT hF c0 c2 c3 c4 a6 a0 a2 a3;go_upto_if 27 with (fail)
 go_cut [4] (fun s4 wx=>s4=.int .i64 (Bi T x.tx)/\DQ w own P F g r o k H T (now+1) safe nodes B U x wx)
 case first=>
  by_cases hl:L.length=0
  ·have t:∀ (inst:Decidable (0<L.length)),@decide (0<L.length) inst=Jx:=fun _=>decide_eq_false (by omega)
   simp only[t];have HX:=LH (show DQ w own P F g r o k H T (now+1) safe nodes B U x M from O.o);have aw:=LH (idT_0 (tx:=x.tx) (A.trans hl));clear hl;go_wp2_with fail;go_meet;exact⟨by rw[aw.o],HX.o⟩
  ·have t:∀ (inst:Decidable (0<L.length)),@decide (0<L.length) inst=VJ:=fun _=>decide_eq_true (by omega)
   simp only[t];have av:=LH (idT_1 (tx:=x.tx) (show T.length≠0 by omega));have ay:=K9 x.tx (n:=L.length) (by omega);have ax:IntKind.i64.wrap (1+(Aw x.tx L.length:Int))=1+(Aw x.tx L.length:Int):=V4 _ ⟨by omega,by omega⟩;have au:=LH (Tw x.tx L.length (by omega) (by omega) M.drew);have HX:=LH (O.o.below (VK M.heap.size M).drew);clear hl t;go_upto_region 4 with (fail)
   refine nW ?_;refine CF (fun W=>W.cell? ⟨U,1,B0⟩=Bs (.int .i64 x.tx)/\W.cell? ⟨g,1,B0⟩=Bs (.slice A0 L.length k0)) 7 (fun _ _ _ _ _ h=>h) (fun d=>?_);have a:M.drew.cell? ⟨U,1,B0⟩=Bs (.int .i64 x.tx)/\M.drew.cell? ⟨g,1,B0⟩=Bs (.slice A0 L.length k0):=⟨a1,c1⟩
   refine nD 0 [1,7,8,9] d a ?_;refine nA 1 [7,8,9] rfl rfl d a (fun w' m=>by obtain⟨S,R⟩:=m;go_simp;rfl) ?_;refine nD 2 [3,4,5,6,7,8,9] d a ?_;refine nD 3 [4,5,6,7,8,9] d a ?_;refine nD 4 [5,6,7,8,9] d a ?_;refine nA 5 [6,7,8,9] rfl rfl d a (fun w' m=>by obtain⟨S,R⟩:=m;go_simp;rfl) ?_;refine nD 6 [7,8,9] d a ?_;clear a;refine nG 7 (fun u f=>?_);go_simp;refine au.o.mono ?_;rintro e w2 ⟨rfl,rfl⟩;go_simp;refine f _ _ nZ ?_;clear f u;refine nG 8 (fun u f=>?_);go_simp;refine f _ _ nZ ?_;clear f u;refine nG 9 (fun u f=>?_);go_simp;refine f _ _ nZ ?_;clear f u;refine nX ?_;clear d;go_wp2_with fail;go_meet;exact⟨by rw[av.o,A],HX.o⟩
 case rest=>
  obtain⟨rfl,p⟩:=hcut;have E:=LH (p.below (VK wc.heap.size wc).drew);obtain⟨F2,D,I,z,_,_⟩:=p;obtain⟨b0,b1,b2,b3,bl⟩:=acts _ _ _ z;obtain⟨n0,nq,ah,ag⟩:=D.nm;have n1:=nq _ _ (T5 x.a);have am:=K9 x.a (n:=4) (by omega);have af:=LH (show VY Tryz.prog 13 #[.int .i64 x.a,.int .i64 4] wc.drew fun e w'=>e=.returned (.int .i64 (Aw x.a 4))/\wc.drew=w' from Tw x.a 4 (by omega) (by omega) wc.drew);clear D I z b0 b1 b3 nq A ap HL HK O c1 a1 al gl;generalize Aw x.a 4=pk at *;go_upto_region 5 with (fail)
  refine nW ?_;refine CF (fun W=>W.cell? ⟨U,2,B0⟩=Bs (.int .i64 x.a)/\W.cell? ⟨0,0,B0⟩=Bs (.slice (Bs ⟨r,o,B0⟩) 4 k)/\W.cell? ⟨r,o+pk,B0⟩=Bs (.string ⟨(AY x.a).toArray⟩)) 6 (fun _ _ _ _ _ h=>h) (fun d=>?_);have a:wc.drew.cell? ⟨U,2,B0⟩=Bs (.int .i64 x.a)/\wc.drew.cell? ⟨0,0,B0⟩=Bs (.slice (Bs ⟨r,o,B0⟩) 4 k)/\wc.drew.cell? ⟨r,o+pk,B0⟩=Bs (.string ⟨(AY x.a).toArray⟩):=⟨b2,n0,n1⟩
  refine nA 0 [6,7,8] rfl rfl d a (fun w' m=>by obtain⟨S,R,p2⟩:=m;go_simp;rfl) ?_;refine nD 1 [2,5,6,7,8] d a ?_;refine nA 2 [5,6,7,8] rfl rfl d a (fun w' m=>by obtain⟨S,R,p2⟩:=m;go_simp;rfl) ?_;refine nA 3 [4,5,6,7,8] rfl rfl d a (fun w' m=>by obtain⟨S,R,p2⟩:=m;go_simp;rfl) ?_;refine nD 4 [5,6,7,8] d a ?_;refine nG 5 (fun u f=>?_);go_simp;refine af.o.mono ?_;rintro e w2 ⟨rfl,rfl⟩;go_simp;refine f _ _ (fun _=>a) ?_;clear f u;obtain⟨S,R,p2⟩:=a;refine nG 6 (fun u f=>?_);go_simp;rw[if_pos (show(pk:Int)<4 by omega)];go_simp;refine f _ _ nZ ?_;clear f u;refine nG 7 (fun u f=>?_);go_simp;refine f _ _ nZ ?_;clear f u;refine nG 8 (fun u f=>?_);go_simp;refine f _ _ nZ ?_;clear f u;refine nX ?_;clear d S R p2 n0 n1 am af ah ag;have p:=E.o;generalize World.drew _=W2 at *;clear E;have E:=LH p;obtain⟨F2,D,I,z,aj,aq⟩:=p;obtain⟨b0,b1,b2,b3,bl⟩:=acts _ _ _ z;clear D I z b1 b2 b3 aj aq;go_upto_block 0 with (fail)
  refine GU (s1:=Mu x) E.o HA.o aa hm h7 hB ak ?_ ?_ ?_
  ·exact fun _ _ _ _ _ h=>h
  ·unfold pw Mu;exact Nw.mk' _ rfl rfl
  ·rintro a' W' hf ⟨X,P3,F3,H3,T3,B3,a8,a4,J,ar⟩;have an:=J.cnt HA.o aa hm h7
   apply_assumption
   refine Lh a8 (by omega) an.2.1 ?_ hf (fun a2 W2 F4 t a7 Z=>?_)
   ·exact fun _ _ _ _ _ h=>h
   have HX:=LH (show Uv w own F g r o k safe nodes (fun H' T' v B'=>v=now+1/\B'<=B+1/\∃ T1,Ba safe nodes (now+1) x H T H' T1/\T'=B9 H' (now+1) T1) (.returned (.tuple #[])) W2 from⟨rfl,X,P3,F4,H3,_,now+1,B3,a7,a4.trans Z,rfl,ar,T3,J,rfl⟩);clear a8 a4 J a7 Z hf;exact bodyPost_end (results_none rfl a2.tmps Tryz.prog W2) t HX.o
end
def q4j (e:h tx=Bs m):AA h tx=m:=by simp[AA,e]
def q80 {mode:Int} (f:Br mode) (a:mode<=AA h tx):Au h tx mode=h:=by
 funext o;unfold Au Be;split
 ·rename_i e;subst e;cases d:h o with
  | none=>unfold AA at a;rw[d] at a;unfold Br at f;simp at a;omega
  | some m=>rw[q4j d] at a ⊢;rw[Int.max_eq_left a]
 ·rfl
def RJ {mode o:Int} (f:Br mode) (t:∀ o m,h o=Bs m->Br m) (e:Au h tx mode o=Bs 2):(o=tx/\(mode=2\/h tx=Bs 2))\/(o≠tx/\h o=Bs 2):=by
 unfold Au Be at e;split at e
 ·rename_i d;injection e with e;refine .inl ⟨d,?_⟩;unfold Br at f;rcases f with p|p
  ·right;unfold AA at e;cases a:h tx with
   | none=>rw[a] at e;simp at e;omega
   | some m=>
    rw[a] at e;have:=t _ _ a;simp at e;have:m=2:=by unfold Br at this;omega
    rw[this]
  ·exact .inl p
 ·rename_i d;exact .inr ⟨d,e⟩
structure Dt (h:Int->Option Int):Prop where
 one:∀ o,h o=Bs 2->∀ p m,h p=Bs m->p=o
 hm:∀ o m,h o=Bs m->Br m
def q3z (h:Int->Option Int) (tx mode:Int):Au h tx mode tx=Bs (max (AA h tx) mode):=by unfold Au Be;rw[if_pos rfl]
def SN {o:Int} (e:o≠tx) (mode:Int):Au h tx mode o=h o:=by unfold Au Be;rw[if_neg e]
def Dt.hold (r:Dt h) (o:Int):AA h o=0\/AA h o=1\/AA h o=2:=by
 unfold AA;cases e:h o with
 | none=>exact .inl rfl
 | some m=>exact .inr (r.hm o m e)
def Dt.cG (r:Dt h) {mode:Int} (x:Br mode) {left:List (Int×Int)} (t:Cc h tx mode left):Dt (Au h tx mode):=by
 rcases t with t|⟨t,_⟩
 ·rw[q80 x t];exact r
 ·refine⟨fun o d p m u=>?_,fun o m d=>?_⟩
  ·rcases RJ x r.hm d with ⟨rfl,f⟩|⟨v,f⟩
   ·refine V5 (fun a=>?_);rw[SN a] at u;rcases f with f|f
    ·have:=t p m u a;simp[AI,f] at this
    ·exact a (r.one o f p m u)
   ·have:=t o 2 f v;simp[AI] at this
  ·by_cases e:o=tx
   ·subst e;rw[q3z] at d;injection d with d;have:=r.hold o;unfold Br at *;omega
   ·rw[SN e] at d;exact r.hm o m d
def O5 (r:Dt h) {mode o:Int} (A:Br mode) (e:o≠tx) {left:List (Int×Int)} (a:Cc (Au h tx mode) o m left):Cc h o m left:=by
 have z:AA (Au h tx mode) o=AA h o:=by unfold AA;rw[SN e]
 rcases a with a|⟨a,x⟩
 ·exact .inl (by rw[<- z];exact a)
 ·refine .inr ⟨fun p t u d=>?_,x⟩;by_cases v:p=tx
  ·subst v;have f:=a p _ (q3z h p mode) d;have y:AA h p=t:=q4j u;have D:=r.hm p t u;rw[y] at f;unfold AI at f ⊢;simp only[Bool.or_eq_false_iff,decide_eq_false_iff_not] at f ⊢;unfold Br at *;exact⟨by omega,f.2⟩
  ·exact a p t (by rw[SN v];exact u) d
def Du (h:Int->Option Int) (l:List (Int×Int)):Prop:=∀ a w b,l=a++w::b->¬Cc h w.1 w.2 a
def Du.nil (h:Int->Option Int):Du h []:=fun a w b e=>by simp at e
def Du.snoc {l:List (Int×Int)} {w:Int×Int} (m:Du h l) (f:¬Cc h w.1 w.2 l):Du h (l++[w]):=fun a v b e=>by
 rcases List.eq_nil_or_concat b with rfl|⟨p,x,rfl⟩
 ·have:=YL e rfl;obtain⟨rfl,d⟩:=this;injection d with d;subst d;exact f
 ·rw[List.concat_eq_append,<- XY,<- List.append_assoc] at e;have:=YL e rfl;exact m a v p this.1
def Du.cG (r:Dt h) {mode:Int} (f:Br mode) {l:List (Int×Int)} (p:Du h l) (d:∀ w∈l,w.1≠tx):Du (Au h tx mode) l:=fun a w b e m=>
 p a w b e (O5 r f (d w (by rw[e];simp)) m)
structure RgP (h:Int->Option Int) (l:List (Int×Int)) (R:(Int->Option Int)×List (Int×Int)×List (Int×Int)):Prop where
 dy:Dt R.1
 sorted:R.2.1.Pairwise (·.1 < ·.1)
 ak:Du R.1 R.2.1
 up:∀ o m,h o=Bs m->∃ m',R.1 o=Bs m'/\m<=m'
 all:∀ w∈l,w∈R.2.1\/(w∈R.2.2/\∃ m',R.1 w.1=Bs m'/\w.2<=m')
 di:∀ w∈R.2.1,w∈l
 gsub:∀ w∈R.2.2,w∈l
 disj:∀ w∈R.2.1,∀ g∈R.2.2,w.1≠g.1
 src:∀ o m,R.1 o=Bs m->h o=Bs m\/∃ g∈R.2.2,g.1=o
def Fw {a b:List (Int×Int)} {w:Int×Int} (h:(a++w::b).Pairwise (·.1 < ·.1)) (d:v∈a++b):v.1≠w.1:=by
 have e:=List.pairwise_append.1 h;rcases List.mem_append.1 d with d|d
 ·have:=e.2.2 v d w VH;omega
 ·have:=(List.pairwise_cons.1 e.2.1).1 v d;omega
def q71:∀ (ws left:List (Int×Int)) (h:Int->Option Int),Dt h->(∀ w∈left++ws,Br w.2)->(left++ws).Pairwise (·.1 < ·.1)->Du h left->RgP h (left++ws) (Do h left ws)
 | [],left,h,r,A,hs,D=>by
  rw[q32];rw[WE] at *;exact⟨r,hs,D,fun o m p=>⟨m,p,WD _⟩,fun w x=>.inl x,fun w x=>x,fun w x=>(nomatch x),fun w _ g f=>(nomatch f),fun o m p=>.inl p⟩
 | w::ws,left,h,r,A,hs,D=>by
  have u:=A w (by simp);have y:∀ v∈left++ws,v.1≠w.1:=fun v a=>Fw hs a
  have J:(left++ws).Pairwise (·.1 < ·.1):=hs.sublist (by simp);unfold Do;by_cases e:Ai h w.1 w.2 left=VJ
  ·rw[if_pos e];have f:=r.cG u (QR.1 e);have d:=q71 ws left (Au h w.1 w.2) f (fun v a=>A v (by simp at *;rcases a with h|h;exact .inl h;exact .inr (.inr h))) J (D.cG r u (fun v a=>y v (by simp[a])));obtain⟨M,z,K⟩:=d.up w.1 _ (q3z h w.1 w.2);refine⟨d.dy,d.sorted,d.ak,fun o m p=>?_,fun v a=>?_,fun v a=>?_,fun v a=>?_,fun v a g f=>?_,fun o m p=>?_⟩
   ·by_cases t:o=w.1
    ·subst t;exact⟨M,z,by rw[q4j p] at K;omega⟩
    ·exact d.up o m (by rw[SN t];exact p)
   ·by_cases t:v=w
    ·subst t;exact .inr ⟨VH,M,z,by omega⟩
    ·have I:v∈left++ws:=by simp at *;rcases a with h|h|h;exact .inl h;exact absurd h t;exact .inr h
     rcases d.all v I with h|⟨h,R⟩
     ·exact .inl h
     ·exact .inr ⟨VI _ h,R⟩
   ·have:=d.di v a;simp at *;rcases this with h|h;exact .inl h;exact .inr (.inr h)
   ·rcases List.mem_cons.1 a with rfl|a
    ·simp
    ·have:=d.gsub v a;simp at *;rcases this with h|h;exact .inl h;exact .inr (.inr h)
   ·rcases List.mem_cons.1 f with rfl|f
    ·exact y v (d.di v a)
    ·exact d.disj v a g f
   ·rcases d.src o m p with E|⟨g,f,E⟩
    ·by_cases t:o=w.1
     ·exact .inr ⟨w,VH,t.symm⟩
     ·rw[SN t] at E;exact .inl E
    ·exact .inr ⟨g,VI _ f,E⟩
  ·rw[if_neg e];have d:=q71 ws (left++[w]) h r (by simpa using A) (by simpa using hs) (D.snoc (fun O=>e (QR.2 O)));have S:left++[w]++ws=left++w::ws:=by simp
   rw[S] at d;exact d
structure GK (k:Kx):Prop where
 dy:Dt k.h
 wm:∀ w∈k.ws,Br w.2
 sorted:k.ws.Pairwise (·.1 < ·.1)
 ak:Du k.h k.ws
def GK.zero:GK k0:=⟨⟨fun _ h=>(nomatch h),fun _ _ h=>(nomatch h)⟩,fun _ h=>(nomatch h),Yk,Du.nil _⟩
def Dt.off (r:Dt h) (tx:Int):Dt (Be h tx B0):=by
 have a:∀ o m,Be h tx B0 o=Bs m->h o=Bs m:=fun o m e=>by
  unfold Be at e;split at e
  ·cases e
  ·exact e
 exact⟨fun o d p m f=>r.one o (a _ _ d) p m (a _ _ f),fun o m d=>r.hm o m (a _ _ d)⟩
def UQ {k:Kx} (g:GK k) (tx:Int):RgP (Be k.h tx B0) (AC k.ws tx) ((B5 k tx).1.h,(B5 k tx).1.ws,(B5 k tx).2):=by
 have h:=q71 (AC k.ws tx) [] (Be k.h tx B0) (g.dy.off tx) (fun w a=>g.wm w (List.mem_filter.1 a).1) (q9u g.sorted tx) (Du.nil _);exact h
def GK.rel {k:Kx} (g:GK k) (tx:Int):GK (B5 k tx).1:=by
 have h:=UQ g tx;exact⟨h.dy,fun w a=>g.wm w (List.mem_filter.1 (h.di w a)).1,h.sorted,h.ak⟩
def q61 {a:List (Int×Int)} {w:Int×Int} : w∈AC a tx↔w∈a/\w.1≠tx:=by
 unfold AC;rw[YY];simp
def QF {k:Kx} (g:GK k) (tx:Int):(B5 k tx).1.h tx=B0/\∀ w∈(B5 k tx).1.ws,w.1≠tx:=by
 have h:=UQ g tx;refine⟨?_,fun w d=>(q61.1 (h.di w d)).2⟩;cases e:(B5 k tx).1.h tx with
 | none=>rfl
 | some m=>
  rcases h.src tx m e with a|⟨p,f,a⟩
  ·unfold Be at a;rw[if_pos rfl] at a;cases a
  ·exact absurd a (q61.1 (h.gsub p f)).2
def Ts (T:Tb) (tx:Int) (x:Sx):(Ac (Bj T tx) x).h=(B5 (Ac T x) tx).1.h/\(Ac (Bj T tx) x).ws=(B5 (Ac T x) tx).1.ws:=by
 unfold Ac Bj;cases e:T x with
 | none=>exact⟨(UN tx).1.symm,(UN tx).2.symm⟩
 | some k=>
  simp only[Option.bind_some,E2,Option.getD_some];by_cases h:qbv (B5 k tx).1
  ·rw[if_pos h];exact⟨(funext h.1).symm,h.2.symm⟩
  ·rw[if_neg h];exact⟨rfl,rfl⟩
def GT (T:Tb):Prop:=∀ x,GK (Ac T x)
def GT.none_:GT (fun _=>B0):=fun _=>GK.zero
def GT.rel {T:Tb} (g:GT T) (tx:Int):GT (Bj T tx):=fun x=>by
 obtain⟨d,a⟩:=Ts T tx x;have h:=(g x).rel tx;exact⟨by rw[d];exact h.dy,by rw[a];exact h.wm,by rw[a];exact h.sorted,by rw[d,a];exact h.ak⟩
def Hd (T:Tb) (x:Sx) (i mode:Int):Prop:=∃ m,(Ac T x).h i=Bs m/\mode<=m
def Wt (T:Tb) (x:Sx) (i mode:Int):Prop:=(i,mode)∈(Ac T x).ws
def Hd.d5 {T:Tb} (g:GT T) {i j:Int} (h:Hd T x i 2) (k:Hd T x j 1):i=j:=by
 obtain⟨m,a,p⟩:=h;obtain⟨n,d,f⟩:=k;have e:=(g x).dy.hm i m a;have:m=2:=by unfold Br at e;omega
 subst this;exact((g x).dy.one i a j n d).symm
def Hd.mono {T:Tb} {i n:Int} (h:Hd T x i m) (d:n<=m):Hd T x i n:=by obtain⟨q,a,e⟩:=h;exact⟨q,a,by omega⟩
def Hd.rel {T:Tb} (g:GT T) {i:Int} (h:Hd T x i m) (e:i≠tx):Hd (Bj T tx) x i m:=by
 obtain⟨q,f,t⟩:=h;obtain⟨a,d,p⟩:=(UQ (g x) tx).up i q (by unfold Be;rw[if_neg e];exact f);exact⟨a,by rw[(Ts T tx x).1];exact d,by omega⟩
def qce {T:Tb} (g:GT T) {o:Int} (h:(Ac (Bj T tx) x).h o=Bs m):o≠tx/\((Ac T x).h o=Bs m\/∃ md,Wt T x o md):=by
 rw[(Ts T tx x).1] at h;have f:o≠tx:=fun e=>by subst e;rw[(QF (g x) o).1] at h;cases h
 refine⟨f,?_⟩;rcases(UQ (g x) tx).src o m h with d|⟨w,hw,d⟩
 ·unfold Be at d;rw[if_neg f] at d;exact .inl d
 ·have:=(q61.1 ((UQ (g x) tx).gsub w hw)).1;obtain⟨a,b⟩:=w;have d:a=o:=d;subst d;exact .inr ⟨b,this⟩
def qbh {T:Tb} (g:GT T) {o:Int} (h:Wt (Bj T tx) x o m):o≠tx/\Wt T x o m:=by
 unfold Wt at *;rw[(Ts T tx x).2] at h;have:=q61.1 ((UQ (g x) tx).di _ h);exact⟨this.2,this.1⟩
def q70 {T:Tb} (g:GT T) {o:Int} (h:Wt T x o m) (e:o≠tx):(Wt (Bj T tx) x o m/\¬JM T tx o x)\/(JM T tx o x/\Hd (Bj T tx) x o m/\∀ n,¬Wt (Bj T tx) x o n):=by
 have f:=UQ (g x) tx;have u:∃ k,T x=Bs k:=by
  cases E:T x with
  | none=>unfold Wt Ac at h;rw[E] at h;cases h
  | some k=>exact⟨k,rfl⟩
 obtain⟨k,t⟩:=u;have y:Ac T x=k:=by unfold Ac;rw[t];rfl
 have v:∀ o,JM T tx o x↔∃ md,(o,md)∈(B5 (Ac T x) tx).2:=fun o=>by
  unfold JM;rw[y];constructor
  ·rintro ⟨k',md,a,d⟩;rw[t] at a;injection a with a;subst a;exact⟨md,d⟩
  ·rintro ⟨md,d⟩;exact⟨k,md,t,d⟩
 rw[v];rcases f.all (o,m) (q61.2 ⟨h,e⟩) with a|⟨a,z,d,D⟩
 ·refine .inl ⟨by unfold Wt;rw[(Ts T tx x).2];exact a,?_⟩;rintro ⟨md,A⟩;exact f.disj _ a _ A rfl
 ·refine .inr ⟨⟨m,a⟩,⟨z,by rw[(Ts T tx x).1];exact d,D⟩,fun n p=>?_⟩;unfold Wt at p;rw[(Ts T tx x).2] at p;exact f.disj _ p _ a rfl
def Hc {T:Tb} (g:GT T) {o:Int} (h:JM T tx o x):o≠tx/\∃ m,Wt T x o m:=by
 obtain⟨k,md,e,d⟩:=h;have a:Ac T x=k:=by unfold Ac;rw[e];rfl
 have:=q61.1 ((UQ (g x) tx).gsub (o,md) (by rw[a];exact d));exact⟨this.2,md,this.1⟩
def UW (T:Tb) (tx:Int) (y:Sx) (mode:Int) (x:Sx):Ac (Am T tx y mode) x=Ac T x\/(x=y/\Ch (Ac T y).ws tx=Jx/\
  ((Ai (Ac T y).h tx mode (Ac T y).ws=VJ/\Ac (Am T tx y mode) x=⟨Au (Ac T y).h tx mode,(Ac T y).ws⟩)\/
   (Ai (Ac T y).h tx mode (Ac T y).ws=Jx/\Ac (Am T tx y mode) x=⟨(Ac T y).h,BT (Ac T y).ws (tx,mode)⟩))):=by
 unfold Am;split
 ·exact .inl rfl
 ·rename_i d;have d:Ch (Ac T y).ws tx=Jx:=by simpa using d
  split
  ·rename_i a;rw[qd0];split
   ·rename_i e;exact .inr ⟨e,d,.inl ⟨a,rfl⟩⟩
   ·exact .inl rfl
  ·rename_i a;have a:Ai (Ac T y).h tx mode (Ac T y).ws=Jx:=by simpa using a
   split
   ·exact .inl rfl
   ·rw[qd0];split
    ·rename_i e;exact .inr ⟨e,d,.inr ⟨a,rfl⟩⟩
    ·exact .inl rfl
def Fc {a:List (Int×Int)} (h:Ch a tx=Jx):∀ v∈a,v.1≠tx:=fun v d e=>by
 unfold Ch at h;rw[Xp] at h;exact h v d (by simpa using e)
def Mg {a:List (Int×Int)} {mode:Int} (h:US d tx mode=Jx) (hs:∀ w∈a,w∈d):US a tx mode=Jx:=by
 unfold US at *;rw[Xp] at *;exact fun w e=>h w (hs w e)
def Cc.sub {mode:Int} (f:Cc h tx mode e) (hs:∀ w∈d,w∈e):Cc h tx mode d:=
 f.imp id (fun⟨a,b⟩=>⟨a,Mg b hs⟩)
def N6 {w:Int×Int} {a:List (Int×Int)} {b:List (Int×Int)} (e:BT f w=a++v::b) :
  (v=w/\a=f.takeWhile (fun x=>decide (x.1<w.1)))\/∃ h D,f=h++v::D/\∀ u∈h,u∈a:=by
 unfold BT at e;have A:f=f.takeWhile (fun x=>decide (x.1<w.1))++f.dropWhile (fun x=>decide (x.1<w.1)):=(List.takeWhile_append_dropWhile).symm;generalize f.takeWhile (fun x=>decide (x.1<w.1))=p at *;generalize f.dropWhile (fun x=>decide (x.1<w.1))=q at *;subst A;rcases List.append_eq_append_iff.1 e with ⟨h,m,d⟩|⟨y,m,d⟩
 ·
  cases h with
  | nil=>
   simp only[Xt,List.cons.injEq] at d;exact .inl ⟨d.1.symm,by rw[m,WE]⟩
  | cons z h=>
   simp only[XY,List.cons.injEq] at d;obtain⟨rfl,d⟩:=d;refine .inr ⟨p++h,b,by rw[d];simp,fun u t=>?_⟩;rw[m];simp only[List.mem_append,List.mem_cons] at *;exact t.imp id .inr
 ·cases y with
  | nil=>
   simp only[Xt,List.cons.injEq] at d;exact .inl ⟨d.1,by rw[m,WE]⟩
  | cons z y=>
   simp only[XY,List.cons.injEq] at d;obtain⟨rfl,d⟩:=d;exact .inr ⟨a,y++q,by rw[m];simp,fun u t=>t⟩
def q56 {t:Int} : ∀ {d:List (Int×Int)},d.Pairwise (·.1 < ·.1)->∀ {v:Int×Int},v∈d->v.1<t->v∈d.takeWhile (fun x=>decide (x.1<t))
 | [],_,_,h,_=>(nomatch h)
 | u::us,hs,v,a,hlt=>by
  rw[List.pairwise_cons] at hs;have e:u.1<t:=by
   rcases List.mem_cons.1 a with rfl|a
   ·exact hlt
   ·have:=hs.1 v a;omega
  rw[List.takeWhile_cons_of_pos (by simpa using e)];rcases List.mem_cons.1 a with rfl|a
  ·exact VH
  ·exact VI _ (q56 hs.2 a hlt)
def GK.ins {k:Kx} (g:GK k) {mode:Int} (y:Br mode) (t:Ch k.ws tx=Jx) (z:Ai k.h tx mode k.ws=Jx):GK ⟨k.h,BT k.ws (tx,mode)⟩:=by
 refine⟨g.dy,fun w h=>?_,q6n g.sorted (Fc t),fun a w b e m=>?_⟩
 ·rcases q50.1 h with rfl|h
  ·exact y
  ·exact g.wm w h
 ·rcases N6 e with ⟨rfl,D⟩|⟨J,I,E,d⟩
  ·refine(qa7.1 z) ?_;rcases m with h|⟨h,A⟩
   ·exact .inl h
   ·refine .inr ⟨h,?_⟩;subst D;unfold US at *;rw[Xp] at *;intro v u;simp only[Wj,decide_eq_true_eq,not_and,Bool.not_eq_true];intro f;have p:v∈k.ws.takeWhile (fun x=>decide (x.1<(tx,mode).1)):=q56 g.sorted u f;have:=A v p;simpa [f] using this
  ·exact g.ak J w I E (m.sub d)
def GT.lock {T:Tb} (g:GT T) {mode:Int} (a:Br mode) (y:Sx):GT (Am T tx y mode):=fun x=>by
 rcases UW T tx y mode x with h|⟨rfl,e,⟨d,h⟩|⟨d,h⟩⟩
 ·rw[h];exact g x
 ·rw[h];exact⟨(g x).dy.cG a (QR.1 d),(g x).wm,(g x).sorted,(g x).ak.cG (g x).dy a (Fc e)⟩
 ·rw[h];exact(g x).ins a e d
def Hd.lock {T:Tb} {i:Int} (h:Hd T x i m) (tx:Int) (y:Sx) (mode:Int):Hd (Am T tx y mode) x i m:=by
 obtain⟨q,a,d⟩:=h;rcases UW T tx y mode x with h|⟨rfl,_,⟨_,h⟩|⟨_,h⟩⟩
 ·exact⟨q,by rw[h];exact a,d⟩
 ·by_cases e:i=tx
  ·subst e;exact⟨_,by rw[h];exact q3z _ _ _,by rw[q4j a];omega⟩
  ·exact⟨q,by rw[h];exact(SN e _).trans a,d⟩
 ·exact⟨q,by rw[h];exact a,d⟩
def M0 {T:Tb} {mode:Int} {o:Int} (h:(Ac (Am T tx y mode) x).h o=Bs m):(Ac T x).h o=Bs m\/(o=tx/\x=y):=by
 rcases UW T tx y mode x with a|⟨rfl,_,⟨_,a⟩|⟨_,a⟩⟩
 ·rw[a] at h;exact .inl h
 ·rw[a] at h;by_cases e:o=tx
  ·exact .inr ⟨e,rfl⟩
  ·exact .inl ((SN e _).symm.trans h)
 ·rw[a] at h;exact .inl h
def Er {T:Tb} {mode:Int} {o:Int} (h:Wt (Am T tx y mode) x o m):Wt T x o m\/(o=tx/\x=y/\m=mode/\Ai (Ac T y).h tx mode (Ac T y).ws=Jx):=by
 unfold Wt at *;rcases UW T tx y mode x with a|⟨rfl,_,⟨_,a⟩|⟨d,a⟩⟩
 ·rw[a] at h;exact .inl h
 ·rw[a] at h;exact .inl h
 ·rw[a] at h;rcases q50.1 h with h|h
  ·injection h with h4 h5;exact .inr ⟨h4,rfl,h5,d⟩
  ·exact .inl h
def Wt.lock {T:Tb} {i:Int} (h:Wt T x i m) (tx:Int) (y:Sx) (mode:Int):Wt (Am T tx y mode) x i m:=by
 unfold Wt at *;rcases UW T tx y mode x with a|⟨rfl,_,⟨_,a⟩|⟨_,a⟩⟩
 ·rw[a];exact h
 ·rw[a];exact h
 ·rw[a];exact q50.2 (.inr h)
def M1 {T:Tb} {mode:Int} (d:Ch (Ac T x).ws tx=Jx) (a:Ai (Ac T x).h tx mode (Ac T x).ws=VJ):Hd (Am T tx x mode) x tx mode:=by
 unfold Am;rw[d,if_neg (by simp),a,if_pos rfl];refine⟨_,by rw[qd0,if_pos rfl];exact q3z _ _ _,by omega⟩
def FZ {T:Tb} {mode:Int} (e:Ch (Ac T x).ws tx=Jx) (d:Ai (Ac T x).h tx mode (Ac T x).ws=Jx) (a:(Ac T x).ws.length≠50):Wt (Am T tx x mode) x tx mode:=by
 unfold Am Wt;rw[e,if_neg (by simp),d,if_neg (by simp),if_neg a,qd0,if_pos rfl];exact q50.2 (.inl rfl)
def Ds (T:Tb) (x:Sx) (i:Int):Prop:=Ch (Ac T x).ws i=Jx/\Cc (Ac T x).h i 2 (Ac T x).ws
def Ds.of_hd {T:Tb} {i:Int} (h:Hd T x i 2) (d:∀ m,¬Wt T x i m):Ds T x i:=by
 obtain⟨m,t,p⟩:=h;refine⟨?_,.inl (by rw[q4j t];exact p)⟩;unfold Ch;rw[Xp];rintro ⟨a,b⟩ f e;have e:a=i:=by simpa using e
 subst e;exact d b f
def Ds.lock {T:Tb} {i:Int} (h:Ds T x i) (e:Ds T y i):Ds (Am T i y 2) x i:=by
 rcases UW T i y 2 x with a|⟨rfl,f,⟨d,a⟩|⟨d,a⟩⟩
 ·unfold Ds;rw[a];exact h
 ·unfold Ds;rw[a];exact⟨h.1,.inl (by show 2<=(Au (Ac T x).h i 2 i).getD 0;rw[q3z];show 2<=max _ 2;omega)⟩
 ·exact absurd (QR.2 h.2) (by rw[d];simp)
structure PrepP (T T':Tb) (i:Int) (ps:List Pr):Prop where
 gt:GT T'
 hd:∀ p∈ps,Hd T' (sx p.key) i 2
 up:∀ x o m,Hd T x o m->Hd T' x o m
 src:∀ x o m,(Ac T' x).h o=Bs m->(Ac T x).h o=Bs m\/(o=i/\∃ p∈ps,sx p.key=x)
 ws:∀ x,(Ac T' x).ws=(Ac T x).ws
def QK {i:Int} : ∀ (ps:List Pr) {T:Tb},GT T->(∀ p∈ps,Ds T (sx p.key) i)->PrepP T (Cx T i ps) i ps
 | [],T,g,_=>⟨g,fun _ h=>(nomatch h),fun _ _ _ h=>h,fun _ _ _ h=>.inl h,fun _=>rfl⟩
 | p::ps,T,g,hp=>by
  have u:=hp p VH;have d:=QK ps (T:=Am T i (sx p.key) 2) (g.lock (.inr rfl) _) (fun q a=>(hp q (VI _ a)).lock u);have e:Cx T i (p::ps)=Cx (Am T i (sx p.key) 2) i ps:=rfl;rw[e];have v:∀ x,(Ac (Am T i (sx p.key) 2) x).ws=(Ac T x).ws:=fun x=>by
   rcases UW T i (sx p.key) 2 x with f|⟨rfl,t,⟨y,f⟩|⟨y,f⟩⟩
   ·rw[f]
   ·rw[f]
   ·exact absurd (QR.2 u.2) (by rw[y];simp)
  refine⟨d.gt,fun q a=>?_,fun x o m h=>d.up x o m (h.lock _ _ _),fun x o m h=>?_,fun x=>(d.ws x).trans (v x)⟩
  ·rcases List.mem_cons.1 a with rfl|a
   ·exact d.up _ _ _ (M1 u.1 (QR.2 u.2))
   ·exact d.hd q a
  ·rcases d.src x o m h with t|⟨rfl,q,a,t⟩
   ·rcases M0 t with f|⟨rfl,rfl⟩
    ·exact .inl f
    ·exact .inr ⟨rfl,p,VH,rfl⟩
   ·exact .inr ⟨rfl,q,VI _ a,t⟩
def Ed (l:List Cm) (i:Int):Prop:=Aj l 2 i/\¬Aj l 3 i/\¬Aj l 4 i
def Shr (a b:List Pr):Prop:=∃ p∈a,∃ q∈b,sx p.key=sx q.key
def Sd (l:List Cm):Prop:=∀ (q:Nat) (c:Cm),l[q]? = Bs c->c.ai=2->¬Aj (l.take q) 2 c.tx/\¬Aj (l.take q) 3 c.tx/\¬Aj (l.take q) 4 c.tx/\∀ w∈l.take q,w.ai=2->Shr w.ad c.ad->¬Ed (l.take q) w.tx
def IP {l:List Cm} (d:l' <+: l) (a:q<=l'.length):l'.take q=l.take q:=by
 obtain⟨r,rfl⟩:=d;rw[Wq a]
def Sd.pre {l:List Cm} (h:Sd l) (a:l' <+: l):Sd l':=fun q c d=>by
 have e:=(List.getElem?_eq_some_iff.1 d).1;rw[IP a (Yi e)];exact h q c (getElem?_prefix a d)
def Sd.snoc {l:List Cm} (h:Sd l) (p:c.ai=2->¬Aj l 2 c.tx/\¬Aj l 3 c.tx/\¬Aj l 4 c.tx/\∀ w∈l,w.ai=2->Shr w.ad c.ad->¬Ed l w.tx):Sd (l++[c]):=fun q d a m=>by
 by_cases f:q<l.length
 ·rw[Wg f] at a;rw[Wq (Yi f)];exact h q d a m
 ·have e:=(List.getElem?_eq_some_iff.1 a).1;simp only[VS,Wl,XT] at e;obtain rfl:q=l.length:=by omega
  simp only[YD,VR] at a;subst a;rw[YX rfl];exact p m
def Aj.left {l:List Cm} {k i:Int} (h:Aj l k i) (r:List Cm):Aj (l++r) k i:=h.mono (fun _ a=>VT _ a)
def SM {l:List Cm} {k i:Int} : Aj (l++[c]) k i↔Aj l k i\/(c.ai=k/\c.tx=i):=by
 unfold Aj;constructor
 ·rintro ⟨d,a,h⟩;rcases List.mem_append.1 a with a|a
  ·exact .inl ⟨d,a,h⟩
  ·rw[VW] at a;subst a;exact .inr h
 ·rintro (⟨d,a,h⟩|h)
  ·exact⟨d,VT _ a,h⟩
  ·exact⟨c,by simp,h⟩
def Ed.d4 {l:List Cm} {i:Int} (h:Ed (l++[c]) i) (a:Aj l 2 i):Ed l i:=⟨a,fun e=>h.2.1 (e.left _),fun e=>h.2.2 (e.left _)⟩
noncomputable def tabT (c:Cm) (T:Tb):Tb:=if c.ai=2 then Cx T c.tx c.ad else if c.ai=3 then Bj T c.tx else if c.ai=4 then Bj T c.tx else T
def Tr (h:c.ai=2) (T:Tb):tabT c T=Cx T c.tx c.ad:=if_pos h
def QM (h:c.ai=3\/c.ai=4) (T:Tb):tabT c T=Bj T c.tx:=by
 unfold tabT;rcases h with h|h
 ·rw[if_neg (by omega),if_pos h]
 ·rw[if_neg (by omega),if_neg (by omega),if_pos h]
def EL (T:Tb) (l:List Cm) (ex:Int->Prop):Prop:=∀ w∈l,w.ai=2->Ed l w.tx->¬ex w.tx->∀ p∈w.ad,Hd T (sx p.key) w.tx 2
def EL.mono {T:Tb} {l:List Cm} {ex a:Int->Prop} (h:EL T l ex) (y:∀ i,ex i->a i) (z:∀ x i m,¬a i->Hd T x i m->Hd T' x i m):EL T' l a:=fun w f v u d p t=>z _ _ _ d (h w f v u (fun e=>d (y _ e)) p t)
def EL.step {T:Tb} {l:List Cm} {ex:Int->Prop} (g:GT T) (h:EL T l ex) {c:Cm} (a:c.ai=2\/c.ai=3\/c.ai=4) (z:c.ai=2->∀ p∈c.ad,Ds T (sx p.key) c.tx) :
  EL (tabT c T) (l++[c]) (fun i=>ex i/\(c.ai=2\/i≠c.tx)):=fun w f d v y p m=>by
 rcases List.mem_append.1 f with f|f
 ·have t:=v.d4 ⟨w,f,d,rfl⟩;rcases a with a|a
  ·have x:=h w f d t (fun e=>y ⟨e,.inl a⟩) p m;rw[Tr a];exact(QK _ g (z a)).up _ _ _ x
  ·have u:w.tx≠c.tx:=fun e=>by
    rcases a with a|a
    ·exact v.2.1 (SM.2 (.inr ⟨a,e.symm⟩))
    ·exact v.2.2 (SM.2 (.inr ⟨a,e.symm⟩))
   have x:=h w f d t (fun e=>y ⟨e,.inr u⟩) p m;rw[QM a];exact x.rel g u
 ·rw[VW] at f;subst f;rw[Tr d];exact(QK _ g (z d)).hd p m
def GT.tabT {T:Tb} (g:GT T) {c:Cm} (a:c.ai=2->∀ p∈c.ad,Ds T (sx p.key) c.tx):GT (tabT c T):=by
 unfold Go.Proofs.YtccahlhdifadfaaGreatDoor.tabT;split
 ·rename_i h;exact(QK _ g (a h)).gt
 ·split
  ·exact g.rel _
  ·split
   ·exact g.rel _
   ·exact g
structure SV (T:Tb) (l:List Cm):Prop where
 gt:GT T
 ws:∀ x,(Ac T x).ws=[]
 src:∀ x o m,(Ac T x).h o=Bs m->Ed l o/\∃ w∈l,w.ai=2/\w.tx=o/\∃ p∈w.ad,sx p.key=x
 cov:EL T l (fun _=>False)
def SV.nil:SV (fun _=>B0) []:=⟨GT.none_,fun _=>rfl,fun _ _ _ h=>(nomatch h),fun _ h=>(nomatch h)⟩
def SV.step {T:Tb} {l:List Cm} (h:SV T l) {c:Cm} (U:Sd (l++[c])) (a:c.ai=2\/c.ai=3\/c.ai=4):SV (tabT c T) (l++[c]):=by
 have t:=fun y=>U l.length c (by simp) y
 simp only[YX rfl] at t;have f:c.ai=2->∀ p∈c.ad,Ds T (sx p.key) c.tx:=fun y p E=>by
  obtain⟨_,_,_,I⟩:=t y;refine⟨by rw[h.ws];rfl,.inr ⟨fun o m z v=>?_,by rw[h.ws];rfl⟩⟩;obtain⟨S,w,u,J,rfl,q,W,D⟩:=h.src _ _ _ z;exact absurd S (I w u J ⟨q,W,p,E,D⟩)
 have A:EL (tabT c T) (l++[c]) (fun _=>False):=(h.cov.step h.gt a f).mono (fun i e=>e.1.elim) (fun x i m _ e=>e);refine⟨h.gt.tabT f,?_,?_,A⟩
 ·intro x;rcases a with a|a
  ·rw[Tr a,(QK _ h.gt (f a)).ws,h.ws]
  ·rw[QM a];refine List.eq_nil_iff_forall_not_mem.2 (fun w u=>?_);have:=qbh h.gt (show Wt (Bj T c.tx) x w.1 w.2 from u);unfold Wt at this;rw[h.ws] at this;exact nomatch this.2
 ·intro x o m z;rcases a with a|a
  ·rw[Tr a] at z;obtain⟨S,Y,X,_⟩:=t a;rcases(QK _ h.gt (f a)).src x o m z with d|⟨rfl,p,E,d⟩
   ·obtain⟨⟨R,O,M⟩,w,u,K⟩:=h.src x o m d;refine⟨⟨R.left _,fun e=>?_,fun e=>?_⟩,w,VT _ u,K⟩
    ·rcases SM.1 e with e|⟨e,_⟩
     ·exact O e
     ·omega
    ·rcases SM.1 e with e|⟨e,_⟩
     ·exact M e
     ·omega
   ·refine⟨⟨SM.2 (.inr ⟨a,rfl⟩),fun e=>?_,fun e=>?_⟩,c,by simp,a,rfl,p,E,d⟩
    ·rcases SM.1 e with e|⟨e,_⟩
     ·exact Y e
     ·omega
    ·rcases SM.1 e with e|⟨e,_⟩
     ·exact X e
     ·omega
  ·rw[QM a] at z;obtain⟨v,d⟩:=qce h.gt z;rcases d with d|⟨md,d⟩
   ·obtain⟨⟨R,O,M⟩,w,u,K⟩:=h.src x o m d;refine⟨⟨R.left _,fun e=>?_,fun e=>?_⟩,w,VT _ u,K⟩
    ·rcases SM.1 e with e|⟨_,e⟩
     ·exact O e
     ·exact v e.symm
    ·rcases SM.1 e with e|⟨_,e⟩
     ·exact M e
     ·exact v e.symm
   ·unfold Wt at d;rw[h.ws] at d;cases d
def vxP (t:Int) (p:Pr):Vx:=⟨t,if p.gone then [] else sx p.val,p.gone⟩
def Ux (l:List Cm) (x:Sx) (v:Vx):Prop:=∃ c w p,c∈l/\c.ai=3/\w∈l/\w.ai=2/\w.tx=c.tx/\p∈w.ad/\sx p.key=x/\v=vxP c.ag p
structure EM (K:Kp) (l:List Cm):Prop where
 sorted:∀ x,FF (K x)
 src:∀ x v,v∈K x->Ux l x v
 all:∀ (q:Nat) (c:Cm),l[q]? = Bs c->c.ai=3->∀ w∈l.take q,w.ai=2->w.tx=c.tx->∀ p∈w.ad,∃ v∈K (sx p.key),v.t=c.ag
def EM.nil:EM (fun _=>[]) []:=⟨fun _=>Yk,fun _ _ h=>(nomatch h),fun q c h=>by simp at h⟩
structure CP (K K':Kp) (S:Sx->Vx->Prop) (N:Sx->Int->Prop):Prop where
 sorted:∀ x,FF (K' x)
 src:∀ x v,v∈K' x->v∈K x\/S x v
 up:∀ x v,v∈K x->v∈K' x
 all:∀ x t,N x t->∃ v∈K' x,v.t=t
def putS_p (hs:∀ x,FF (K x)) {t:Int} (A:0<=t/\t<=60) (f:Sc p):CP K (Cv K 0 ⟨sx p.key,sx p.val,p.gone,t⟩).2 (fun x v=>sx p.key=x/\v=vxP t p) (fun x u=>sx p.key=x/\u=t):=by
 have D:=Ea f.1;have z:=f.2;rw[KY] at z;unfold Cv;rw[if_neg (by show ¬(t<0\/1099511627776<t);omega),if_neg (by show ¬(20<(sx p.key).length\/40<(sx p.val).length);omega),if_neg (by show ¬t<0;omega)];by_cases a:CU (K (sx p.key)) t=VJ
 ·rw[if_pos a];refine⟨hs,fun x v h=>.inl h,fun x v h=>h,?_⟩;rintro x u ⟨rfl,rfl⟩;unfold CU at a;obtain⟨v,m,y⟩:=List.any_eq_true.1 a;exact⟨v,m,by simpa using y⟩
 ·have a:CU (K (sx p.key)) t=Jx:=by simpa using a
  rw[if_neg (by rw[a];simp)];refine⟨fun x=>?_,fun x v h=>?_,fun x v h=>?_,?_⟩
  ·show FF (BS K (sx p.key) _ x);unfold BS;split
   ·exact qa4 (hs _) a
   ·exact hs x
  ·have d:v∈BS K (sx p.key) (Cn (K (sx p.key)) (Ii ⟨sx p.key,sx p.val,p.gone,t⟩)) x:=h;clear h;unfold BS at d;by_cases e:x=sx p.key
   ·rw[if_pos e] at d;subst e;rcases q79.1 d with h|h
    ·exact .inr ⟨rfl,h⟩
    ·exact .inl h
   ·rw[if_neg e] at d;exact .inl d
  ·show v∈BS K (sx p.key) (Cn (K (sx p.key)) (Ii ⟨sx p.key,sx p.val,p.gone,t⟩)) x;unfold BS;split
   ·rename_i e;subst e;exact q79.2 (.inr h)
   ·exact h
  ·rintro x u ⟨rfl,rfl⟩;refine⟨Ii ⟨sx p.key,sx p.val,p.gone,u⟩,?_,rfl⟩;show _∈BS K (sx p.key) (Cn (K (sx p.key)) (Ii ⟨sx p.key,sx p.val,p.gone,u⟩)) (sx p.key);unfold BS;rw[if_pos rfl];exact q79.2 (.inl rfl)
def CP.refl (hs:∀ x,FF (K x)) {N:Sx->Int->Prop} (a:∀ x t,¬N x t):CP K K S N:=⟨hs,fun _ _ h=>.inl h,fun _ _ h=>h,fun x t h=>(a x t h).elim⟩
def CP.trans {A B C:Kp} {N:Sx->Int->Prop} (h:CP A B S N) (k:CP B C u z) {p:Sx->Vx->Prop} {y:Sx->Int->Prop} (m:∀ x v,S x v\/u x v->p x v) (E:∀ x t,y x t->N x t\/z x t):CP A C p y:=by
 refine⟨k.sorted,fun x v d=>?_,fun x v d=>k.up x v (h.up x v d),fun x t D=>?_⟩
 ·rcases k.src x v d with a|a
  ·rcases h.src x v a with f|f
   ·exact .inl f
   ·exact .inr (m _ _ (.inl f))
  ·exact .inr (m _ _ (.inr a))
 ·rcases E x t D with a|a
  ·obtain⟨v,d,e⟩:=h.all x t a;exact⟨v,k.up x v d,e⟩
  ·exact k.all x t a
def MS {t:Int} (e:0<=t/\t<=60):∀ (ps:List Pr) {K:Kp},(∀ x,FF (K x))->(∀ p∈ps,Sc p)->CP K (CM K t ps) (fun x v=>∃ p∈ps,sx p.key=x/\v=vxP t p) (fun x u=>∃ p∈ps,sx p.key=x/\u=t)
 | [],K,hs,_=>CP.refl hs (fun x u h=>by obtain⟨p,m,_⟩:=h;cases m)
 | p::ps,K,hs,hw=>by
  have f:=putS_p hs e (hw p VH);have y:=MS e ps (K:=(Cv K 0 ⟨sx p.key,sx p.val,p.gone,t⟩).2) f.sorted (fun q d=>hw q (VI _ d));refine f.trans y ?_ ?_
  ·rintro x v (⟨a,b⟩|⟨q,d,a⟩)
   ·exact⟨p,VH,a,b⟩
   ·exact⟨q,VI _ d,a⟩
  ·rintro x u ⟨q,d,a,b⟩;rcases List.mem_cons.1 d with rfl|d
   ·exact .inl ⟨a,b⟩
   ·exact .inr ⟨q,d,a,b⟩
def Hl {c:Cm} (y:0<=c.ag/\c.ag<=60):∀ (l:List Cm) {K:Kp},(∀ x,FF (K x))->(∀ w∈l,DO w)->
  CP K (Bk K l c) (fun x v=>∃ w∈l,w.ai=2/\w.tx=c.tx/\∃ p∈w.ad,sx p.key=x/\v=vxP c.ag p) (fun x u=>∃ w∈l,w.ai=2/\w.tx=c.tx/\∃ p∈w.ad,sx p.key=x/\u=c.ag)
 | [],K,hs,_=>CP.refl hs (fun x u h=>by obtain⟨p,z,_⟩:=h;cases z)
 | w::l,K,hs,hw=>by
  have e:Bk K (w::l) c=Bk (if w.ai=2/\w.tx=c.tx then CM K c.ag w.ad else K) l c:=rfl;rw[e];by_cases f:w.ai=2/\w.tx=c.tx
  ·rw[if_pos f];have D:=MS y w.ad hs (hw w VH).ps;have A:=Hl y l (K:=CM K c.ag w.ad) D.sorted (fun q d=>hw q (VI _ d));refine D.trans A ?_ ?_
   ·rintro x v (⟨p,z,a⟩|⟨q,d,a⟩)
    ·exact⟨w,VH,f.1,f.2,p,z,a⟩
    ·exact⟨q,VI _ d,a⟩
   ·rintro x u ⟨q,d,t,m,a⟩;rcases List.mem_cons.1 d with rfl|d
    ·exact .inl a
    ·exact .inr ⟨q,d,t,m,a⟩
  ·rw[if_neg f];have A:=Hl y l (K:=K) hs (fun q d=>hw q (VI _ d));refine(CP.refl hs (S:=fun _ _=>False) (N:=fun _ _=>False) (fun _ _ h=>h)).trans A ?_ ?_
   ·rintro x v (h|⟨q,d,a⟩)
    ·exact h.elim
    ·exact⟨q,VI _ d,a⟩
   ·rintro x u ⟨q,d,t,m,a⟩;rcases List.mem_cons.1 d with rfl|d
    ·exact absurd ⟨t,m⟩ f
    ·exact .inr ⟨q,d,t,m,a⟩
noncomputable def Qr (c:Cm) (l:List Cm) (K:Kp):Kp:=if c.ai=3 then Bk K l c else K
def Ux.left {l:List Cm} {v:Vx} (h:Ux l x v) (r:List Cm):Ux (l++r) x v:=by
 obtain⟨c,w,p,f,e,d,a⟩:=h;exact⟨c,w,p,VT _ f,e,VT _ d,a⟩
def EM.step {K:Kp} {l:List Cm} (h:EM K l) {c:Cm} (S:DO c) (hl:∀ w∈l,DO w):EM (Qr c l K) (l++[c]):=by
 have f:∀ (D:Kp),(∀ x v,v∈K x->v∈D x)->(c.ai=3->∀ w∈l,w.ai=2->w.tx=c.tx->∀ p∈w.ad,∃ v∈D (sx p.key),v.t=c.ag)->
   ∀ (q:Nat) (d:Cm),(l++[c])[q]? = Bs d->d.ai=3->∀ w∈(l++[c]).take q,w.ai=2->w.tx=d.tx->∀ p∈w.ad,∃ v∈D (sx p.key),v.t=d.ag:=fun D E R q d A u w a=>by
  by_cases O:q<l.length
  ·rw[Wg O] at A;rw[Wq (Yi O)] at a;intro t I p y;obtain⟨v,z,e⟩:=h.all q d A u w a t I p y;exact⟨v,E _ _ z,e⟩
  ·have J:=(List.getElem?_eq_some_iff.1 A).1;simp only[VS,Wl,XT] at J;obtain rfl:q=l.length:=by omega
   simp only[YD,VR] at A;subst A;rw[YX rfl] at a;exact R u w a
 unfold Qr;by_cases u:c.ai=3
 ·rw[if_pos u];have y:=Hl S.ag l h.sorted hl;refine⟨y.sorted,fun x v z=>?_,f _ y.up (fun _ w a t I p m=>y.all _ _ ⟨w,a,t,I,p,m,rfl,rfl⟩)⟩;rcases y.src x v z with M|⟨w,a,M,X,p,m,W,U⟩
  ·exact(h.src x v M).left _
  ·exact⟨c,w,p,by simp,u,VT _ a,M,X,m,W,U⟩
 ·rw[if_neg u];exact⟨h.sorted,fun x v z=>(h.src x v z).left _,f _ (fun _ _ h=>h) (fun e=>absurd e u)⟩
section
variable {H:Hs} {s:Nat}
def q98 (l:List Cm) (i:Nat) (c:Cm):((H.taken s l i c).sh s).tab=tabT c (H.sh s).tab/\((H.taken s l i c).sh s).sto=Qr c (l.take i) (H.sh s).sto/\((H.taken s l i c).sh s).done=i+1:=by
 unfold Hs.taken;rw[Cl];unfold Hs.aE tabT Qr;by_cases e:c.ai=2
 ·rw[if_pos e,if_pos e,if_neg (by omega),Cl];exact⟨rfl,by first|rfl|trivial,by first|rfl|trivial⟩
 ·rw[if_neg e,if_neg e];by_cases a:c.ai=3
  ·rw[if_pos a,if_pos a,if_pos a];unfold Hs.rel;simp only[Cl];refine⟨?_,?_,by first|rfl|trivial⟩
   ·show((Hs.ar _ s _).sh s).tab=_;rw[Cl]
   ·show((Hs.ar _ s _).sh s).sto=_;rw[Cl]
  ·rw[if_neg a,if_neg a,if_neg a];by_cases d:c.ai=4
   ·rw[if_pos d,if_pos d];unfold Hs.rel;refine⟨?_,?_,by first|rfl|trivial⟩
    ·show((Hs.ar _ s _).sh s).tab=_;rw[Cl]
    ·show((Hs.ar _ s _).sh s).sto=_;rw[Cl]
   ·rw[if_neg d,if_neg d];exact⟨rfl,by first|rfl|trivial,by first|rfl|trivial⟩
def Fm {l:List Cm} (t:Sd l) (f:∀ c∈l,(c.ai=2\/c.ai=3\/c.ai=4)/\DO c):∀ (k:Nat) (H:Hs),(H.sh s).done+k=l.length->SV (H.sh s).tab (l.take (H.sh s).done)->EM (H.sh s).sto (l.take (H.sh s).done)->
  ((Hs.aO s l k H).sh s).done=l.length/\SV ((Hs.aO s l k H).sh s).tab l/\EM ((Hs.aO s l k H).sh s).sto l
 | 0,H,a,e,d=>by
  have a:(H.sh s).done=l.length:=a;rw[a,List.take_length] at e d;exact⟨a,e,d⟩
 | k+1,H,a,e,d=>by
  obtain⟨c,h⟩:∃ c,l[(H.sh s).done]? = Bs c:=⟨_,L1 (by omega)⟩
  rw[q5v rfl h];obtain⟨z,y,p⟩:=q98 (H:=H) (s:=s) l (H.sh s).done c;have m:l.take ((H.sh s).done+1)=l.take (H.sh s).done++[c]:=by rw[VX,h];rfl
  obtain⟨v,u⟩:=f c (S2 h);refine Fm t f k _ (by rw[p];omega) ?_ ?_
  ·rw[z,p,m];exact e.step (t.pre (by rw[<- m];exact List.take_prefix _ _)) v
  ·rw[y,p,m];exact d.step u (fun w x=>(f w (Wy x)).2)
def NY {l:List Cm} (a:(H.sh s).done=l.length):Hs.aO s (l++[c]) ((l++[c]).length-(H.sh s).done) H=H.taken s (l++[c]) l.length c:=by
 have e:(l++[c]).length-(H.sh s).done=0+1:=by rw[a];simp
 rw[e,q5v (c:=c) a (by simp)];rfl
end
structure Gh where
 E:List Nat
 rd:Nat->List (Sx×Option Sx)
def Ir (H:Hs) (i:Nat):Prop:=1<=i/\i<=H.m
def Wr (H:Hs) (i:Nat) (x:Sx):Prop:=∃ p∈(H.tx i).ad,sx p.key=x
def Rdx (G:Gh) (i:Nat) (x:Sx):Prop:=∃ v,(x,v)∈G.rd i
def Cj (H:Hs) (G:Gh) (i:Nat) (x:Sx):Prop:=Wr H i x\/Rdx G i x
def BK (H:Hs) (i:Nat):Prop:=(H.tx i).ag=0/\∃ k,k∈(H.tx i).af/\(H.tx i).ae k≠Bs (H.sh k).aa/\∀ j,Lv H k j->¬Aj (lg H k j) 2 i
def Bef (E:List Nat) (a b:Nat):Prop:=∃ A B,E=A++b::B/\a∈A
def UG (a:List Pr) (x:Sx):Option (Option Sx):=(a.find? (fun p=>sx p.key == x)).map fun p=>if p.gone then B0 else Bs (sx p.val)
def Ik (H:Hs) (x:Sx) (i:Nat):Option (Option Sx):=if (H.tx i).state=3 then UG (H.tx i).ad x else B0
def Bc (H:Hs) (A:List Nat) (x:Sx):Option Sx:=A.foldl (fun v i=>(Ik H x i).getD v) B0
def DA (l:List Cm):Prop:=∀ (q:Nat) (c:Cm),l[q]? = Bs c->¬Aj (l.take q) c.ai c.tx
def qbx {a:List Pr} : UG a x=B0↔∀ p∈a,sx p.key≠x:=by
 unfold UG;rw[Option.map_eq_none_iff,List.find?_eq_none];simp
def q91 (H:Hs) (A:List Nat) (i:Nat) (x:Sx):Bc H (A++[i]) x=(Ik H x i).getD (Bc H A x):=by unfold Bc;rw[List.foldl_append];rfl
def qbp {α β:Type} {f g:β->α->β} : ∀ (l:List α) (b:β),(∀ a∈l,∀ b,f b a=g b a)->l.foldl f b=l.foldl g b
 | [],_,_=>rfl
 | a::l,b,h=>by
  rw[List.foldl_cons,List.foldl_cons,h a VH];exact qbp l _ (fun c d=>h c (VI _ d))
def QT {H H':Hs} (h:∀ i∈A,Ik H' x i=Ik H x i):Bc H' A x=Bc H A x:=qbp A B0 (fun i a b=>by rw[h i a])
structure SI (H:Hs) (G:Gh) (ex:Nat->Int->Prop):Prop where
 gt:∀ k,k<3->GT (H.sh k).tab
 t2:∀ x,(H.sh 2).tab x=B0
 dn:∀ k j,k<3->H.head k=Bs j->(H.sh k).done=(lg H k j).length
 pw:∀ k j,k<2->Lv H k j->∀ c∈lg H k j,c.ai=2->(H.tx c.tx.toNat).state≠1/\k∈(H.tx c.tx.toNat).af/\c.ad=(H.tx c.tx.toNat).of k
 wl:∀ k j,k<3->Lv H k j->Sd (lg H k j)/\DA (lg H k j)
 cv:∀ k j,k<2->H.head k=Bs j->EL (H.sh k).tab (lg H k j) (ex k)/\EM (H.sh k).sto (lg H k j)
 wc:∀ i,Ir H i->(∀ x,Cj H G i x->Aa x∈(H.tx i).af)/\((H.tx i).ad.map (·.key)).Nodup
 se:∀ i,Ir H i->∀ k∈(H.tx i).af,∀ e,(H.tx i).ae k=Bs e->e<=(H.sh k).aa
 ho:∀ (i k:Nat),Ir H i->k<2->((H.tx i).state=1\/(H.tx i).state=2)->(H.tx i).ae k=Bs (H.sh k).aa->∀ x,Aa x=k->(Wr H i x->Hd (H.sh k).tab x i 2)/\(Rdx G i x->Hd (H.sh k).tab x i 1)
 tp:∀ i,Ir H i->(H.tx i).ag≠0->((H.tx i).state=2\/(H.tx i).state=3)/\∀ k∈(H.tx i).af,∀ j,Lv H k j->Aj (lg H k j) 2 i
 tu:∀ i j,Ir H i->Ir H j->(H.tx i).ag≠0->(H.tx i).ag=(H.tx j).ag->i=j
 st:∀ i,Ir H i->1<=(H.tx i).state/\(H.tx i).state<=4
 en:G.E.Nodup/\(∀ i∈G.E,Ir H i/\(H.tx i).state≠1)/\∀ i,Ir H i->((H.tx i).state=2\/(H.tx i).state=3)->i∈G.E
 dm:∀ t w x,Ir H t->Ir H w->t≠w->(H.tx w).state=2->((H.tx t).state=1\/(((H.tx t).state=2\/(H.tx t).state=3)/\Bef G.E w t))->Cj H G t x->Wr H w x->BK H w
 tm:∀ v w x,Bef G.E v w->Wr H v x->Wr H w x->(H.tx v).ag≠0->(H.tx w).ag≠0->(H.tx v).ag<(H.tx w).ag
 ri:∀ t,Ir H t->∀ x v,(x,v)∈G.rd t->((H.tx t).state=1->Bc H G.E x=v)/\(((H.tx t).state=2\/(H.tx t).state=3)->∀ A B,G.E=A++t::B->Bc H A x=v)
 wt:∀ k,k<2->∀ x (o m:Int),Wt (H.sh k).tab x o m->(1<=o/\o<=H.m)/\(H.tx o.toNat).state=1/\(H.tx o.toNat).ae k=Bs (H.sh k).aa/\Aa x=k
 ww:∀ (i k:Nat),Ir H i->k<2->(H.tx i).state=1->(H.tx i).ae k=Bs (H.sh k).aa->∀ x m,Aa x=k->((x,m)∈(H.tx i).aj↔Wt (H.sh k).tab x i m)
 wn:∀ i,Ir H i->∀ x m,(x,m)∈(H.tx i).aj->Aa x∈(H.tx i).af
structure Ns (H H':Hs):Prop where
 m:H'.m=H.m
 lv:∀ k j,k<3->Lv H' k j->Lv H k j
 hd:∀ k j,k<3->H'.head k=Bs j->H.head k=Bs j
 up:∀ k j,k<3->Lv H' k j->lg H k j <+: lg H' k j
 sub:∀ k j,k<3->Lv H' k j->∃ i,Lv H k i/\lg H' k j <+: lg H k i
 lh:∀ k j,k<3->H'.head k=Bs j->lg H' k j=lg H k j
 tab:∀ k,k<3->(H'.sh k).tab=(H.sh k).tab/\(H'.sh k).sto=(H.sh k).sto/\(H'.sh k).done=(H.sh k).done/\(H'.sh k).aa=(H.sh k).aa
 tx:∀ i,(H'.tx i).state=(H.tx i).state/\(H'.tx i).ad=(H.tx i).ad/\(H'.tx i).ae=(H.tx i).ae/\(H'.tx i).ag=(H.tx i).ag/\(H'.tx i).aj=(H.tx i).aj
def BK.mono {H H':Hs} (h:BK H i) (f:(H'.tx i).ag=(H.tx i).ag) (hs:(H'.tx i).ae=(H.tx i).ae) (p:∀ k,k<2->(H'.sh k).aa=(H.sh k).aa)
  (hl:∀ k j,k<2->Lv H' k j->Aj (lg H' k j) 2 i->∃ a,Lv H k a/\Aj (lg H k a) 2 i):BK H' i:=by
 obtain⟨x,k,d,v,u⟩:=h;have t:(H'.tx i).af=(H.tx i).af:=Dp hs;refine⟨f.trans x,k,by rw[t];exact d,by rw[hs,p k (BR d)];exact v,fun j m e=>?_⟩;obtain⟨a,z,y⟩:=hl k j (BR d) m e;exact u a z y
def DA.pre {l:List Cm} (h:DA l) (a:l' <+: l):DA l':=fun q c d=>by
 have e:=(List.getElem?_eq_some_iff.1 d).1;rw[IP a (Yi e)];exact h q c (getElem?_prefix a d)
def DA.snoc {l:List Cm} (h:DA l) (m:¬Aj l c.ai c.tx):DA (l++[c]):=fun q d a=>by
 by_cases f:q<l.length
 ·rw[Wg f] at a;rw[Wq (Yi f)];exact h q d a
 ·have e:=(List.getElem?_eq_some_iff.1 a).1;simp only[VS,Wl,XT] at e;obtain rfl:q=l.length:=by omega
  simp only[YD,VR] at a;subst a;rw[YX rfl];exact m
def Wr.congr {H H':Hs} (e:(H'.tx i).ad=(H.tx i).ad):Wr H' i x↔Wr H i x:=by unfold Wr;rw[e]
def Cj.congr {H H':Hs} {G:Gh} {i:Nat} {x:Sx} (e:(H'.tx i).ad=(H.tx i).ad):Cj H' G i x↔Cj H G i x:=by unfold Cj;rw[Wr.congr e]
def Tx {H H':Hs} (e:(H'.tx i).state=(H.tx i).state) (a:(H'.tx i).ad=(H.tx i).ad):Ik H' x i=Ik H x i:=by unfold Ik;rw[e,a]
section
variable {H H':Hs} {G:Gh} {ex:Nat->Int->Prop}
def SI.same (h:SI H G ex) (k:Ns H H'):SI H' G ex:=by
 have f:∀ i,Ir H' i↔Ir H i:=fun i=>by unfold Ir;rw[k.m]
 have y:∀ i,(H'.tx i).af=(H.tx i).af:=fun i=>Dp (k.tx i).2.2.1
 have D:∀ i x,Wr H' i x↔Wr H i x:=fun i x=>Wr.congr (k.tx i).2.1
 have R:∀ i x,Cj H' G i x↔Cj H G i x:=fun i x=>Cj.congr (k.tx i).2.1
 have S:∀ A x,Bc H' A x=Bc H A x:=fun A x=>QT (fun i _=>Tx (k.tx i).1 (k.tx i).2.1)
 have Z:∀ i,BK H i->BK H' i:=fun i hd=>hd.mono (k.tx i).2.2.2.1 (k.tx i).2.2.1 (fun a d=>(k.tab a (by omega)).2.2.2) (fun a j d u e=>by
  obtain⟨J,O,M⟩:=k.sub a j (by omega) u;exact⟨J,O,e.mono (fun c U=>M.subset U)⟩)
 refine⟨fun a d=>by rw[(k.tab a d).1];exact h.gt a d,fun x=>by rw[(k.tab 2 (by omega)).1];exact h.t2 x,fun a j d u=>by rw[(k.tab a d).2.2.1,k.lh a j d u];exact h.dn a j d (k.hd a j d u),
  fun a j d u c U hk=>?_,fun a j d u=>?_,fun a j d u=>?_,fun i p=>?_,fun i p a d e E=>?_,fun i a p d hs E x z=>?_,fun i p K=>?_,fun i j p u=>?_,fun i p=>?_,?_,fun t w x K hw Y hs W z X=>?_,fun v w x W h1 h2=>?_,fun t K x v hv=>?_,fun a d x o m ho=>?_,fun i a p d hs E x m z=>?_,fun i p x m z=>by rw[y];rw[(k.tx i).2.2.2.2] at z;exact h.wn i ((f i).1 p) x m z⟩
 ·obtain⟨J,O,M⟩:=k.sub a j (by omega) u;rw[(k.tx _).1,y];obtain⟨q1,I,q3⟩:=h.pw a J d O c (M.subset U) hk;exact⟨q1,I,by unfold Bl.of;rw[(k.tx _).2.1];exact q3⟩
 ·obtain⟨J,O,M⟩:=k.sub a j d u;exact⟨(h.wl a J d O).1.pre M,(h.wl a J d O).2.pre M⟩
 ·rw[(k.tab a (by omega)).1,(k.tab a (by omega)).2.1,k.lh a j (by omega) u];exact h.cv a j d (k.hd a j (by omega) u)
 ·rw[y,(k.tx i).2.1];obtain⟨q1,I⟩:=h.wc i ((f i).1 p);exact⟨fun x z=>q1 x ((R i x).1 z),I⟩
 ·rw[y] at d;rw[(k.tx i).2.2.1] at E;rw[(k.tab a (by have:=BR d;omega)).2.2.2];exact h.se i ((f i).1 p) a d e E
 ·rw[(k.tx i).1] at hs;rw[(k.tx i).2.2.1,(k.tab a (by omega)).2.2.2] at E;rw[(k.tab a (by omega)).1,D];exact h.ho i a ((f i).1 p) d hs E x z
 ·rw[(k.tx i).2.2.2.1] at K;rw[(k.tx i).1,y];obtain⟨q1,I⟩:=h.tp i ((f i).1 p) K;exact⟨q1,fun a d j u=>(I a d j (k.lv a j (by have:=BR d;omega) u)).mono (fun c U=>(k.up a j (by have:=BR d;omega) u).subset U)⟩
 ·rw[(k.tx i).2.2.2.1,(k.tx j).2.2.2.1];exact h.tu i j ((f i).1 p) ((f j).1 u)
 ·rw[(k.tx i).1];exact h.st i ((f i).1 p)
 ·refine⟨h.en.1,fun i p=>?_,fun i p hs=>?_⟩
  ·rw[f,(k.tx i).1];exact h.en.2.1 i p
  ·rw[(k.tx i).1] at hs;exact h.en.2.2 i ((f i).1 p) hs
 ·rw[(k.tx w).1] at hs;rw[(k.tx t).1] at W;exact Z w (h.dm t w x ((f t).1 K) ((f w).1 hw) Y hs W ((R t x).1 z) ((D w x).1 X))
 ·rw[(k.tx v).2.2.2.1,(k.tx w).2.2.2.1];exact h.tm v w x W ((D v x).1 h1) ((D w x).1 h2)
 ·rw[(k.tx t).1,S];obtain⟨q1,I⟩:=h.ri t ((f t).1 K) x v hv;exact⟨q1,fun hs A B hE=>by rw[S];exact I hs A B hE⟩
 ·rw[(k.tab a (by omega)).1] at ho;rw[k.m,(k.tx _).1,(k.tx _).2.2.1,(k.tab a (by omega)).2.2.2];exact h.wt a d x o m ho
 ·rw[(k.tx i).1] at hs;rw[(k.tx i).2.2.1,(k.tab a (by omega)).2.2.2] at E;rw[(k.tx i).2.2.2.2,(k.tab a (by omega)).1];exact h.ww i a ((f i).1 p) d hs E x m z
end
section
variable {H:Hs} {G:Gh} {ex:Nat->Int->Prop} {s j i:Nat} {c:Cm} {b:Bool}
open Classical in
def q6j {T:Tb} {w:Sx×Int} : w∈((H.granted T tx).tx a).aj↔w∈(H.tx a).aj/\¬JM T tx a w.1:=by
 show w∈((H.tx a).aj.filter fun w=>!decide (JM T tx a w.1))↔_;rw[YY];simp
def q97 (l:List Cm) (i:Nat) (c:Cm) (a:Nat) (w:Sx×Int):w∈((H.taken s l i c).tx a).aj↔w∈(H.tx a).aj/\(c.ai=3\/c.ai=4->¬JM (H.sh s).tab c.tx a w.1):=by
 unfold Hs.taken Hs.aE;by_cases m:c.ai=2
 ·rw[if_pos m];constructor
  ·exact fun h=>⟨h,fun e=>by omega⟩
  ·exact fun h=>h.1
 ·rw[if_neg m];by_cases f:c.ai=3
  ·rw[if_pos f];unfold Hs.rel;refine q6j.trans ?_;rw[Cl];exact and_congr Yl ⟨fun h _=>h,fun h=>h (.inl f)⟩
  ·rw[if_neg f];by_cases d:c.ai=4
   ·rw[if_pos d];unfold Hs.rel;refine q6j.trans ?_;exact and_congr Yl ⟨fun h _=>h,fun h=>h (.inr d)⟩
   ·rw[if_neg d];constructor
    ·exact fun h=>⟨h,fun e=>by omega⟩
    ·exact fun h=>h.1
structure AddF (H H':Hs) (s j:Nat) (c:Cm):Prop where
 tab:(H'.sh s).tab=tabT c (H.sh s).tab
 sto:(H'.sh s).sto=Qr c (lg H s j) (H.sh s).sto
 done:(H'.sh s).done=(lg H s j++[c]).length
 aa:∀ k,(H'.sh k).aa=(H.sh k).aa
 sh:∀ k,k≠s->H'.sh k=H.sh k
 lg:∀ a i,Go.Proofs.YtccahlhdifadfaaGreatDoor.lg H' a i=if a=s/\i=j then Go.Proofs.YtccahlhdifadfaaGreatDoor.lg H s j++[c] else Go.Proofs.YtccahlhdifadfaaGreatDoor.lg H a i
 lv:∀ a i,Lv H' a i↔Lv H a i
 head:∀ k,H'.head k=H.head k
 aj:∀ a w,w∈(H'.tx a).aj↔w∈(H.tx a).aj/\(c.ai=3\/c.ai=4->¬JM (H.sh s).tab c.tx a w.1)
 tx:∀ i,(H'.tx i).state=(H.tx i).state/\(H'.tx i).ad=(H.tx i).ad/\(H'.tx i).ae=(H.tx i).ae/\(H'.tx i).ag=(H.tx i).ag
 m:H'.m=H.m
def q54 (R:H.head s=Bs j) (K:(((H.sh s).nd j).add c b).2.2=0) (S:(H.sh s).done=(lg H s j).length):AddF H (H.add s j c b).2 s j c:=by
 have f:=C0 H s j c b;have t:=Hr H s j c b;have u:(H.add s j c b).2=((H.aq s j (((H.sh s).nd j).add c b).1.1).send (((H.sh s).nd j).add c b).1.2).take s:=by unfold Hs.add;rw[if_neg (by simp[K])]
 have U:=(Oj K).1;generalize hM:(H.aq s j (((H.sh s).nd j).add c b).1.1).send (((H.sh s).nd j).add c b).1.2=M at *;have m:M.sh s = { H.sh s with nd:=Af (H.sh s).nd j (((H.sh s).nd j).add c b).1.1 }:=by rw[<- hM];exact D9 _ _ _ _
 have E:M.head s=Bs j:=by
  rw[<- R];refine Oh (by rw[<- hM];rfl) (by rw[m]) (fun a=>?_);rw[m];show(Af (H.sh s).nd j _ a).id=_/\(Af (H.sh s).nd j _ a).head=_;by_cases e:a=j
  ·subst e;rw[An];exact⟨(q4h _ c b).2,(q4h _ c b).1⟩
  ·rw[As e];exact⟨rfl,rfl⟩
 have x:((M.sh s).nd j).log=lg H s j++[c]:=by rw[m];show(Af (H.sh s).nd j (((H.sh s).nd j).add c b).1.1 j).log=_;rw[An,U,U1];rfl
 have I:(M.sh s).done=(lg H s j).length:=by rw[m];exact S
 have D:M.take s=M.taken s (lg H s j++[c]) (lg H s j).length c:=by
  have:M.take s=Hs.aO s ((M.sh s).nd j).log (((M.sh s).nd j).log.length-(M.sh s).done) M:=by unfold Hs.take;rw[E]
  rw[this,x];exact NY I
 have v:M.tx=H.tx:=by rw[<- hM];rfl
 obtain⟨t1,y,J⟩:=q98 (H:=M) (s:=s) (lg H s j++[c]) (lg H s j).length c;have p:(lg H s j++[c]).take (lg H s j).length=lg H s j:=YX rfl;rw[p] at y;have d:(M.sh s).tab=(H.sh s).tab/\(M.sh s).sto=(H.sh s).sto:=by rw[m];exact⟨rfl,rfl⟩
 rw[d.1] at t1;rw[d.2] at y;have z:=fun a w=>q97 (H:=M) (s:=s) (lg H s j++[c]) (lg H s j).length c a w
 rw[v,d.1] at z;have A:=Ex H s j c b;rw[<- D,<- u] at t1 y J z;refine⟨t1,y,by rw[J];simp,A.ep,fun k O=>qbu H s j c b O,fun a i=>?_,t.2,fun k=>UV H s j c b k,z,fun i=>⟨(f.2.2.2.2 i).1,(f.2.2.2.2 i).2.1,(f.2.2.2.2 i).2.2.1,(f.2.2.2.2 i).2.2.2.2⟩,f.2.2.1⟩;rcases t.1 with h|h
 ·exfalso;have hl:lg (H.add s j c b).2 s j=lg H s j++[c]:=by
   have:=(AK.take M s).lg s j;rw[u,this];exact x
  rw[h] at hl;have:=congrArg List.length hl;simp at this
 ·exact h a i
structure SG (H:Hs) (s j i:Nat) (c:Cm):Prop where
 tx:c.tx=(i:Int)
 ir:Ir H i
 ai:c.ai=2\/c.ai=3\/c.ai=4
 k2:s=2->c.ai=3
 wf:DO c
 uq:¬Aj (lg H s j) c.ai c.tx
 pr:c.ai=2->(H.tx i).state=2/\s∈(H.tx i).af/\c.ad=(H.tx i).of s/\(H.tx i).ae s=Bs (H.sh s).aa/\¬Aj (lg H s j) 3 i/\¬Aj (lg H s j) 4 i/\(∀ w∈lg H s j,w.ai=2->Shr w.ad c.ad->¬Ed (lg H s j) w.tx)/\∀ p∈c.ad,Ds (H.sh s).tab (sx p.key) i
 cl:s<2->c.ai=3\/c.ai=4->(H.tx i).state=3\/(H.tx i).state=4
def SI.cW {H':Hs} (h:SI H G ex) (wf:Wf H) (ao:H.c=3) (hs:s<3) (hh:H.head s=Bs j) (a:SG H s j i c) (f:AddF H H' s j c):SI H' G (fun k x=>ex k x/\(k≠s\/c.ai=2\/x≠(i:Int))):=by
 obtain⟨a6,_⟩:=Cu hh;have z:∀ x,Ir H' x↔Ir H x:=fun x=>by unfold Ir;rw[f.m]
 have W:∀ x,(H'.tx x).af=(H.tx x).af:=fun x=>Dp (f.tx x).2.2.1
 have a1:∀ i x,Wr H' i x↔Wr H i x:=fun i x=>Wr.congr (f.tx i).2.1
 have aa:∀ i x,Cj H' G i x↔Cj H G i x:=fun i x=>Cj.congr (f.tx i).2.1
 have ag:∀ A x,Bc H' A x=Bc H A x:=fun A x=>QT (fun i _=>Tx (f.tx i).1 (f.tx i).2.1)
 have J:=h.gt s hs;have a0:c.ai=2->∀ p∈c.ad,Ds (H.sh s).tab (sx p.key) c.tx:=fun u p hp=>by rw[a.tx];exact(a.pr u).2.2.2.2.2.2.2 p hp
 have aj:Sd (lg H s j++[c])/\DA (lg H s j++[c]):=by
  obtain⟨w1,w2⟩:=h.wl s j hs a6;refine⟨w1.snoc (fun u=>?_),w2.snoc a.uq⟩;obtain⟨_,_,_,_,p5,p6,p7,_⟩:=a.pr u;have:=a.uq;rw[u] at this;exact⟨this,by rw[a.tx];exact p5,by rw[a.tx];exact p6,p7⟩
 have al:∀ w∈lg H s j,DO w:=(wf.nd s j (by rw[ao];exact hs) a6.1).log;have O:∀ k q,¬(k=s/\q=j)->lg H' k q=lg H k q:=fun k q e=>by rw[f.lg,if_neg e]
 have M:lg H' s j=lg H s j++[c]:=by rw[f.lg,if_pos ⟨rfl,rfl⟩]
 have a7:∀ k q,lg H k q <+: lg H' k q:=fun k q=>by
  rw[f.lg];split
  ·rename_i e;obtain⟨rfl,rfl⟩:=e;exact List.prefix_append _ _
  ·exact VQ _
 have an:∀ w,BK H w->BK H' w:=fun w R=>by
  obtain⟨d1,k,d2,d3,d4⟩:=R;refine⟨(f.tx w).2.2.2.trans d1,k,by rw[W];exact d2,by rw[(f.tx w).2.2.1,f.aa];exact d3,fun q K e=>?_⟩;have ac:=(f.lv k q).1 K;by_cases U:k=s/\q=j
  ·obtain⟨rfl,rfl⟩:=U;rw[M] at e;rcases SM.1 e with e4|⟨e4,e3⟩
   ·exact d4 q ac e4
   ·rw[a.tx] at e3;have e3:i=w:=by omega
    subst e3;exact d3 (a.pr e4).2.2.2.1
  ·rw[O k q U] at e;exact d4 q ac e
 have D:∀ k,k≠s->(H'.sh k).tab=(H.sh k).tab:=fun k u=>by rw[f.sh k u]
 have am:∀ k,k<3->GT (H'.sh k).tab:=fun k u=>by
  by_cases e:k=s
  ·subst e;rw[f.tab];exact J.tabT a0
  ·rw[D k e];exact h.gt k u
 have ae:s<2->c.ai=3\/c.ai=4->∀ o,((H.tx o).state=1\/(H.tx o).state=2)->(o:Int)≠c.tx:=fun S u o ho e=>by
  rw[a.tx] at e;have e:o=i:=by omega
  subst e;have:=a.cl S u;omega
 have a4:(H'.sh 2).tab=(H.sh 2).tab:=by
  by_cases e:(2:Nat)=s
  ·subst e;rw[f.tab,QM (.inl (a.k2 rfl))];funext x;unfold Bj;rw[h.t2 x];rfl
  ·exact D 2 e
 have af:∀ k,k<2->∀ x (o:Nat) m,((H.tx o).state=1\/(H.tx o).state=2)->Hd (H.sh k).tab x o m->Hd (H'.sh k).tab x o m:=fun k u x o m ho R=>by
  by_cases e:k=s
  ·subst e;rw[f.tab];by_cases S:c.ai=2
   ·rw[Tr S];exact(QK _ J (a0 S)).up _ _ _ R
   ·have X:c.ai=3\/c.ai=4:=a.ai.resolve_left S;rw[QM X];exact R.rel J (ae u X o ho)
  ·rw[D k e];exact R
 have ai:∀ k,k<2->∀ x o m,Wt (H'.sh k).tab x o m->Wt (H.sh k).tab x o m:=fun k u x o m Z=>by
  by_cases e:k=s
  ·subst e;rw[f.tab] at Z;by_cases S:c.ai=2
   ·rw[Tr S] at Z;unfold Wt at Z ⊢;rw[<- (QK _ J (a0 S)).ws];exact Z
   ·rw[QM (a.ai.resolve_left S)] at Z;exact(qbh J Z).2
  ·rw[D k e] at Z;exact Z
 refine⟨am,fun x=>by rw[a4];exact h.t2 x,fun k q u K=>?_,fun k q u K d R a8=>?_,fun k q u K=>?_,fun k q u K=>?_,fun x E=>?_,fun x E k u e he=>?_,fun x k E u I he y hy=>?_,fun x E ht=>?_,fun x y E hy=>?_,fun x E=>?_,?_,fun t w x ht Z ad ab hb E ah=>?_,fun v w x hb h1 S=>?_,fun t ht x v hv=>?_,fun k u x o m ho=>?_,fun x k E u I he y m hy=>?_,fun x E y m hy=>by rw[W];exact h.wn x ((z x).1 E) y m ((f.aj x _).1 hy).1⟩
 ·rw[f.head] at K;by_cases e:k=s
  ·subst e;rw[hh] at K;injection K with K;subst K;rw[f.done,M]
  ·rw[f.sh k e,O k q (fun U=>e U.1)];exact h.dn k q u K
 ·rw[(f.tx _).1,W];have ak:((H'.tx d.tx.toNat).of k)=(H.tx d.tx.toNat).of k:=by unfold Bl.of;rw[(f.tx _).2.1]
  rw[ak];by_cases U:k=s/\q=j
  ·obtain⟨rfl,rfl⟩:=U;rw[M] at R;rcases List.mem_append.1 R with R|R
   ·exact h.pw k q u a6 d R a8
   ·rw[VW] at R;subst R;obtain⟨p1,p2,p3,_⟩:=a.pr a8;rw[a.tx];exact⟨by show(H.tx i).state≠1;omega,p2,p3⟩
  ·rw[O k q U] at R;exact h.pw k q u ((f.lv k q).1 K) d R a8
 ·by_cases U:k=s/\q=j
  ·obtain⟨rfl,rfl⟩:=U;rw[M];exact aj
  ·rw[O k q U];exact h.wl k q u ((f.lv k q).1 K)
 ·rw[f.head] at K;by_cases e:k=s
  ·subst e;rw[hh] at K;injection K with K;subst K;obtain⟨c1,c2⟩:=h.cv k j u hh;rw[M,f.tab,f.sto];refine⟨(c1.step J a.ai a0).mono (fun x E=>⟨E.1,?_⟩) (fun _ _ _ _ h=>h),c2.step a.wf al⟩;rcases E.2 with e|e
   ·exact .inr (.inl e)
   ·exact .inr (.inr (by rw[<- a.tx];exact e))
  ·rw[f.sh k e,O k q (fun U=>e U.1)];obtain⟨c1,c2⟩:=h.cv k q u K;exact⟨c1.mono (fun x E=>⟨E,.inl e⟩) (fun _ _ _ _ h=>h),c2⟩
 ·rw[W,(f.tx x).2.1];obtain⟨q1,Y⟩:=h.wc x ((z x).1 E);exact⟨fun y hy=>q1 y ((aa x y).1 hy),Y⟩
 ·rw[W] at u;rw[(f.tx x).2.2.1] at he;rw[f.aa];exact h.se x ((z x).1 E) k u e he
 ·rw[(f.tx x).1] at I;rw[(f.tx x).2.2.1,f.aa] at he;obtain⟨q1,Y⟩:=h.ho x k ((z x).1 E) u I he y hy;exact⟨fun Z=>af k u _ _ _ I (q1 ((a1 x y).1 Z)),fun hr=>af k u _ _ _ I (Y hr)⟩
 ·rw[(f.tx x).2.2.2] at ht;rw[(f.tx x).1,W];obtain⟨q1,Y⟩:=h.tp x ((z x).1 E) ht;exact⟨q1,fun k u q K=>(Y k u q ((f.lv k q).1 K)).mono (fun d R=>(a7 k q).subset R)⟩
 ·rw[(f.tx x).2.2.2,(f.tx y).2.2.2];exact h.tu x y ((z x).1 E) ((z y).1 hy)
 ·rw[(f.tx x).1];exact h.st x ((z x).1 E)
 ·refine⟨h.en.1,fun x E=>?_,fun x E I=>?_⟩
  ·rw[z,(f.tx x).1];exact h.en.2.1 x E
  ·rw[(f.tx x).1] at I;exact h.en.2.2 x ((z x).1 E) I
 ·rw[(f.tx w).1] at ab;rw[(f.tx t).1] at hb;exact an w (h.dm t w x ((z t).1 ht) ((z w).1 Z) ad ab hb ((aa t x).1 E) ((a1 w x).1 ah))
 ·rw[(f.tx v).2.2.2,(f.tx w).2.2.2];exact h.tm v w x hb ((a1 v x).1 h1) ((a1 w x).1 S)
 ·rw[(f.tx t).1,ag];obtain⟨q1,Y⟩:=h.ri t ((z t).1 ht) x v hv;exact⟨q1,fun hs A B hE=>by rw[ag];exact Y hs A B hE⟩
 ·rw[f.m,(f.tx _).1,(f.tx _).2.2.1,f.aa];exact h.wt k u x o m (ai k u x o m ho)
 ·rw[(f.tx x).1] at I;rw[(f.tx x).2.2.1,f.aa] at he;rw[f.aj];have a3:=h.ww x k ((z x).1 E) u I he y m hy;by_cases S:c.ai=2
  ·have a5:Wt (H'.sh k).tab y x m↔Wt (H.sh k).tab y x m:=by
    by_cases e:k=s
    ·subst e;rw[f.tab,Tr S];unfold Wt;rw[(QK _ J (a0 S)).ws]
    ·rw[D k e]
   rw[a5,<- a3];exact⟨fun q=>q.1,fun q=>⟨q,fun e=>by omega⟩⟩
  ·have X:=a.ai.resolve_left S;by_cases e:k=s
   ·subst e;rw[f.tab,QM X];have a9:(x:Int)≠c.tx:=ae u X x (.inl I);constructor
    ·rintro ⟨q1,Y⟩;rcases q70 J (a3.1 q1) a9 with q|q
     ·exact q.1
     ·exact absurd q.1 (Y X)
    ·intro q;obtain⟨_,Y⟩:=qbh J q;refine⟨a3.2 Y,fun _ hg=>?_⟩;rcases q70 J Y a9 with q3|q3
     ·exact q3.2 hg
     ·exact q3.2.2 m q
   ·rw[D k e,<- a3];refine⟨fun q=>q.1,fun q=>⟨q,fun _ hg=>?_⟩⟩;obtain⟨_,m',a2⟩:=Hc J hg;by_cases U:s=2
    ·subst U;unfold Wt Ac at a2;rw[h.t2 y] at a2;cases a2
    ·have:=(h.wt s (by omega) y _ _ a2).2.2.2;omega
end
def Qc {l:List Cm} {m:Nat} (h:DA l) (t:∀ c∈l,(c.ai=2\/c.ai=3\/c.ai=4)/\1<=c.tx/\c.tx<=m):l.length<=3*m:=by
 have p:(l.map fun c:Cm=>((c.ai-2)*(m:Int)+(c.tx-1)).toNat).Nodup:=by
  rw[Yw,W8,List.pairwise_iff_getElem];intro i j D v A e;have z:=h j l[j] (L1 v);have u:l[i]∈l.take j:=List.mem_take_iff_getElem.2 ⟨i,by omega,rfl⟩;obtain⟨a,J,I⟩:=t _ (Wv D);obtain⟨d,M,K⟩:=t _ (Wv v);refine z ⟨l[i],u,?_⟩;rcases a with a|a|a <;> rcases d with d|d|d <;> rw[a,d] at e <;> rw[a,d] <;> omega
 have f:∀ x∈(l.map fun c:Cm=>((c.ai-2)*(m:Int)+(c.tx-1)).toNat),x∈WS (3*m):=fun x y=>by
  obtain⟨c,E,rfl⟩:=List.mem_map.1 y;obtain⟨a,J,I⟩:=t c E;rw[List.mem_range];rcases a with a|a|a <;> rw[a] <;> omega
 have:=WI p f;rw[We,List.length_range] at this;exact this
section
variable {H H':Hs} {G:Gh} {ex:Nat->Int->Prop} {i:Nat} {B:Int}
def Ad.ai (a:Ad H B) {k j:Nat} (v:k<3) (f:Lv H k j) {c:Cm} (m:c∈lg H k j):(c.ai=2\/c.ai=3\/c.ai=4)/\1<=c.tx/\c.tx<=H.m:=by
 by_cases u:k<2
 ·obtain⟨p,t⟩:=List.mem_iff_getElem?.1 m;obtain⟨e,d⟩:=a.bj.pl k u j f p c t;exact⟨d.imp id (Or.imp (fun h=>h.1) (fun h=>h.1)),e⟩
 ·obtain rfl:k=2:=by omega
  obtain⟨e,d,_⟩:=a.bj.p2 j f c m;exact⟨.inr (.inl d),e⟩
def SI.room (h:SI H G ex) (a:CQ H) (t:H.m<=60) (hs:s<3) (v:H.head s=Bs j) (c:Cm) (b:Bool):(((H.sh s).nd j).add c b).2.2=0:=by
 obtain⟨hl,x⟩:=Cu v;have d:(lg H s j).length<=3*H.m:=Qc (h.wl s j hs hl).2 (fun c m=>by
  by_cases y:s<2
  ·obtain⟨p,u⟩:=List.mem_iff_getElem?.1 m;obtain⟨f,e⟩:=a.pl s y j hl p c u;exact⟨e.imp id (Or.imp (fun h=>h.1) (fun h=>h.1)),f⟩
  ·obtain rfl:s=2:=by omega
   obtain⟨f,e,_⟩:=a.p2 j hl c m;exact⟨.inr (.inl e),f⟩)
 unfold Nd.add;rw[x,if_neg (by simp),if_neg (by unfold lg at d;omega)]
def SI.d6 (h:SI H G ex) {a:Nat->Int->Prop} (f:∀ k j,k<2->H.head k=Bs j->EL (H.sh k).tab (lg H k j) (a k)):SI H G a:=
 ⟨h.gt,h.t2,h.dn,h.pw,h.wl,fun k j d e=>⟨f k j d e,(h.cv k j d e).2⟩,h.wc,h.se,h.ho,h.tp,h.tu,h.st,h.en,h.dm,h.tm,h.ri,h.wt,h.ww,h.wn⟩
def Fi (f:Wf H) (d:1<=i) (a:i<=H.m) {kind:Int} (p:k<2) (hs:(kind=3/\(H.tx i).state=3)\/(kind=4/\(H.tx i).state=4)) (m:¬Aj (lg H k j) kind i):SG H k j i (tellC H i kind):=
 ⟨rfl,⟨d,a⟩,by rcases hs with ⟨rfl,_⟩|⟨rfl,_⟩ <;> simp[tellC],fun e=>by omega,f.c5 d a kind,m,fun e=>by
  have e:kind=2:=e;rcases hs with ⟨h,_⟩|⟨h,_⟩ <;> omega,fun _ _=>hs.imp (fun h=>h.2) (fun h=>h.2)⟩
def SI.ax (h:SI H G ex) (v:Wf H) (y:CQ H) (I:H.c=3) (R:1<=i) (O:i<=H.m) {kind:Int} {k:Nat} (M:k<2) (hs:(kind=3/\(H.tx i).state=3)\/(kind=4/\(H.tx i).state=4)) :
  SI (H.ax i kind k) G (fun k' x=>ex k' x/\(k'≠k\/x≠(i:Int))):=by
 cases f:H.head k with
 | none=>
  rw[I1 f];refine h.d6 (fun k' j d E=>((h.cv k' j d E).1).mono (fun x m=>⟨m,.inl (fun e=>by subst e;rw[f] at E;cases E)⟩) (fun _ _ _ _ h=>h))
 | some j=>
  rw[Ie f];split
  ·rename_i A;have J:=h.cW v I (by omega) f (Fi v R O M hs (PB.1 A.1)) (q54 (b:=Jx) f (h.room y v.bz (by omega) f _ _) (h.dn k j (by omega) f));refine J.d6 (fun k' z d a=>((J.cv k' z d a).1).mono (fun x m=>⟨m.1,?_⟩) (fun _ _ _ _ h=>h));rcases m.2 with e|e|e
   ·exact .inl e
   ·have e:kind=2:=e;rcases hs with ⟨h,_⟩|⟨h,_⟩ <;> omega
   ·exact .inr e
  ·rename_i A;refine h.d6 (fun k' z d a=>?_);by_cases e:k'=k
   ·subst e;rw[f] at a;injection a with a;subst a;intro w K D p m;by_cases u:w.tx=(i:Int)
    ·exfalso;refine A ⟨PB.2 (fun t=>?_),fun t=>?_⟩
     ·rcases hs with ⟨rfl,_⟩|⟨rfl,_⟩
      ·exact p.2.1 (by rw[u];exact t)
      ·exact p.2.2 (by rw[u];exact t)
     ·exact PB.1 t (by rw[<- u];exact p.1)
    ·exact(h.cv k' j d f).1 w K D p (fun S=>m ⟨S,.inr u⟩)
   ·exact((h.cv k' z d a).1).mono (fun x m=>⟨m,.inl e⟩) (fun _ _ _ _ h=>h)
def SI.aN {kind:Int} (m:1<=i):∀ (ks:List Nat) {H:Hs} {ex:Nat->Int->Prop},SI H G ex->Wf H->CQ H->H.c=3->i<=H.m->(∀ k∈ks,k<2)->((kind=3/\(H.tx i).state=3)\/(kind=4/\(H.tx i).state=4))->
  SI (Go.Proofs.YtccahlhdifadfaaGreatDoor.telld H i kind ks) G (fun k x=>ex k x/\(k ∉ ks\/x≠(i:Int)))
 | [],H,ex,h,_,_,_,_,_,_=>h.d6 (fun k j f t=>((h.cv k j f t).1).mono (fun x d=>⟨d,.inl (by simp)⟩) (fun _ _ _ _ h=>h))
 | k::ks,H,ex,h,wf,lgi,hc,hi,f,hs=>by
  have e:=DF H i kind k;have u:=SI.aN m ks (h.ax wf lgi hc m hi (f k VH) hs) (wf.ax m hi (by have:=f k VH;omega) _)
   (lgi.ax m hi (f k VH) (hs.imp (fun⟨a,b⟩=>⟨a,b,lgi.ct i m hi b⟩) id)) (e.2.1.trans hc) (by rw[e.2.2.1];exact hi) (fun x d=>f x (VI _ d)) (by rw[(e.2.2.2.2 i).1];exact hs)
  refine u.d6 (fun k' j p t=>((u.cv k' j p t).1).mono (fun x d=>⟨d.1.1,?_⟩) (fun _ _ _ _ h=>h));rcases d.1.2 with a|a
  ·rcases d.2 with b|b
   ·exact .inl (by simp[a,b])
   ·exact .inr b
  ·exact .inr a
def q7r (i:Nat):∀ (ks:List Nat) (H:Hs),ks.Nodup->∀ k,(reld H i ks).sh k=if k∈ks then { H.sh k with tab:=Bj (H.sh k).tab i } else H.sh k
 | [],H,_,k=>by rw[if_neg (by simp)];rfl
 | q::ks,H,hn,k=>by
  rw[Yz] at hn;show(reld (H.rel q i) i ks).sh k=_;rw[q7r i ks _ hn.2 k];have d:∀ k,(H.rel q i).sh k=if k=q then { H.sh q with tab:=Bj (H.sh q).tab i } else H.sh k:=fun k=>by
   show(Af H.sh q _ k)=_;unfold Af;rfl
  rw[d];by_cases e:k=q
  ·subst e;simp[hn.1]
  ·by_cases a:k∈ks
   ·simp[e,a]
   ·simp[e,a]
def qbg (i:Nat):∀ (ks:List Nat) (H:Hs),ks.Nodup->∀ a w,w∈((reld H i ks).tx a).aj↔w∈(H.tx a).aj/\∀ k∈ks,¬JM (H.sh k).tab i a w.1
 | [],H,_,a,w=>⟨fun h=>⟨h,fun _ h=>(nomatch h)⟩,fun h=>h.1⟩
 | q::ks,H,hn,a,w=>by
  rw[Yz] at hn;show w∈((reld (H.rel q i) i ks).tx a).aj↔_;rw[qbg i ks _ hn.2 a w];have p:∀ k,k∈ks->(H.rel q i).sh k=H.sh k:=fun k d=>by
   show(Af H.sh q _ k)=_;exact As (show k≠q from fun e=>hn.1 (by rw[<- e];exact d)) _
  have t:w∈((H.rel q i).tx a).aj↔w∈(H.tx a).aj/\¬JM (H.sh q).tab i a w.1:=q6j;rw[t];constructor
  ·rintro ⟨⟨m,f⟩,u⟩;refine⟨m,fun k d=>?_⟩;rcases List.mem_cons.1 d with rfl|d
   ·exact f
   ·rw[<- p k d];exact u k d
  ·rintro ⟨m,f⟩;exact⟨⟨m,f q VH⟩,fun k d=>by rw[p k d];exact f k (VI _ d)⟩
def q9j (i:Nat) (ks:List Nat) (H:Hs) (d:ks.Nodup) (k:Nat):(reld H i ks).head k=H.head k:=by
 refine Oh (FI i ks H).2.1 ?_ (fun a=>?_)
 ·rw[q7r i ks H d];split <;> rfl
 ·rw[q7r i ks H d];split <;> exact⟨rfl,rfl⟩
def SI.bf (h:SI H G (fun _ _=>False)) (h1:1<=i) (hi:i<=H.m) (hs:(H.tx i).state=1\/((H.tx i).state=2/\(H.tx i).ag=0)):SI (reld (H.al i) i (H.tx i).af) G (fun k x=>x=(i:Int)/\k∈(H.tx i).af):=by
 have hn:=q2o (H.tx i);generalize ab:(H.tx i).af=ks at *;have a0:=FI i ks (H.al i);have af:=q7r i ks (H.al i) hn;have W:=qbg i ks (H.al i) hn;have ah:∀ k,(reld (H.al i) i ks).head k=H.head k:=fun k=>(q9j i ks (H.al i) hn k).trans (PA rfl rfl)
 have D:AK H (reld (H.al i) i ks):=(AK.au H i _).trans (Kn i ks _);generalize hK:reld (H.al i) i ks=K at *;have Y:∀ a,((H.al i).tx a).state=(if a=i then 4 else(H.tx a).state)/\((H.al i).tx a).ad=(H.tx a).ad/\((H.al i).tx a).ae=(H.tx a).ae/\((H.al i).tx a).ag=(H.tx a).ag/\((H.al i).tx a).aj=(if a=i then [] else(H.tx a).aj):=fun a=>by
  show((Af H.tx i _ a).state=_/\(Af H.tx i _ a).ad=_/\(Af H.tx i _ a).ae=_/\(Af H.tx i _ a).ag=_/\(Af H.tx i _ a).aj=_);by_cases e:a=i
  ·subst e;rw[An,if_pos rfl,if_pos rfl];exact⟨rfl,rfl,rfl,rfl,rfl⟩
  ·rw[As e,if_neg e,if_neg e];exact⟨rfl,rfl,rfl,rfl,rfl⟩
 have y:∀ a,(K.tx a).state=if a=i then 4 else(H.tx a).state:=fun a=>((a0.2.2.2.2 a).1).trans (Y a).1
 have J:∀ a,(K.tx a).ad=(H.tx a).ad:=fun a=>((a0.2.2.2.2 a).2.1).trans (Y a).2.1
 have E:∀ a,(K.tx a).ae=(H.tx a).ae:=fun a=>((a0.2.2.2.2 a).2.2.1).trans (Y a).2.2.1
 have X:∀ a,(K.tx a).ag=(H.tx a).ag:=fun a=>((a0.2.2.2.2 a).2.2.2.2).trans (Y a).2.2.2.1
 have hm:K.m=H.m:=a0.2.2.1;have u:∀ a,Ir K a↔Ir H a:=fun a=>by unfold Ir;rw[hm]
 have a5:∀ a,(K.tx a).af=(H.tx a).af:=fun a=>Dp (E a)
 have a6:∀ a x,Wr K a x↔Wr H a x:=fun a x=>Wr.congr (J a)
 have ae:∀ a x,Cj K G a x↔Cj H G a x:=fun a x=>Cj.congr (J a)
 have aq:(H.tx i).ag=0:=V5 (fun e=>by have:=(h.tp i ⟨h1,hi⟩ e).1;rcases hs with h|⟨_,h⟩ <;> omega);have M:∀ k,(K.sh k).tab=if k∈ks then Bj (H.sh k).tab i else(H.sh k).tab:=fun k=>by rw[af];split <;> rfl
 have z:∀ k,(K.sh k).sto=(H.sh k).sto/\(K.sh k).done=(H.sh k).done/\(K.sh k).aa=(H.sh k).aa:=fun k=>by rw[af];split <;> exact⟨rfl,rfl,rfl⟩
 have ac:∀ k∈ks,k<2:=fun k d=>BR (ab▸d)
 have S:∀ k,k<3->∀ x (o m:Int),o≠i->Hd (H.sh k).tab x o m->Hd (K.sh k).tab x o m:=fun k d x o m a8 hd=>by
  rw[M];split
  ·exact hd.rel (h.gt k d) a8
  ·exact hd
 have al:∀ k,k<2->∀ x (o m:Int),Wt (K.sh k).tab x o m->o≠i/\Wt (H.sh k).tab x o m:=fun k d x o m W=>by
  rw[M] at W;split at W
  ·exact qbh (h.gt k (by omega)) W
  ·rename_i au;refine⟨fun e=>au ?_,W⟩;obtain⟨_,_,a3,_⟩:=h.wt k d x o m W;subst e;rw[<- ab];exact Dy.2 ⟨by omega,by rw[show((i:Int).toNat)=i by omega] at a3;rw[a3];simp⟩
 have aw:∀ w,BK H w->BK K w:=fun w hd=>hd.mono (X w) (E w) (fun k _=>(z k).2.2) (fun k j d U e=>⟨j,D.lv.1 U,by rw[D.lg] at e;exact e⟩)
 have aj:∀ A x,Bc K A x=Bc H A x:=fun A x=>QT (fun a _=>by
  unfold Ik;rw[y,J];by_cases e:a=i
  ·subst e;rw[if_pos rfl,if_neg (by decide),if_neg (by rcases hs with h|⟨h,_⟩ <;> omega)]
  ·rw[if_neg e])
 refine⟨fun k d=>by rw[M];split;exact(h.gt k d).rel i;exact h.gt k d,fun x=>by rw[M,if_neg (fun e=>by have:=ac 2 e;omega)];exact h.t2 x,fun k j d U=>by rw[(z k).2.1,D.lg];rw[ah] at U;exact h.dn k j d U,
  fun k j d U c hc av=>?_,fun k j d U=>by rw[D.lg];exact h.wl k j d (D.lv.1 U),fun k j d U=>?_,fun a I=>?_,fun a I k d e he=>?_,fun a k I d f he x Z=>?_,fun a I ht=>?_,fun a b I hb=>by rw[X,X];exact h.tu a b ((u a).1 I) ((u b).1 hb),fun a I=>?_,?_,fun t w x ht ap a8 a7 hb Z ak=>?_,fun v w x hb h1 h2=>by rw[X,X];exact h.tm v w x hb ((a6 v x).1 h1) ((a6 w x).1 h2),fun t ht x v hv=>?_,fun k d x o m ho=>?_,fun a k I d f he x m Z=>?_,fun a I x m Z=>?_⟩
 ·rw[D.lg] at hc;obtain⟨a1,a2,a3⟩:=h.pw k j d (D.lv.1 U) c hc av;rw[y,a5];refine⟨?_,a2,by unfold Bl.of;rw[J];exact a3⟩;split
  ·decide
  ·exact a1
 ·rw[ah] at U;obtain⟨c1,c2⟩:=h.cv k j d U;rw[D.lg,(z k).1];refine⟨fun w W ag ho Z p hp=>?_,c2⟩;refine S k (by omega) _ _ _ (fun e=>Z ⟨e,?_⟩) (c1 w W ag ho (fun e=>e) p hp);have:=(h.pw k j d (Cu U).1 w W ag).2.1;rw[e,show((i:Int).toNat)=i by omega,ab] at this;exact this
 ·obtain⟨q1,R⟩:=h.wc a ((u a).1 I);rw[a5,J];exact⟨fun x Z=>q1 x ((ae a x).1 Z),R⟩
 ·rw[a5] at d;rw[E] at he;rw[(z k).2.2];exact h.se a ((u a).1 I) k d e he
 ·rw[y] at f;have O:a≠i:=fun e=>by rw[if_pos e] at f;omega
  rw[if_neg O] at f;rw[E,(z k).2.2] at he;obtain⟨q1,R⟩:=h.ho a k ((u a).1 I) d f he x Z;exact⟨fun W=>S k (by omega) _ _ _ (by omega) (q1 ((a6 a x).1 W)),fun hr=>S k (by omega) _ _ _ (by omega) (R hr)⟩
 ·rw[X] at ht;have O:a≠i:=fun e=>by subst e;exact ht aq
  rw[y,if_neg O,a5];obtain⟨q1,R⟩:=h.tp a ((u a).1 I) ht;exact⟨q1,fun k d j U=>by rw[D.lg];exact R k d j (D.lv.1 U)⟩
 ·rw[y];split
  ·decide
  ·exact h.st a ((u a).1 I)
 ·refine⟨h.en.1,fun a I=>?_,fun a I f=>?_⟩
  ·obtain⟨q1,R⟩:=h.en.2.1 a I;refine⟨(u a).2 q1,?_⟩;rw[y];split
   ·decide
   ·exact R
  ·rw[y] at f;have O:a≠i:=fun e=>by rw[if_pos e] at f;omega
   rw[if_neg O] at f;exact h.en.2.2 a ((u a).1 I) f
 ·rw[y] at a7;have an:w≠i:=fun e=>by rw[if_pos e] at a7;omega
  rw[if_neg an] at a7;rw[y] at hb;have ad:t≠i:=fun e=>by rw[if_pos e] at hb;omega
  rw[if_neg ad] at hb;exact aw w (h.dm t w x ((u t).1 ht) ((u w).1 ap) a8 a7 hb ((ae t x).1 Z) ((a6 w x).1 ak))
 ·obtain⟨q1,R⟩:=h.ri t ((u t).1 ht) x v hv;rw[y,aj];by_cases e:t=i
  ·rw[if_pos e];exact⟨fun h=>by omega,fun h=>by omega⟩
  ·rw[if_neg e];exact⟨q1,fun ar A B hE=>by rw[aj];exact R ar A B hE⟩
 ·obtain⟨q1,R⟩:=al k d x o m ho;obtain⟨a1,a2,a3,a4⟩:=h.wt k d x o m R;rw[hm,y,E,(z k).2.2,if_neg (by omega)];exact⟨a1,a2,a3,a4⟩
 ·rw[y] at f;have O:a≠i:=fun e=>by rw[if_pos e] at f;omega
  rw[if_neg O] at f;rw[E,(z k).2.2] at he;have aa:=h.ww a k ((u a).1 I) d f he x m Z;have ao:((H.al i).tx a).aj=(H.tx a).aj:=by rw[(Y a).2.2.2.2,if_neg O]
  rw[W,ao];have ai:∀ q∈ks,q≠k->¬JM ((H.al i).sh q).tab i a x:=fun q hq a8 hg=>by
   obtain⟨_,m',am⟩:=Hc (h.gt q (by have:=ac q hq;omega)) hg;have:=(h.wt q (ac q hq) x _ _ am).2.2.2;omega
  rw[M];by_cases e:k∈ks
  ·rw[if_pos e];constructor
   ·rintro ⟨q1,R⟩;rcases q70 (h.gt k (by omega)) (tx:=i) (aa.1 q1) (by omega) with q|q
    ·exact q.1
    ·exact absurd q.1 (R k e)
   ·intro q;obtain⟨_,R⟩:=qbh (h.gt k (by omega)) q;refine⟨aa.2 R,fun k' a9 hg=>?_⟩;by_cases e2:k'=k
    ·subst e2;rcases q70 (h.gt k' (by omega)) (tx:=i) R (by omega) with q3|q3
     ·exact q3.2 hg
     ·exact q3.2.2 m q
    ·exact ai k' a9 e2 hg
  ·rw[if_neg e,<- aa];exact⟨fun q=>q.1,fun q=>⟨q,fun k' a9 hg=>ai k' a9 (fun e2=>e (e2▸a9)) hg⟩⟩
 ·rw[a5];have:=((W a (x,m)).1 Z).1;rw[(Y a).2.2.2.2] at this;split at this
  ·cases this
  ·exact h.wn a ((u a).1 I) x m this
def SI.abort (h:SI H G (fun _ _=>False)) (K:Wf H) (t:CQ H) (R:H.c=3) (D:1<=i) (z:i<=H.m) (hs:(H.tx i).state=1\/((H.tx i).state=2/\(H.tx i).ag=0)):SI (H.abort i) G (fun _ _=>False):=by
 rw[Ia];have S:=h.bf D z hs;have d:=FI i (H.tx i).af (H.al i);have p:Wf (reld (H.al i) i (H.tx i).af):=(K.al D z).bK i _ (fun k m=>by show k<H.c;have:=BR m;omega);have v:((reld (H.al i) i (H.tx i).af).tx i).state=4:=by
  rw[(d.2.2.2.2 i).1];show(Af H.tx i _ i).state=4;rw[An]
 have A:((reld (H.al i) i (H.tx i).af).tx i).af=(H.tx i).af:=Dp (by rw[(d.2.2.2.2 i).2.2.1];show(Af H.tx i _ i).ae=_;rw[An]);have f:CQ (reld (H.al i) i (H.tx i).af):=by
  have t1:BF H (H.al i):=by
   refine⟨K0 _,fun a _ _ e=>?_,fun a _ _ e=>?_,fun a _ _ e=>?_⟩
   ·show(Af H.tx i _ a).state=_;by_cases d:a=i
    ·subst d;rw[e] at hs;rcases hs with h|⟨h,_⟩ <;> cases h
    ·rw[As d];exact e
   ·show(Af H.tx i _ a).state=_;by_cases d:a=i
    ·subst d;rw[An]
    ·rw[As d];exact e
   ·show(Af H.tx i _ a).ag=_;by_cases d:a=i
    ·subst d;rw[An]
    ·rw[As d]
  have M:BF (H.al i) (reld (H.al i) i (H.tx i).af):=BF.of d.2.2.1 (fun a=>⟨(d.2.2.2.2 a).1,(d.2.2.2.2 a).2.2.2.2⟩);have y:AP H (reld (H.al i) i (H.tx i).af):=fun a U I e=>by
   rw[(d.2.2.2.2 a).1] at e;have e:(Af H.tx i _ a).state=3:=e;refine⟨by rw[d.2.2.1] at I;exact I,?_⟩;by_cases J:a=i
   ·subst J;rw[An] at e;cases e
   ·rw[As J] at e;exact e
  exact t.sub (t1.trans M) y (BJ.same ((AK.au H i _).trans (Kn i _ _)))
 show SI (Go.Proofs.YtccahlhdifadfaaGreatDoor.telld _ i 4 _) G _;rw[A];have E:=SI.aN (kind:=4) D (H.tx i).af S p f (d.1.trans R) (by rw[d.2.2.1];exact z) (fun k m=>BR m) (.inr ⟨rfl,v⟩);refine E.d6 (fun k j m O=>((E.cv k j m O).1).mono (fun x u=>?_) (fun _ _ _ _ h=>h));rcases u.2 with a|a
 ·exact a u.1.2
 ·exact a u.1.1
def SI.bX (h:SI H G (fun _ _=>False)) (a:Ad H B) {k j:Nat} (M:1<=i) (I:i<=H.m) (S:k∈(H.tx i).af) (U:H.head k=Bs j) (f:¬Aj (lg H k j) 2 i) (hs:(H.tx i).state=2)
  (W:(H.tx i).ae k=Bs (H.sh k).aa):SG H k j i ⟨2,i,0,(H.tx i).of k⟩:=by
 have d:=BR S;obtain⟨hl,_⟩:=Cu U;have J:=fun x=>h.ho i k ⟨M,I⟩ d (.inr hs) W x
 have t:∀ z,z=3\/z=4->¬Aj (lg H k j) z i:=fun z a0 K=>by
  obtain⟨c,K,R,O⟩:=K;obtain⟨p,f⟩:=List.mem_iff_getElem?.1 K;obtain⟨_,u⟩:=a.bj.pl k d j hl p c f;have e3:Qp H c.tx=(H.tx i).state:=by rw[O];rfl
  rcases u with u|u|u
  ·omega
  ·have:=u.2.1;omega
  ·have:=u.2;omega
 have v:∀ p∈(H.tx i).of k,Hd (H.sh k).tab (sx p.key) i 2:=fun p f=>by
  obtain⟨q1,X⟩:=List.mem_filter.1 f;exact(J (sx p.key) (by simpa using X)).1 ⟨p,q1,rfl⟩
 refine⟨rfl,⟨M,I⟩,.inl rfl,fun e=>by omega,a.wf.bX M I k,f,fun _=>⟨hs,S,rfl,W,t 3 (.inl rfl),t 4 (.inr rfl),fun w A y D Z=>?_,fun p f=>?_⟩,fun _ e=>by
  have e:(2:Int)=3\/(2:Int)=4:=e;omega⟩
 ·obtain⟨p,E,q,Y,e⟩:=D;have R:=(h.cv k j d U).1 w A y Z (fun e=>e) p E;have O:=v q Y;rw[e] at R;have:=Hd.d5 (h.gt k (by omega)) R (O.mono (by omega));exact f ⟨w,A,y,this⟩
 ·exact Ds.of_hd (v p f) (fun m A=>by
   have:=(h.wt k d _ _ _ A).2.1;rw[show((i:Int).toNat)=i by omega] at this;omega)
def SI.prep (h:SI H G (fun _ _=>False)) (a:Ad H B) {k j:Nat} (b:Bool) (D:1<=i) (z:i<=H.m) (m:k∈(H.tx i).af) (d:H.head k=Bs j) (v:¬Aj (lg H k j) 2 i) (hs:(H.tx i).state=2)
  (A:(H.tx i).ae k=Bs (H.sh k).aa):SI (H.add k j ⟨2,i,0,(H.tx i).of k⟩ b).2 G (fun _ _=>False):=by
 have y:=BR m;have p:=h.cW a.wf a.c (by omega) d (h.bX a D z m d v hs A) (q54 (b:=b) d (h.room a.bj a.wf.bz (by omega) d _ _) (h.dn k j (by omega) d));exact p.d6 (fun k' t e f=>((p.cv k' t e f).1).mono (fun x u=>u.1) (fun _ _ _ _ h=>h))
def SI.decide (h:SI H G (fun _ _=>False)) (a:Ad H B) {j:Nat} (b:Bool) (u:1<=i) (p:i<=H.m) (d:H.head 2=Bs j) (z:¬Aj (lg H 2 j) 3 i):SI (H.add 2 j ⟨3,i,(H.tx i).ag,[]⟩ b).2 G (fun _ _=>False):=by
 have A:SG H 2 j i ⟨3,i,(H.tx i).ag,[]⟩:=⟨rfl,⟨u,p⟩,.inr (.inl rfl),fun _=>rfl,a.wf.dv u p,z,fun e=>by
  have e:(3:Int)=2:=e;omega,fun e=>by omega⟩
 have t:=h.cW a.wf a.c (by omega) d A (q54 (b:=b) d (h.room a.bj a.wf.bz (by omega) d _ _) (h.dn 2 j (by omega) d));exact t.d6 (fun k' v f m=>((t.cv k' v f m).1).mono (fun x y=>y.1) (fun _ _ _ _ h=>h))
def Nl {b:Nat} (h:Bef E a b):a∈E/\b∈E:=by
 obtain⟨A,C,rfl,d⟩:=h;exact⟨by simp[d],by simp⟩
def R5 {b:Nat} (h:Bef E a b) (d:E.Nodup):a≠b:=by
 obtain⟨A,C,rfl,e⟩:=h;rintro rfl;rw[Yj] at d;exact d.2.2 a e a (by simp) rfl
def SI.timed (h:SI H G (fun _ _=>False)) (a:Ad H B) (h1:1<=i) (hi:i<=H.m) (hs:(H.tx i).state=2) (hp:∀ k∈(H.tx i).af,AH H k 2 i):SI (H.timed i) G (fun _ _=>False):=by
 rw[qc2 a.wf];split
 ·rename_i h0;have d:∀ b,((H.aQ i).tx b).state=(H.tx b).state/\((H.aQ i).tx b).ad=(H.tx b).ad/\((H.aQ i).tx b).ae=(H.tx b).ae/\((H.aQ i).tx b).aj=(H.tx b).aj/\((H.aQ i).tx b).ag=(if b=i then H.ag+1 else(H.tx b).ag):=fun b=>by
   show((Af H.tx i _ b).state=_/\(Af H.tx i _ b).ad=_/\(Af H.tx i _ b).ae=_/\(Af H.tx i _ b).aj=_/\(Af H.tx i _ b).ag=_);by_cases e:b=i
   ·subst e;rw[An,if_pos rfl];exact⟨rfl,rfl,rfl,rfl,rfl⟩
   ·rw[As e,if_neg e];exact⟨rfl,rfl,rfl,rfl,rfl⟩
  have M:∀ b,((H.aQ i).tx b).af=(H.tx b).af:=fun b=>Dp (d b).2.2.1
  have J:∀ b x,Wr (H.aQ i) b x↔Wr H b x:=fun b x=>Wr.congr (d b).2.1
  have a1:∀ b x,Cj (H.aQ i) G b x↔Cj H G b x:=fun b x=>Cj.congr (d b).2.1
  have a4:∀ A x,Bc (H.aQ i) A x=Bc H A x:=fun A x=>QT (fun b _=>Tx (d b).1 (d b).2.1)
  have a6:∀ k∈(H.tx i).af,∀ j,Lv H k j->Aj (lg H k j) 2 i:=fun k z j W=>by
   obtain⟨R,p,c,q1,E,Y,q4,q5⟩:=hp k z;have ac:=BR z;have a8:=a.ch.st k (by rw[a.c];omega) R j (Cu q1).1 W;have a3:p<(lg H k j).length:=by
    have:H.an k R<=(lg H k j).length:=a8;omega
   rcases Nat.le_total R j with D|D
   ·have K:=a.ch.pre k (by rw[a.c];omega) R j D (Cu q1).1 W;have e:(lg H k j)[p]? = Bs c:=by
     have:=getElem?_prefix K (L1 a3);rw[E] at this;rw[L1 a3,<- this]
    exact⟨c,S2 e,Y,q4⟩
   ·have K:=a.ch.pre k (by rw[a.c];omega) j R D W (Cu q1).1;exact⟨c,S2 (getElem?_prefix K E),Y,q4⟩
  have a2:¬BK H i:=by
   rintro ⟨_,k,z,_,h4⟩;obtain⟨R,p,c,q1,E,Y,q4,_⟩:=hp k z;exact h4 R (Cu q1).1 ⟨c,S2 E,Y,q4⟩
  have aa:∀ w,BK H w->BK (H.aQ i) w:=fun w hd=>by
   have U:w≠i:=fun e=>a2 (e▸hd)
   exact hd.mono (by rw[(d w).2.2.2.2,if_neg U]) (d w).2.2.1 (fun _ _=>rfl) (fun k j z W e=>⟨j,W,e⟩)
  have D:∀ b,Ir H b->(H.tx b).ag<=H.ag:=fun b f=>(a.wf.cR b f.1 f.2).2
  have ab:=a.wf.bk;refine⟨h.gt,h.t2,h.dn,fun k j z W c hc a9=>?_,h.wl,h.cv,fun b f=>?_,fun b f k z e I=>?_,fun b k f z y I x u=>?_,fun b f Z=>?_,fun b c f hc S I=>?_,fun b f=>by rw[(d b).1];exact h.st b f,⟨h.en.1,fun b f=>by rw[(d b).1];exact h.en.2.1 b f,fun b f y=>by rw[(d b).1] at y;exact h.en.2.2 b f y⟩,fun t w x Z hw U O f u a5=>?_,fun v w x f q1 E tv tw=>?_,fun t Z x v hv=>?_,fun k z x o m ho=>?_,fun b k f z y I x m u=>?_,fun b f x m u=>?_⟩
  ·rw[(d _).1,M];obtain⟨q1,E,Y⟩:=h.pw k j z W c hc a9;exact⟨q1,E,by unfold Bl.of;rw[(d _).2.1];exact Y⟩
  ·rw[M,(d b).2.1];obtain⟨q1,E⟩:=h.wc b f;exact⟨fun x u=>q1 x ((a1 b x).1 u),E⟩
  ·rw[M] at z;rw[(d b).2.2.1] at I;exact h.se b f k z e I
  ·rw[(d b).1] at y;rw[(d b).2.2.1] at I;rw[J];exact h.ho b k f z y I x u
  ·rw[(d b).1,M];by_cases e:b=i
   ·subst e;exact⟨.inl hs,a6⟩
   ·rw[(d b).2.2.2.2,if_neg e] at Z;exact h.tp b f Z
  ·rw[(d b).2.2.2.2] at S;rw[(d b).2.2.2.2,(d c).2.2.2.2] at I;have q1:=D b f;have E:=D c hc;by_cases e:b=i
   ·by_cases X:c=i
    ·omega
    ·rw[if_pos e,if_neg X] at I;omega
   ·by_cases X:c=i
    ·rw[if_neg e,if_pos X] at I;omega
    ·rw[if_neg e] at S;rw[if_neg e,if_neg X] at I;exact h.tu b c f hc S I
  ·rw[(d w).1] at O;rw[(d t).1] at f;exact aa w (h.dm t w x Z hw U O f ((a1 t x).1 u) ((J w x).1 a5))
  ·have hv:=h.en.2.1 v (Nl f).1;have hw:=h.en.2.1 w (Nl f).2;have a0:=R5 f h.en.1;rw[(d v).2.2.2.2] at tv ⊢;rw[(d w).2.2.2.2] at tw ⊢;by_cases e:v=i
   ·subst e;exfalso;rw[if_neg (fun e=>a0 e.symm)] at tw;have O:=(h.tp w hw.1 tw).1;exact a2 (h.dm w v x hw.1 hv.1 (fun e=>a0 e.symm) hs (.inr ⟨O,f⟩) (.inl ((J w x).1 E)) ((J v x).1 q1))
   ·rw[if_neg e] at tv ⊢;by_cases X:w=i
    ·rw[if_pos X];have:=D v hv.1;omega
    ·rw[if_neg X] at tw ⊢;exact h.tm v w x f ((J v x).1 q1) ((J w x).1 E) tv tw
  ·rw[(d t).1,a4];obtain⟨q1,E⟩:=h.ri t Z x v hv;exact⟨q1,fun a7 A C hE=>by rw[a4];exact E a7 A C hE⟩
  ·rw[(d _).1,(d _).2.2.1];exact h.wt k z x o m ho
  ·rw[(d b).1] at y;rw[(d b).2.2.1] at I;rw[(d b).2.2.2.1];exact h.ww b k f z y I x m u
  ·rw[M];rw[(d b).2.2.2.1] at u;exact h.wn b f x m u
 ·exact h
def SI.commit (h:SI H G (fun _ _=>False)) (a:Ad H B) (h1:1<=i) (hi:i<=H.m) (hs:(H.tx i).state=2) (hp:AH H 2 3 i):SI (H.az i 3) G (fun _ _=>False):=by
 have W:(H.tx i).ag≠0:=by
  obtain⟨j,p,c,q1,z,q3,q4,_⟩:=hp;have q5:=a.bj.p2 j (Cu q1).1 c (S2 z);have q6:=q5.2.2.1;have q7:=q5.2.2.2;rw[q4] at q6;have q8:SH H (i:Int)=(H.tx i).ag:=rfl;omega
 have a0:¬BK H i:=fun hd=>W hd.1
 have d:∀ b,((H.az i 3).tx b).state=(if b=i then 3 else(H.tx b).state)/\((H.az i 3).tx b).ad=(H.tx b).ad/\((H.az i 3).tx b).ae=(H.tx b).ae/\((H.az i 3).tx b).aj=(H.tx b).aj/\((H.az i 3).tx b).ag=(H.tx b).ag:=fun b=>by
  show((Af H.tx i _ b).state=_/\(Af H.tx i _ b).ad=_/\(Af H.tx i _ b).ae=_/\(Af H.tx i _ b).aj=_/\(Af H.tx i _ b).ag=_);by_cases e:b=i
  ·subst e;rw[An,if_pos rfl];exact⟨rfl,rfl,rfl,rfl,rfl⟩
  ·rw[As e,if_neg e];exact⟨rfl,rfl,rfl,rfl,rfl⟩
 have J:∀ b,((H.az i 3).tx b).af=(H.tx b).af:=fun b=>Dp (d b).2.2.1
 have K:∀ b x,Wr (H.az i 3) b x↔Wr H b x:=fun b x=>Wr.congr (d b).2.1
 have Y:∀ b x,Cj (H.az i 3) G b x↔Cj H G b x:=fun b x=>Cj.congr (d b).2.1
 have a7:∀ w,BK H w->BK (H.az i 3) w:=fun w hd=>hd.mono (d w).2.2.2.2 (d w).2.2.1 (fun _ _=>rfl) (fun k j E hj e=>⟨j,hj,e⟩)
 have M:∀ b,(((H.az i 3).tx b).state=2\/((H.az i 3).tx b).state=3)↔((H.tx b).state=2\/(H.tx b).state=3):=fun b=>by
  rw[(d b).1];by_cases e:b=i
  ·subst e;rw[if_pos rfl];exact⟨fun _=>.inl hs,fun _=>.inr rfl⟩
  ·rw[if_neg e]
 have D:∀ b,((H.az i 3).tx b).state=1↔(H.tx b).state=1:=fun b=>by
  rw[(d b).1];by_cases e:b=i
  ·subst e;rw[if_pos rfl];exact⟨fun e=>by omega,fun e=>by omega⟩
  ·rw[if_neg e]
 have O:∀ (A:List Nat) (x:Sx),(i∈A->¬Wr H i x)->Bc (H.az i 3) A x=Bc H A x:=fun A x hA=>QT (fun b f=>by
  unfold Ik;rw[(d b).1,(d b).2.1];by_cases e:b=i
  ·subst e;have R:UG (H.tx b).ad x=B0:=qbx.2 (fun p hp e=>hA f ⟨p,hp,e⟩);rw[if_pos rfl,if_pos rfl,R,if_neg (by omega)]
  ·rw[if_neg e])
 refine⟨h.gt,h.t2,h.dn,fun k j E hj c hc a6=>?_,h.wl,h.cv,fun b f=>?_,fun b f k E e I=>?_,fun b k f E y I x u=>?_,fun b f W=>?_,fun b c f hc Z I=>?_,fun b f=>?_,⟨h.en.1,fun b f=>?_,fun b f y=>h.en.2.2 b f ((M b).1 y)⟩,fun t w x W R a5 U f u a2=>?_,fun v w x f q1 z tv tw=>?_,fun t S x v hv=>?_,fun k E x o m ho=>?_,fun b k f E y I x m u=>?_,fun b f x m u=>?_⟩
 ·obtain⟨q1,z,q3⟩:=h.pw k j E hj c hc a6;rw[ne_eq,D,J];exact⟨q1,z,by unfold Bl.of;rw[(d _).2.1];exact q3⟩
 ·rw[J,(d b).2.1];obtain⟨q1,z⟩:=h.wc b f;exact⟨fun x u=>q1 x ((Y b x).1 u),z⟩
 ·rw[J] at E;rw[(d b).2.2.1] at I;exact h.se b f k E e I
 ·have a8:b≠i:=fun e=>by rw[(d b).1,if_pos e] at y;omega
  rw[(d b).1,if_neg a8] at y;rw[(d b).2.2.1] at I;rw[K];exact h.ho b k f E y I x u
 ·rw[(d b).2.2.2.2] at W;rw[J];obtain⟨q1,z⟩:=h.tp b f W;exact⟨(M b).2 q1,z⟩
 ·rw[(d b).2.2.2.2] at Z;rw[(d b).2.2.2.2,(d c).2.2.2.2] at I;exact h.tu b c f hc Z I
 ·rw[(d b).1];split
  ·decide
  ·exact h.st b f
 ·obtain⟨q1,z⟩:=h.en.2.1 b f;exact⟨q1,fun e=>z ((D b).1 e)⟩
 ·have a3:w≠i:=fun e=>by rw[(d w).1,if_pos e] at U;omega
  rw[(d w).1,if_neg a3] at U;exact a7 w (h.dm t w x W R a5 U (f.imp (fun e=>(D t).1 e) (fun⟨a,b⟩=>⟨(M t).1 a,b⟩)) ((Y t x).1 u) ((K w x).1 a2))
 ·rw[(d v).2.2.2.2] at tv ⊢;rw[(d w).2.2.2.2] at tw ⊢;exact h.tm v w x f ((K v x).1 q1) ((K w x).1 z) tv tw
 ·obtain⟨q1,z⟩:=h.ri t S x v hv;have X:Cj H G t x:=.inr ⟨v,hv⟩;refine⟨fun e=>?_,fun e A C hE=>?_⟩
  ·have e:=(D t).1 e;have a4:t≠i:=fun e2=>by subst e2;omega
   rw[O _ _ (fun _ R=>a0 (h.dm t i x S ⟨h1,hi⟩ a4 hs (.inl e) X R))];exact q1 e
  ·have e:=(M t).1 e;rw[O _ _ (fun hA R=>?_)]
   ·exact z e A C hE
   ·have a1:Bef G.E i t:=⟨A,C,hE,hA⟩
    exact a0 (h.dm t i x S ⟨h1,hi⟩ (fun e2=>R5 a1 h.en.1 e2.symm) hs (.inr ⟨e,a1⟩) X R)
 ·obtain⟨q1,z,q3,q4⟩:=h.wt k E x o m ho;exact⟨q1,(D _).2 z,by rw[(d _).2.2.1];exact q3,q4⟩
 ·have y:=(D b).1 y;rw[(d b).2.2.1] at I;rw[(d b).2.2.2.1];exact h.ww b k f E y I x m u
 ·rw[J];rw[(d b).2.2.2.1] at u;exact h.wn b f x m u
def SI.came (h:SI H G (fun _ _=>False)) (a:Ad H B) (h1:1<=i) (hi:i<=H.m) {k:Nat} (hk:k<2) (hs:(H.tx i).state=1) (E:(H.tx i).ae k=B0\/(H.tx i).ae k=Bs (H.sh k).aa):SI (H.came i k) G (fun _ _=>False):=by
 have f:∀ b,((H.came i k).tx b).state=(H.tx b).state/\((H.came i k).tx b).ad=(H.tx b).ad/\((H.came i k).tx b).aj=(H.tx b).aj/\((H.came i k).tx b).ag=(H.tx b).ag/\((H.came i k).tx b).ae=(if b=i then AO (H.tx i).ae k (H.sh k).aa else(H.tx b).ae):=fun b=>by
  show((Af H.tx i _ b).state=_/\(Af H.tx i _ b).ad=_/\(Af H.tx i _ b).aj=_/\(Af H.tx i _ b).ag=_/\(Af H.tx i _ b).ae=_);by_cases e:b=i
  ·subst e;rw[An,if_pos rfl];exact⟨rfl,rfl,rfl,rfl,rfl⟩
  ·rw[As e,if_neg e];exact⟨rfl,rfl,rfl,rfl,rfl⟩
 have D:∀ q:Nat,((H.came i k).tx i).ae q=if q=k then Bs (H.sh k).aa else(H.tx i).ae q:=fun q=>by
  rw[(f i).2.2.2.2,if_pos rfl];unfold AO;by_cases e:q=k
  ·subst e;simp
  ·rw[if_neg (by omega),if_neg e]
 have W:∀ b q,q∈(H.tx b).af->q∈((H.came i k).tx b).af:=fun b q z=>by
  rw[Dy] at z ⊢;refine⟨z.1,?_⟩;by_cases e:b=i
  ·subst e;rw[D];split
   ·simp
   ·exact z.2
  ·rw[(f b).2.2.2.2,if_neg e];exact z.2
 have R:∀ b,b≠i->((H.came i k).tx b).af=(H.tx b).af:=fun b e=>Dp (by rw[(f b).2.2.2.2,if_neg e])
 have K:∀ b x,Wr (H.came i k) b x↔Wr H b x:=fun b x=>Wr.congr (f b).2.1
 have X:∀ b x,Cj (H.came i k) G b x↔Cj H G b x:=fun b x=>Cj.congr (f b).2.1
 have a1:∀ A x,Bc (H.came i k) A x=Bc H A x:=fun A x=>QT (fun b _=>Tx (f b).1 (f b).2.1)
 have a3:(H.tx i).ag=0:=V5 (fun e=>by have:=(h.tp i ⟨h1,hi⟩ e).1;omega);have a5:∀ b,((H.tx b).state=2\/(H.tx b).state=3)->b≠i:=fun b u e=>by subst e;omega
 have a7:∀ w,(H.tx w).state=2->BK H w->BK (H.came i k) w:=fun w S hd=>hd.mono (f w).2.2.2.1 (by rw[(f w).2.2.2.2,if_neg (a5 w (.inl S))]) (fun _ _=>rfl) (fun k j hk hj e=>⟨j,hj,e⟩)
 refine⟨h.gt,h.t2,h.dn,fun q j z hj c hc a6=>?_,h.wl,h.cv,fun b u=>?_,fun b u q z e d=>?_,fun b q u z y d x p=>?_,fun b u M=>?_,fun b c u hc Y d=>by rw[(f b).2.2.2.1] at Y;rw[(f b).2.2.2.1,(f c).2.2.2.1] at d;exact h.tu b c u hc Y d,fun b u=>by rw[(f b).1];exact h.st b u,⟨h.en.1,fun b u=>by rw[(f b).1];exact h.en.2.1 b u,fun b u y=>by rw[(f b).1] at y;exact h.en.2.2 b u y⟩,fun t w x M S a0 U u p a2=>?_,fun v w x u q1 J tv tw=>?_,fun t M x v hv=>?_,fun q z x o m ho=>?_,fun b q u z y d x m p=>?_,fun b u x m p=>?_⟩
 ·obtain⟨q1,J,q3⟩:=h.pw q j z hj c hc a6;rw[(f _).1];exact⟨q1,W _ _ J,by unfold Bl.of;rw[(f _).2.1];exact q3⟩
 ·obtain⟨q1,J⟩:=h.wc b u;rw[(f b).2.1];exact⟨fun x p=>W _ _ (q1 x ((X b x).1 p)),J⟩
 ·by_cases O:b=i
  ·subst O;rw[D] at d;split at d
   ·rename_i I;subst I;injection d with d;rw[<- d];exact WD _
   ·rename_i I;refine h.se b u q (Dy.2 ⟨(Dy.1 z).1,by rw[d];simp⟩) e d
  ·rw[R b O] at z;rw[(f b).2.2.2.2,if_neg O] at d;exact h.se b u q z e d
 ·rw[(f b).1] at y;rw[K];by_cases O:b=i
  ·subst O;rw[D] at d;by_cases I:q=k
   ·subst I;rcases E with E|E
    ·have Z:¬Cj H G b x:=fun M=>by
      have:=(h.wc b u).1 x M;rw[p] at this;exact(Dy.1 this).2 E
     exact⟨fun S=>(Z (.inl S)).elim,fun hr=>(Z (.inr hr)).elim⟩
    ·exact h.ho b q u z y E x p
   ·rw[if_neg I] at d;exact h.ho b q u z y d x p
  ·rw[(f b).2.2.2.2,if_neg O] at d;exact h.ho b q u z y d x p
 ·rw[(f b).2.2.2.1] at M;have a8:b≠i:=fun e=>by subst e;exact M a3
  rw[(f b).1,R b a8];exact h.tp b u M
 ·rw[(f w).1] at U;rw[(f t).1] at u;exact a7 w U (h.dm t w x M S a0 U u ((X t x).1 p) ((K w x).1 a2))
 ·rw[(f v).2.2.2.1] at tv ⊢;rw[(f w).2.2.2.1] at tw ⊢;exact h.tm v w x u ((K v x).1 q1) ((K w x).1 J) tv tw
 ·rw[(f t).1,a1];obtain⟨q1,J⟩:=h.ri t M x v hv;exact⟨q1,fun a4 A C hE=>by rw[a1];exact J a4 A C hE⟩
 ·obtain⟨q1,J,q3,q4⟩:=h.wt q z x o m ho;refine⟨q1,by rw[(f _).1];exact J,?_,q4⟩;by_cases e:o.toNat=i
  ·rw[e,D];split
   ·rename_i I;subst I;rfl
   ·rw[<- e];exact q3
  ·rw[(f _).2.2.2.2,if_neg e];exact q3
 ·rw[(f b).1] at y;rw[(f b).2.2.1];by_cases O:b=i
  ·subst O;rw[D] at d;by_cases I:q=k
   ·subst I;rcases E with E|E
    ·constructor
     ·intro hm;have:=h.wn b u x m hm;rw[p] at this;exact absurd E (Dy.1 this).2
     ·intro S;have:=(h.wt q z x _ _ S).2.2.1;rw[show((b:Int).toNat)=b by omega,E] at this;cases this
    ·exact h.ww b q u z y E x m p
   ·rw[if_neg I] at d;exact h.ww b q u z y d x m p
  ·rw[(f b).2.2.2.2,if_neg O] at d;exact h.ww b q u z y d x m p
 ·rw[(f b).2.2.1] at p;exact W _ _ (h.wn b u x m p)
def SI.locked (h:SI H G (fun _ _=>False)) (a:Ad H B) (ai:H.m<=40) (h1:1<=i) (hi:i<=H.m) (hs:(H.tx i).state=1) {mode:Int} (hm:Br mode) (he:(H.tx i).ae (Aa x)=Bs (H.sh (Aa x)).aa)
  (hw:Ch (Ac (H.sh (Aa x)).tab x).ws i=Jx) (f:Bool) (hf:Ai (Ac (H.sh (Aa x)).tab x).h i mode (Ac (H.sh (Aa x)).tab x).ws=f) (u:H'=if f then H.aU i (Aa x) x mode else(H.aU i (Aa x) x mode).aM i x mode):SI H' G (fun _ _=>False):=by
 have ae:=E4 x;have d:∀ b,(H'.tx b).state=(H.tx b).state/\(H'.tx b).ad=(H.tx b).ad/\(H'.tx b).ag=(H.tx b).ag/\(H'.tx b).ae=(H.tx b).ae/\(H'.tx b).aj=(if b=i/\f=Jx then(H.tx i).aj++[(x,mode)] else(H.tx b).aj):=fun b=>by
  subst u;cases f with
  | true=>exact⟨rfl,rfl,rfl,rfl,by simp[Hs.aU,Hs.ar]⟩
  | false=>
   show((Af H.tx i _ b).state=_/\(Af H.tx i _ b).ad=_/\(Af H.tx i _ b).ag=_/\(Af H.tx i _ b).ae=_/\(Af H.tx i _ b).aj=_);by_cases e:b=i
   ·subst e;rw[An,if_pos ⟨rfl,rfl⟩];exact⟨rfl,rfl,rfl,rfl,rfl⟩
   ·rw[As e,if_neg (fun h=>e h.1)];exact⟨rfl,rfl,rfl,rfl,rfl⟩
 have a5:∀ k,H'.sh k=if k=Aa x then { H.sh k with tab:=Am (H.sh k).tab i x mode } else H.sh k:=fun k=>by
  subst u;have e:(if f=VJ then H.aU i (Aa x) x mode else(H.aU i (Aa x) x mode).aM i x mode).sh k=Af H.sh (Aa x) { H.sh (Aa x) with tab:=Am (H.sh (Aa x)).tab i x mode } k:=by cases f <;> rfl
  rw[e];unfold Af;by_cases e2:k=Aa x
  ·rw[if_pos e2,if_pos e2,e2]
  ·rw[if_neg e2,if_neg e2]
 have Y:H'.m=H.m/\H'.n=H.n:=by subst u;cases f <;> exact⟨rfl,rfl⟩
 have J:∀ k,(H'.sh k).tab=if k=Aa x then Am (H.sh k).tab i x mode else(H.sh k).tab:=fun k=>by rw[a5];split <;> rfl
 have z:∀ k,(H'.sh k).sto=(H.sh k).sto/\(H'.sh k).done=(H.sh k).done/\(H'.sh k).aa=(H.sh k).aa/\(H'.sh k).nd=(H.sh k).nd/\(H'.sh k).ao=(H.sh k).ao:=fun k=>by rw[a5];split <;> exact⟨rfl,rfl,rfl,rfl,rfl⟩
 have O:∀ k j,lg H' k j=lg H k j:=fun k j=>by unfold lg;rw[(z k).2.2.2.1]
 have Z:∀ k j,Lv H' k j↔Lv H k j:=fun k j=>by unfold Lv;rw[Y.2,(z k).2.2.2.1,(z k).2.2.2.2]
 have a8:∀ k,H'.head k=H.head k:=fun k=>Oh Y.2 (z k).2.2.2.2 (fun j=>by rw[(z k).2.2.2.1];exact⟨rfl,rfl⟩)
 have p:∀ b,Ir H' b↔Ir H b:=fun b=>by unfold Ir;rw[Y.1]
 have W:∀ b,(H'.tx b).af=(H.tx b).af:=fun b=>Dp (d b).2.2.2.1
 have X:∀ b x,Wr H' b x↔Wr H b x:=fun b x=>Wr.congr (d b).2.1
 have a1:∀ b x,Cj H' G b x↔Cj H G b x:=fun b x=>Cj.congr (d b).2.1
 have a9:∀ A x,Bc H' A x=Bc H A x:=fun A x=>QT (fun b _=>Tx (d b).1 (d b).2.1)
 have ag:∀ w,BK H w->BK H' w:=fun w hd=>hd.mono (d w).2.2.1 (d w).2.2.2.1 (fun k _=>(z k).2.2.1) (fun k j u R e=>⟨j,(Z k j).1 R,by rw[O] at e;exact e⟩)
 have M:∀ k y (o m:Int),Hd (H.sh k).tab y o m->Hd (H'.sh k).tab y o m:=fun k y o m hd=>by
  rw[J];split
  ·exact hd.lock _ _ _
  ·exact hd
 have ah:(Ac (H.sh (Aa x)).tab x).ws.length≠50:=by
  have hg:=h.gt (Aa x) (by omega) x;have ad:((Ac (H.sh (Aa x)).tab x).ws.map (·.1)).Nodup:=by
   rw[Yw,W8];exact hg.sorted.imp (fun h=>by omega)
  have a4:∀ o∈(Ac (H.sh (Aa x)).tab x).ws.map (·.1),o∈(WS 41).map Int.ofNat:=fun o ho=>by
   obtain⟨w,a0,rfl⟩:=List.mem_map.1 ho;have:=(h.wt (Aa x) ae x w.1 w.2 a0).1;exact List.mem_map.2 ⟨w.1.toNat,List.mem_range.2 (by omega),by show((w.1.toNat:Nat):Int)=w.1;omega⟩
  have:=WI ad a4;simp at this;omega
 refine⟨fun k u=>by rw[J];split;exact(h.gt k u).lock hm x;exact h.gt k u,fun y=>by rw[J,if_neg (by omega)];exact h.t2 y,fun k j u R=>by rw[(z k).2.1,O];rw[a8] at R;exact h.dn k j u R,
  fun k j u R c hc af=>?_,fun k j u R=>by rw[O];exact h.wl k j u ((Z k j).1 R),fun k j u R=>?_,fun b D=>?_,fun b D k u e E=>?_,fun b k D u K E y S=>?_,fun b D ht=>?_,fun b c D hc a2 E=>by rw[(d b).2.2.1] at a2;rw[(d b).2.2.1,(d c).2.2.1] at E;exact h.tu b c ((p b).1 D) ((p c).1 hc) a2 E,fun b D=>by rw[(d b).1];exact h.st b ((p b).1 D),⟨h.en.1,fun b D=>by rw[(d b).1,p];exact h.en.2.1 b D,fun b D K=>by rw[(d b).1] at K;exact h.en.2.2 b ((p b).1 D) K⟩,fun t w y ht a0 a7 a3 D aa ab=>?_,fun v w y D q1 I tv tw=>?_,fun t ht y v hv=>?_,fun k u y o m ho=>?_,fun b k D u K E y m S=>?_,fun b D y m S=>?_⟩
 ·rw[O] at hc;obtain⟨q1,I,q3⟩:=h.pw k j u ((Z k j).1 R) c hc af;rw[(d _).1,W];exact⟨q1,I,by unfold Bl.of;rw[(d _).2.1];exact q3⟩
 ·rw[a8] at R;obtain⟨c1,c2⟩:=h.cv k j u R;rw[O,(z k).1];exact⟨c1.mono (fun _ e=>e) (fun y o m _ hd=>M k y o m hd),c2⟩
 ·rw[W,(d b).2.1];obtain⟨q1,I⟩:=h.wc b ((p b).1 D);exact⟨fun y S=>q1 y ((a1 b y).1 S),I⟩
 ·rw[W] at u;rw[(d b).2.2.2.1] at E;rw[(z k).2.2.1];exact h.se b ((p b).1 D) k u e E
 ·rw[(d b).1] at K;rw[(d b).2.2.2.1,(z k).2.2.1] at E;obtain⟨q1,I⟩:=h.ho b k ((p b).1 D) u K E y S;exact⟨fun hw=>M _ _ _ _ (q1 ((X b y).1 hw)),fun hr=>M _ _ _ _ (I hr)⟩
 ·rw[(d b).2.2.1] at ht;rw[(d b).1,W];obtain⟨q1,I⟩:=h.tp b ((p b).1 D) ht;exact⟨q1,fun k u j R=>by rw[O];exact I k u j ((Z k j).1 R)⟩
 ·rw[(d w).1] at a3;rw[(d t).1] at D;exact ag w (h.dm t w y ((p t).1 ht) ((p w).1 a0) a7 a3 D ((a1 t y).1 aa) ((X w y).1 ab))
 ·rw[(d v).2.2.1] at tv ⊢;rw[(d w).2.2.1] at tw ⊢;exact h.tm v w y D ((X v y).1 q1) ((X w y).1 I) tv tw
 ·rw[(d t).1,a9];obtain⟨q1,I⟩:=h.ri t ((p t).1 ht) y v hv;exact⟨q1,fun ac A C hE=>by rw[a9];exact I ac A C hE⟩
 ·have a6:Wt (H.sh k).tab y o m\/(o=i/\y=x/\k=Aa x):=by
   rw[J] at ho;split at ho
   ·rename_i e;rcases Er ho with h2|⟨h2,h3,_,_⟩
    ·exact .inl h2
    ·exact .inr ⟨h2,h3,e⟩
   ·exact .inl ho
  rw[Y.1,(d _).1,(d _).2.2.2.1,(z k).2.2.1];rcases a6 with h2|⟨rfl,rfl,rfl⟩
  ·exact h.wt k u y o m h2
  ·rw[show((i:Int).toNat)=i by omega];exact⟨by omega,hs,he,rfl⟩
 ·rw[(d b).1] at K;rw[(d b).2.2.2.1,(z k).2.2.1] at E;have U:=h.ww b k ((p b).1 D) u K E y m S;rw[(d b).2.2.2.2,J];cases f with
  | true=>
   rw[if_neg (by simp),U];split
   ·rename_i e;subst e;refine⟨fun q=>q.lock _ _ _,fun q=>?_⟩;rcases Er q with q|⟨_,I,_,q4⟩
    ·exact q
    ·rw[hf] at q4;cases q4
   ·exact Yl
  | false=>
   by_cases e2:b=i
   ·subst e2;rw[if_pos ⟨rfl,rfl⟩];split
    ·rename_i e;subst e;constructor
     ·intro q;rcases List.mem_append.1 q with q|q
      ·exact(U.1 q).lock _ _ _
      ·rw[VW] at q;injection q with q1 I;subst q1 I;exact FZ hw hf ah
     ·intro q;rcases Er q with q|⟨_,rfl,rfl,_⟩
      ·exact VT _ (U.2 q)
      ·simp
    ·rename_i e;rw[<- U];constructor
     ·intro q;rcases List.mem_append.1 q with q|q
      ·exact q
      ·rw[VW] at q;injection q with q1 I;subst q1;exact absurd S.symm e
     ·exact fun q=>VT _ q
   ·rw[if_neg (fun h=>e2 h.1),U];split
    ·rename_i e;subst e;refine⟨fun q=>q.lock _ _ _,fun q=>?_⟩;rcases Er q with q|⟨I,_⟩
     ·exact q
     ·exact absurd (by omega) e2
    ·exact Yl
 ·rw[W];rw[(d b).2.2.2.2] at S;split at S
  ·rename_i e;obtain⟨rfl,_⟩:=e;rcases List.mem_append.1 S with q|q
   ·exact h.wn b ((p b).1 D) y m q
   ·rw[VW] at q;injection q with q1 I;subst q1;exact Dy.2 ⟨by omega,by rw[he];simp⟩
  ·exact h.wn b ((p b).1 D) y m S
def GH {H:Hs} (h:∀ j,H.head s=Bs j->(H.sh s).done=(lg H s j).length):H.take s=H:=by
 unfold Hs.take;cases e:H.head s with
 | none=>rfl
 | some j=>
  have:=h j e;show Hs.aO s ((H.sh s).nd j).log (((H.sh s).nd j).log.length-(H.sh s).done) H=H;have a:((H.sh s).nd j).log.length-(H.sh s).done=0:=by unfold lg at this;omega
  rw[a];rfl
def q8m (d:Nd) (m:Ms):(d.step m).1.at_=d.at_/\(d.head=VJ->(d.step m).1.log=d.log):=by
 have e:(d.grow m.cmd).1.at_=d.at_:=by
  unfold Nd.grow;split
  ·exact(Ej _).2.2.2.2
  ·rfl
 unfold Nd.step;split
 ·exact⟨rfl,fun _=>rfl⟩
 ·simp only;split
  ·exact⟨rfl,fun _=>rfl⟩
  ·split
   ·exact⟨rfl,fun _=>rfl⟩
   ·split
    ·rename_i h;refine⟨e,fun a=>?_⟩;have f:=h.2.1;unfold Nd.head at a;simp only[Wj,decide_eq_true_eq,beq_iff_eq] at f a;omega
    ·split <;> exact⟨rfl,fun _=>rfl⟩
def Ns.nd {d:Nd} (hs:s<3) (u:d.id=((H.sh s).nd j).id) (z:d.at_=((H.sh s).nd j).at_) (x:lg H s j <+: d.log) (t:Lv H s j->∃ q,Lv H s q/\d.log <+: lg H s q) (y:((H.sh s).nd j).head=VJ->d.log=lg H s j) (ms:List Ms) (net:AW) :
  Ns H ((({ H with net:=net } : Hs).aq s j d).send ms):=by
 have m:∀ {a q},Lv ((({ H with net:=net } : Hs).aq s j d).send ms) a q↔Lv H a q:=fun {a q}=>q62 (H:={ H with net:=net }) u
 have p:∀ a q,lg ((({ H with net:=net } : Hs).aq s j d).send ms) a q=if a=s/\q=j then d.log else lg H a q:=q4z { H with net:=net } s j d
 have f:∀ a,(((({ H with net:=net } : Hs).aq s j d).send ms).sh a).tab=(H.sh a).tab/\(((({ H with net:=net } : Hs).aq s j d).send ms).sh a).sto=(H.sh a).sto/\(((({ H with net:=net } : Hs).aq s j d).send ms).sh a).done=(H.sh a).done/\(((({ H with net:=net } : Hs).aq s j d).send ms).sh a).aa=(H.sh a).aa/\(((({ H with net:=net } : Hs).aq s j d).send ms).sh a).ao=(H.sh a).ao:=fun a=>by
  show((({ H with net:=net } : Hs).aq s j d).sh a).tab=_/\((({ H with net:=net } : Hs).aq s j d).sh a).sto=_/\((({ H with net:=net } : Hs).aq s j d).sh a).done=_/\((({ H with net:=net } : Hs).aq s j d).sh a).aa=_/\((({ H with net:=net } : Hs).aq s j d).sh a).ao=_;by_cases e:a=s
  ·subst e;rw[D9];exact⟨rfl,rfl,rfl,rfl,rfl⟩
  ·rw[Ic _ j d e];exact⟨rfl,rfl,rfl,rfl,rfl⟩
 have v:∀ a,((({ H with net:=net } : Hs).aq s j d).send ms).head a=H.head a:=fun a=>Oh rfl (f a).2.2.2.2 (fun q=>by
  show(((({ H with net:=net } : Hs).aq s j d).sh a).nd q).id=_/\(((({ H with net:=net } : Hs).aq s j d).sh a).nd q).head=_;by_cases e:a=s
  ·subst e;rw[D9];by_cases A:q=j
   ·subst A;simp only[An];exact⟨u,by unfold Nd.head;rw[z]⟩
   ·simp only[As A];exact⟨by first|rfl|trivial,by first|rfl|trivial⟩
  ·rw[Ic _ j d e];exact⟨rfl,rfl⟩)
 refine⟨rfl,fun a q _ h=>m.1 h,fun a q _ h=>by rw[<- v];exact h,fun a q _ _=>?_,fun a q _ h=>?_,fun a q _ h=>?_,fun a _=>⟨(f a).1,(f a).2.1,(f a).2.2.1,(f a).2.2.2.1⟩,fun _=>⟨rfl,rfl,rfl,rfl,rfl⟩⟩
 ·rw[p];split
  ·rename_i e;obtain⟨rfl,rfl⟩:=e;exact x
  ·exact VQ _
 ·rw[p];split
  ·rename_i e;obtain⟨rfl,rfl⟩:=e;exact t (m.1 h)
  ·exact⟨q,m.1 h,VQ _⟩
 ·rw[p];split
  ·rename_i e;obtain⟨rfl,rfl⟩:=e;rw[v] at h;exact y (Cu h).2
  ·rfl
def SI.arrive (h:SI H G (fun _ _=>False)) (a:Ad H B) {k:Nat} {m:Ms} (v:H.net.l[k]? = Bs m):SI (({ H with net:=takeS H.net k } : Hs).arrive m) G (fun _ _=>False):=by
 cases f:Hs.node { H with net:=takeS H.net k } m.a4 with
 | none=>
  rw[Ig f];exact h.same ⟨rfl,fun _ _ _ h=>h,fun _ _ _ h=>h,fun _ _ _ _=>VQ _,fun _ j _ h=>⟨j,h,VQ _⟩,fun _ _ _ _=>rfl,fun _ _=>⟨rfl,rfl,rfl,rfl⟩,fun _=>⟨rfl,rfl,rfl,rfl,rfl⟩⟩
 | some r=>
  obtain⟨s,j⟩:=r;obtain⟨hs,hl,_⟩:=q3y (H:={ H with net:=takeS H.net k }) a.c f;have d:s<3:=by have:=a.c;have hs:s<H.c:=hs;omega
  rw[Ih f];have y:Ns H ((({ H with net:=takeS H.net k } : Hs).aq s j (((H.sh s).nd j).step m).1).send (((H.sh s).nd j).step m).2):=
   Ns.nd d (q4x _ m).2 (q8m _ m).1 (q4x _ m).1 (fun p=>qc7 a.ch (s:=s) (j:=j) (by rw[a.c];exact d) p (S2 v)) (fun x=>(q8m _ m).2 x) _ _
  have t:=h.same y;have e:(((({ H with net:=takeS H.net k } : Hs).aq s j (((H.sh s).nd j).step m).1).send (((H.sh s).nd j).step m).2).take s)=((({ H with net:=takeS H.net k } : Hs).aq s j (((H.sh s).nd j).step m).1).send (((H.sh s).nd j).step m).2):=GH (fun q u=>t.dn s q d u);show SI (((({ H with net:=takeS H.net k } : Hs).aq s j (((H.sh s).nd j).step m).1).send (((H.sh s).nd j).step m).2).take s) G _;rw[e];exact t
def SI.step (h:SI H G (fun _ _=>False)) (a:Ad H B) (v:H.m<=40) (s:Bp H H'):SI H' G (fun _ _=>False):=by
 cases s with
 | abort f d hs=>exact h.abort a.wf a.bj a.c f d hs
 | @tell i k kind f d m hs=>
  have J:=h.ax a.wf a.bj a.c f d m hs;exact J.d6 (fun k' K D E=>((J.cv k' K D E).1).mono (fun x y=>y.1) (fun _ _ _ _ h=>h))
 | prep b f d m u p hs O t R=>exact h.prep a b f d m u p hs t
 | @place i k at_ f d m S hs=>
  refine h.same ⟨rfl,fun _ _ _ h=>h,fun _ _ _ h=>h,fun _ _ _ _=>VQ _,fun _ j _ h=>⟨j,h,VQ _⟩,fun _ _ _ _=>rfl,fun _ _=>⟨rfl,rfl,rfl,rfl⟩,fun b=>?_⟩;show(Af H.tx i _ b).state=_/\(Af H.tx i _ b).ad=_/\(Af H.tx i _ b).ae=_/\(Af H.tx i _ b).ag=_/\(Af H.tx i _ b).aj=_;by_cases e:b=i
  ·subst e;rw[An];exact⟨rfl,rfl,rfl,rfl,rfl⟩
  ·rw[As e];exact⟨rfl,rfl,rfl,rfl,rfl⟩
 | timed f d hs p=>exact h.timed a f d hs p
 | decide b f d u p hs O=>exact h.decide a b f d u p
 | commit f d hs p=>exact h.commit a f d hs p
 | came f d m hs u t=>exact h.came a f d m hs t
 | got f d hs y A u t z I=>exact h.locked a v f d hs A t z VJ I rfl
 | wait f d hs y A u t M z I=>exact h.locked a v f d hs A t z Jx I rfl
 | @tick s j hs hl=>
  exact h.same (Ns.nd (H:=H) hs (Ej _).1 (Ej _).2.2.2.2 (by rw[(Ej _).2.1];exact VQ _) (fun hl=>⟨j,hl,by rw[(Ej _).2.1];exact VQ _⟩) (fun _=>(Ej _).2.1) _ H.net)
 | arrive m=>exact h.arrive a m
def SI.star (s:Ag H H'):SI H G (fun _ _=>False)->Ad H B->H.m<=40->SI H' G (fun _ _=>False)/\Ad H' B:=by
 induction s with
 | refl=>exact fun h a _=>⟨h,a⟩
 | step s _ e=>exact fun h a d=>e (h.step a d s) (a.step s).1 (by rw[s.sm.m];exact d)
end
section
variable {H H':Hs} {G:Gh} {i s:Nat} {B:Int}
def no_gr {T:Tb} (g:GT T) (h:∀ x,(Ac T x).ws=[]) {o:Int} : ¬JM T tx o x:=fun e=>by
 obtain⟨_,m,a⟩:=Hc g e;unfold Wt at a;rw[h] at a;cases a
def qb2 {l:List Cm} (f:Sd l) (p:∀ c∈l,(c.ai=2\/c.ai=3\/c.ai=4)/\DO c):∀ (k:Nat) (H:Hs),(H.sh s).done+k=l.length->SV (H.sh s).tab (l.take (H.sh s).done)->
  (∀ a w,w∈((Hs.aO s l k H).tx a).aj↔w∈(H.tx a).aj)/\((∀ c∈l,c.ai=3)->(H.sh s).tab=(fun _=>B0)->((Hs.aO s l k H).sh s).tab=(fun _=>B0))
 | 0,H,_,_=>⟨fun _ _=>Yl,fun _ h=>h⟩
 | k+1,H,D,e=>by
  obtain⟨c,d⟩:∃ c,l[(H.sh s).done]? = Bs c:=⟨_,L1 (by omega)⟩
  rw[q5v rfl d];obtain⟨x,E,v⟩:=q98 (H:=H) (s:=s) l (H.sh s).done c;have u:l.take ((H.sh s).done+1)=l.take (H.sh s).done++[c]:=by rw[VX,d];rfl
  obtain⟨y,A⟩:=p c (S2 d);have m:=qb2 f p k (H.taken s l (H.sh s).done c) (by rw[v];omega) (by
   rw[x,v,u];exact e.step (f.pre (by rw[<- u];exact List.take_prefix _ _)) y)
  refine⟨fun a w=>(m.1 a w).trans ?_,fun t z=>m.2 t ?_⟩
  ·rw[q97];exact⟨fun h=>h.1,fun h=>⟨h,fun _=>no_gr e.gt e.ws⟩⟩
  ·rw[x,QM (.inl (t c (S2 d))),z];rfl
structure FixT (H H':Hs) (s:Nat):Prop where
 gt:GT (H'.sh s).tab
 ws:∀ x,(Ac (H'.sh s).tab x).ws=[]
 two:s=2->∀ x,(H'.sh s).tab x=B0
 dn:∀ j,H'.head s=Bs j->(H'.sh s).done=(lg H s j).length
 cv:∀ j,H'.head s=Bs j->EL (H'.sh s).tab (lg H s j) (fun _=>False)/\EM (H'.sh s).sto (lg H s j)
 aj:∀ a w,w∈(H'.tx a).aj↔w∈(H.tx a).aj
 src:∀ x o m,(Ac (H'.sh s).tab x).h o=Bs m->∃ j,H'.head s=Bs j/\Ed (lg H s j) o/\∃ w∈lg H s j,w.ai=2/\w.tx=o
def SI.fixT (h:SI H G (fun _ _=>False)) (a:Ad H B) (hB:B<=1000000) (hs:s<3) (hl:(H.sh s).ah H.n≠[]):FixT H (H.fix s) s:=by
 have J:=(a.fix hB hs).2.2.2;have hw:Xn ((H.sh s).aa+1)=(H.sh s).aa+1:=Xf _ ⟨by have:=a.ep s hs;omega,by have:=a.ep s hs;omega⟩;have y:=J.lg;have v:=J.lv;have U:H.fix s=H.bh s:=q8s hl;rw[U] at y v ⊢;clear U J;unfold Hs.bh at y v ⊢;simp only at y v ⊢;generalize Z:H.ar s { H.sh s with aa:=Xn ((H.sh s).aa+1),size:=((H.sh s).ah H.n).length } = H1 at *;have E:=q6m s ((H.sh s).ids H.n) ((H.sh s).ah H.n) H1;have O:H1.tx=H.tx:=by rw[<- Z];rfl
 generalize List.foldl (Hs.a5 s ((H.sh s).ids H.n)) H1 ((H.sh s).ah H.n)=H2 at *;generalize hM:H2.ar s { H2.sh s with tab:=fun _=>B0,sto:=fun _=>[],done:=0 } = M at *;have d:(M.sh s).tab=(fun _=>B0)/\(M.sh s).sto=(fun _=>[])/\(M.sh s).done=0:=by rw[<- hM,Cl];exact⟨rfl,rfl,rfl⟩
 have A:M.tx=H.tx:=by rw[<- hM];show H2.tx=_;rw[E.2.2.2.2,O]
 have t:=AK.take M s;have Y:(M.take s).head s=M.head s:=Oh t.n (t.ao s) (fun j=>by rw[t.nd];exact⟨rfl,rfl⟩);cases z:M.head s with
 | none=>
  have e:M.take s=M:=by unfold Hs.take;rw[z]
  rw[e];refine⟨by rw[d.1];exact GT.none_,fun x=>by rw[d.1];rfl,fun _ x=>by rw[d.1],fun j I=>absurd (z.symm.trans I) (by simp),fun j I=>absurd (z.symm.trans I) (by simp),fun b w=>by rw[A],fun x o m R=>by rw[d.1] at R;cases R⟩
 | some j=>
  have e:M.take s=Hs.aO s (lg M s j) ((lg M s j).length-(M.sh s).done) M:=by unfold Hs.take;rw[z];rfl
  have X:lg M s j=lg H s j:=by rw[<- t.lg];exact y s j
  have f:Lv H s j:=(v s j (by rw[a.c];exact hs)).1 (t.lv.2 (Cu z).1);have K:=(h.wl s j hs f).1;have S:∀ c∈lg H s j,(c.ai=2\/c.ai=3\/c.ai=4)/\DO c:=fun c W=>⟨(a.ai hs f W).1,(a.wf.nd s j (by rw[a.c];exact hs) f.1).log c W⟩
  rw[X,d.2.2] at e;have D:=Fm (s:=s) K S ((lg H s j).length-0) M (by rw[d.2.2];omega) (by rw[d.1,d.2.2];exact SV.nil) (by rw[d.2.1,d.2.2];exact EM.nil);have r2:=qb2 (s:=s) K S ((lg H s j).length-0) M (by rw[d.2.2];omega) (by rw[d.1,d.2.2];exact SV.nil);have p:=Y;rw[e] at p ⊢;refine⟨D.2.1.gt,D.2.1.ws,fun e2 x=>?_,fun q u=>?_,fun q u=>?_,fun b w=>by rw[<- A];exact r2.1 b w,fun x o m R=>⟨j,p.trans z,(D.2.1.src x o m R).1,(D.2.1.src x o m R).2.imp fun w h=>⟨h.1,h.2.1,h.2.2.1⟩⟩⟩
  ·subst e2;have:=r2.2 (fun c W=>(a.bj.p2 j f c W).2.1) d.1;rw[this]
  ·rw[p,z] at u;injection u with u;subst u;exact D.1
  ·rw[p,z] at u;injection u with u;subst u;exact⟨D.2.1.cov,D.2.2⟩
def SI.fix (h:SI H G (fun _ _=>False)) (a:Ad H B) (hB:B<=1000000) (hs:s<3):SI (H.fix s) G (fun _ _=>False):=by
 by_cases hl:(H.sh s).ah H.n=[]
 ·rw[qcw hl];exact h
 ·have t:=h.fixT a hB hs hl;have f:=(a.fix hB hs).2.2.2;have a2:((H.fix s).sh s).aa=(H.sh s).aa+1:=by
   rcases f.aa with ⟨_,e⟩|e
   ·exact absurd e hl
   ·exact e
  generalize H.fix s=H' at *;have d:∀ b,Ir H' b↔Ir H b:=fun b=>by unfold Ir;rw[f.m]
  have u:=f.tx;have J:∀ b,(H'.tx b).af=(H.tx b).af:=fun b=>Dp (u b).2.2.1
  have O:∀ b x,Wr H' b x↔Wr H b x:=fun b x=>Wr.congr (u b).2.1
  have W:∀ b x,Cj H' G b x↔Cj H G b x:=fun b x=>Cj.congr (u b).2.1
  have a3:∀ A x,Bc H' A x=Bc H A x:=fun A x=>QT (fun b _=>Tx (u b).1 (u b).2.1)
  have R:∀ k j,k<3->(Lv H' k j↔Lv H k j):=fun k j z=>f.lv k j (by rw[a.c];exact z)
  have a1:∀ k,k≠s->H'.head k=H.head k:=fun k z=>PA f.n (f.sh k z)
  have K:∀ b,Ir H b->(H.tx b).ae s≠Bs (H'.sh s).aa:=fun b y e=>by
   rw[a2] at e;by_cases h2:s<2
   ·have:=h.se b y s (Dy.2 ⟨by omega,by rw[e];simp⟩) _ e;omega
   ·have:=(a.wf.tx b y.1 y.2).sh _ _ e;omega
  have a7:∀ w,Ir H w->BK H w->BK H' w:=fun w hw hd=>by
   obtain⟨d1,k,d2,d3,d4⟩:=hd;have z:=BR d2;refine⟨(u w).2.2.2.2.trans d1,k,by rw[J];exact d2,?_,fun j I e=>?_⟩
   ·rw[(u w).2.2.1];by_cases e:k=s
    ·subst e;exact K w hw
    ·rw[f.sh k e];exact d3
   ·rw[f.lg] at e;exact d4 j ((R k j (by omega)).1 I) e
  refine⟨fun k z=>?_,fun x=>?_,fun k j z I=>?_,fun k j z I c hc a6=>?_,fun k j z I=>by rw[f.lg];exact h.wl k j z ((R k j z).1 I),fun k j z I=>?_,fun b y=>?_,fun b y k z e p=>?_,fun b k y z E p x D=>?_,fun b y U=>?_,fun b c y hc X p=>by rw[(u b).2.2.2.2] at X;rw[(u b).2.2.2.2,(u c).2.2.2.2] at p;exact h.tu b c ((d b).1 y) ((d c).1 hc) X p,fun b y=>by rw[(u b).1];exact h.st b ((d b).1 y),⟨h.en.1,fun b y=>by rw[(u b).1,d];exact h.en.2.1 b y,fun b y E=>by rw[(u b).1] at E;exact h.en.2.2 b ((d b).1 y) E⟩,fun t' w x U hw a0 Y y D a4=>?_,fun v w x y q1 M tv tw=>?_,fun t' U x v hv=>?_,fun k z x o m Z=>?_,fun b k y z E p x m D=>?_,fun b y x m D=>?_⟩
  ·by_cases e:k=s
   ·subst e;exact t.gt
   ·rw[f.sh k e];exact h.gt k z
  ·by_cases e:2=s
   ·subst e;exact t.two rfl x
   ·rw[f.sh 2 e];exact h.t2 x
  ·rw[f.lg];by_cases e:k=s
   ·subst e;exact t.dn j I
   ·rw[a1 k e] at I;rw[f.sh k e];exact h.dn k j z I
  ·rw[f.lg] at hc;obtain⟨q1,M,q3⟩:=h.pw k j z ((R k j (by omega)).1 I) c hc a6;rw[(u _).1,J];exact⟨q1,M,by unfold Bl.of;rw[(u _).2.1];exact q3⟩
  ·rw[f.lg];by_cases e:k=s
   ·subst e;exact t.cv j I
   ·rw[a1 k e] at I;rw[f.sh k e];exact h.cv k j z I
  ·rw[J,(u b).2.1];obtain⟨q1,M⟩:=h.wc b ((d b).1 y);exact⟨fun x D=>q1 x ((W b x).1 D),M⟩
  ·rw[J] at z;rw[(u b).2.2.1] at p;have:=h.se b ((d b).1 y) k z e p;by_cases S:k=s
   ·subst S;rw[a2];omega
   ·rw[f.sh k S];exact this
  ·rw[(u b).1] at E;rw[(u b).2.2.1] at p;by_cases S:k=s
   ·subst S;exact absurd p (K b ((d b).1 y))
   ·rw[f.sh k S] at p ⊢;rw[O];exact h.ho b k ((d b).1 y) z E p x D
  ·rw[(u b).2.2.2.2] at U;rw[(u b).1,J];obtain⟨q1,M⟩:=h.tp b ((d b).1 y) U;exact⟨q1,fun k z j I=>by rw[f.lg];exact M k z j ((R k j (by have:=BR z;omega)).1 I)⟩
  ·rw[(u w).1] at Y;rw[(u t').1] at y;exact a7 w ((d w).1 hw) (h.dm t' w x ((d t').1 U) ((d w).1 hw) a0 Y y ((W t' x).1 D) ((O w x).1 a4))
  ·rw[(u v).2.2.2.2] at tv ⊢;rw[(u w).2.2.2.2] at tw ⊢;exact h.tm v w x y ((O v x).1 q1) ((O w x).1 M) tv tw
  ·rw[(u t').1,a3];obtain⟨q1,M⟩:=h.ri t' ((d t').1 U) x v hv;exact⟨q1,fun a5 A C hE=>by rw[a3];exact M a5 A C hE⟩
  ·by_cases e:k=s
   ·subst e;unfold Wt at Z;rw[t.ws] at Z;cases Z
   ·rw[f.sh k e] at Z ⊢;rw[f.m,(u _).1,(u _).2.2.1];exact h.wt k z x o m Z
  ·rw[(u b).1] at E;rw[(u b).2.2.1] at p;by_cases S:k=s
   ·subst S;exact absurd p (K b ((d b).1 y))
   ·rw[f.sh k S] at p ⊢;rw[t.aj];exact h.ww b k ((d b).1 y) z E p x m D
  ·rw[J];exact h.wn b ((d b).1 y) x m ((t.aj b _).1 D)
def SI.a9 (h:SI H G (fun _ _=>False)) (a:Ad H B) (d:B<=1000000) (hs:s<3):SI (H.a9 s) G (fun _ _=>False):=by
 unfold Hs.a9;split
 ·exact h
 ·exact h.fix a d hs
def SI.b4 (h:SI H G (fun _ _=>False)) (a:Ad H B) (f:B<=999000):SI ([0,1,2].foldl Hs.a9 H) G (fun _ _=>False):=by
 obtain⟨d,_⟩:=a.a9 (by omega) (s:=0) (by omega);obtain⟨e,_⟩:=d.a9 (by omega) (s:=1) (by omega);exact((h.a9 a (by omega) (by omega)).a9 d (by omega) (by omega)).a9 e (by omega) (by omega)
def Pm (H:Hs) (i:Nat):Prop:=(H.tx i).state=1->∀ k∈(H.tx i).af,(H.tx i).ae k=Bs (H.sh k).aa
def OP (H:Hs):Prop:=∀ i,Ir H i->Pm H i
def Pm.abort (h:Pm H i) (b:Nat):Pm (H.abort b) i:=fun hs k d=>by
 obtain⟨_,_,a⟩:=If H b;rw[(a i).1] at hs;split at hs
 ·omega
 ·rw[Dp (a i).2.2.1] at d;rw[(a i).2.2.1,(qd4 H b).ep];exact h hs k d
def Pm.stale (h:Pm H i) (b:Nat):Pm (H.a7 b) i:=by
 unfold Hs.a7;split
 ·exact h.abort b
 ·exact h
def Qx (H:Hs) (i:Nat):Pm (H.a7 i) i:=by
 unfold Hs.a7;split
 ·intro hs;rw[((If H i).2.2 i).1,if_pos rfl] at hs;omega
 ·rename_i a;exact fun hs k d=>V5 (fun e=>a ⟨hs,k,d,e⟩)
def Fs:∀ (l:List Nat) (H:Hs),(∀ i,Pm H i->Pm (l.foldl Hs.a7 H) i)/\∀ i∈l,Pm (l.foldl Hs.a7 H) i
 | [],H=>⟨fun _ h=>h,fun _ h=>(nomatch h)⟩
 | b::l,H=>by
  have a:=Fs l (H.a7 b);refine⟨fun i h=>a.1 i (h.stale b),fun i d=>?_⟩;rcases List.mem_cons.1 d with rfl|d
  ·exact a.1 i (Qx H i)
  ·exact a.2 i d
def IQ:∀ (l:List Nat) (H:Hs),(l.foldl Hs.a7 H).m=H.m
 | [],H=>rfl
 | b::l,H=>by
  have a:=IQ l (H.a7 b);refine a.trans ?_;unfold Hs.a7;split
  ·exact(If H b).1.m
  ·rfl
def OP.aY (H:Hs):OP H.aY:=fun i a=>by
 refine(Fs (Wh 1 H.m) H).2 i (List.mem_range'_1.2 ?_);have:=a.1;have d:i<=((Wh 1 H.m).foldl Hs.a7 H).m:=a.2;rw[IQ] at d;omega
def OP.step (h:OP H) (s:Bp H H'):OP H':=fun i J=>by
 have M:=s.sm.m;have I:Ir H i:=⟨J.1,by rw[<- M];exact J.2⟩
 have t:=h i I;have y:=s.up.ep;have a:(H'.tx i).state=(H.tx i).state->(H'.tx i).ae=(H.tx i).ae->Pm H' i:=fun O D hs k f=>by
  rw[Dp D] at f;rw[D,y];exact t (O▸hs) k f
 have p:∀ q j c b,H'=(H.add q j c b).2->Pm H' i:=fun q j c b e=>by
  subst e;exact a ((C0 H q j c b).2.2.2.2 i).1 ((C0 H q j c b).2.2.2.2 i).2.2.1
 cases s with
 | abort z v hs=>exact t.abort _
 | @tell d k kind z v f hs=>exact a ((DF H d kind k).2.2.2.2 i).1 ((DF H d kind k).2.2.2.2 i).2.2.1
 | prep=>exact p _ _ _ _ rfl
 | @place d k at_=>
  refine a (q24 H d k at_ i) ?_;show(Af H.tx d _ i).ae=_;by_cases e:i=d
  ·subst e;rw[An]
  ·rw[As e]
 | @timed d=>
  refine a (U4 H d i) ?_;unfold Hs.timed;split
  ·show(Af H.tx d _ i).ae=_;by_cases e:i=d
   ·subst e;rw[An]
   ·rw[As e]
  ·rfl
 | decide=>exact p _ _ _ _ rfl
 | @commit d=>
  intro hs k f;have hs:(Af H.tx d _ i).state=1:=hs;by_cases e:i=d
  ·subst e;rw[An] at hs;have hs:(3:Int)=1:=hs;omega
  ·have f:k∈(Af H.tx d _ i).af:=f;rw[As e] at hs f;show(Af H.tx d _ i).ae k=_;rw[As e];exact t hs k f
 | @came d q z v R E S U=>
  intro hs k f;have hs:(Af H.tx d _ i).state=1:=hs;have f:k∈(Af H.tx d _ i).af:=f;show(Af H.tx d _ i).ae k=Bs (H.sh k).aa;by_cases e:i=d
  ·subst e;rw[An] at hs f ⊢;show AO (H.tx i).ae q (H.sh q).aa k=_;unfold AO;by_cases D:k=q
   ·subst D;rw[if_pos rfl]
   ·rw[if_neg (by omega)];refine t E k (Dy.2 ⟨(Dy.1 f).1,?_⟩);have:=(Dy.1 f).2;have this:AO (H.tx i).ae q (H.sh q).aa k≠B0:=this;unfold AO at this;rw[if_neg (by omega)] at this;exact this
  ·rw[As e] at hs f ⊢;exact t hs k f
 | @got d x mode=>exact a rfl rfl
 | @wait d x mode=>
  refine a ?_ ?_
  ·show(Af H.tx d _ i).state=_;by_cases e:i=d
   ·subst e;rw[An];rfl
   ·rw[As e]
  ·show(Af H.tx d _ i).ae=_;by_cases e:i=d
   ·subst e;rw[An];rfl
   ·rw[As e]
 | tick=>exact a rfl rfl
 | @arrive k m f=>
  cases A:Hs.node { H with net:=takeS H.net k } m.a4 with
  | none=>exact a (by rw[Ig A]) (by rw[Ig A])
  | some r=>
   obtain⟨s,j⟩:=r;rw[Ih A];have e:=Bz.take ((({ H with net:=takeS H.net k } : Hs).aq s j (((H.sh s).nd j).step m).1).send (((H.sh s).nd j).step m).2) s;intro hs k' u;have ex:=e.tx i;rw[ex.1] at hs;rw[Dp ex.2.2.1] at u;rw[ex.2.2.1];have:=t hs k' u;have K:=y k';rw[Ih A] at K;show _=Bs _;rw[show((((({ H with net:=takeS H.net k } : Hs).aq s j (((H.sh s).nd j).step m).1).send (((H.sh s).nd j).step m).2).take s).sh k').aa=(H.sh k').aa from K];exact this
def OP.star (s:Ag H H'):OP H->OP H':=by
 induction s with
 | refl=>exact id
 | step s _ a=>exact fun h=>a (h.step s)
def Ad.dk (a:Ad H B) (t:k<2) (u:Lv H k j) {e:Int} (m:e=3\/e=4) (f:Aj (lg H k j) e i):(H.tx i).state=e:=by
 obtain⟨c,f,y,v⟩:=f;obtain⟨p,h⟩:=List.mem_iff_getElem?.1 f;obtain⟨_,d⟩:=a.bj.pl k t j u p c h;have x:Qp H c.tx=(H.tx i).state:=by rw[v];rfl
 rcases d with d|d|d
 ·omega
 ·have:=d.2.1;omega
 ·have:=d.2;omega
def LR (a:Ad H B) (m:k<3) (t:H.head k=Bs j) (e:Lv H k q):lg H k q <+: lg H k j:=by
 obtain⟨hl,f⟩:=Cu t;have d:k<H.c:=by rw[a.c];exact m
 obtain⟨L,p,at_⟩:=a.ch.at_ d hl;rw[at_.head] at f;have h:p=0:=by simpa using f
 subst h;exact a.ch.pre k d j q (at_.first e) hl e
def SI.cM (h:SI H G (fun _ _=>False)) {w:Nat} (p:k<2) (t:Lv H k j) (m:Aj (lg H k j) 2 w):∃ c∈lg H k j,c.ai=2/\c.tx=(w:Int)/\c.ad=(H.tx w).of k:=by
 obtain⟨c,d,f,e⟩:=m;obtain⟨_,_,a⟩:=h.pw k j p t c d f;rw[e,show((w:Int).toNat)=w by omega] at a;exact⟨c,d,f,e,a⟩
def G7 {t:Bl} : p∈t.of k↔p∈t.ad/\Aa (sx p.key)=k:=by
 unfold Bl.of;rw[YY];simp
def SI.touch (h:SI H G (fun _ _=>False)) (a:Ad H B) (I:H.head (Aa x)=Bs j) (O:Hd (H.sh (Aa x)).tab x i 1) {w:Nat} (z:Ir H w) (M:i≠w) (hs:(H.tx w).state=2) (y:Wr H w x):BK H w:=by
 have m:=E4 x;obtain⟨hl,_⟩:=Cu I;have t:∀ (q:Nat),Hd (H.sh (Aa x)).tab x q 2->q≠w:=fun q D e=>by
  subst e;have:=Hd.d5 (h.gt _ (by omega)) D O;omega
 obtain⟨p,E,d⟩:=y;by_cases f:Aj (lg H (Aa x) j) 2 w
 ·exfalso;obtain⟨c,v,S,J,R⟩:=h.cM m hl f;have K:Ed (lg H (Aa x) j) c.tx:=by
   rw[J];exact⟨f,fun e=>by have:=a.dk m hl (.inl rfl) e;omega,fun e=>by have:=a.dk m hl (.inr rfl) e;omega⟩
  have:=(h.cv _ j m I).1 c v S K (fun e=>e) p (by rw[R];exact G7.2 ⟨E,by rw[d]⟩);rw[d,J] at this;exact t w this rfl
 ·have A:(H.tx w).ae (Aa x)≠Bs (H.sh (Aa x)).aa:=fun e=>t w ((h.ho w _ z m (.inr hs) e x rfl).1 ⟨p,E,d⟩) rfl
  have u:=(h.wc w z).1 x (.inl ⟨p,E,d⟩);refine⟨V5 (fun e=>f ((h.tp w z e).2 _ u j hl)),Aa x,u,A,fun q D v=>f (v.mono (fun c v=>(LR a (by omega) I D).subset v))⟩
def fnd (v:Option Sx):Sx×Bool:=match v with
 | none=>([],Jx)
 | some v=>(v,VJ)
def Cw (H:Hs) (x:Sx) (W:Nat):Prop:=(H.tx W).state=3/\Wr H W x
def R1 (h:¬Cw H x i):Ik H x i=B0:=by
 unfold Ik;split
 ·rename_i e;exact qbx.2 (fun p a d=>h ⟨e,p,a,d⟩)
 ·rfl
def M3 (H:Hs) (x:Sx):∀ (n:Nat) (E:List Nat),E.length=n->((∀ W∈E,¬Cw H x W)/\Bc H E x=B0)\/∃ A W C,E=A++W::C/\Cw H x W/\(∀ V∈C,¬Cw H x V)/\Bc H E x=(UG (H.tx W).ad x).getD B0
 | 0,E,d=>by
  have:E=[]:=List.eq_nil_of_length_eq_zero d;subst this;exact .inl ⟨fun _ h=>(nomatch h),rfl⟩
 | n+1,E,d=>by
  rcases List.eq_nil_or_concat E with rfl|⟨t,W,rfl⟩
  ·simp at d
  ·rw[List.concat_eq_append] at d ⊢;have u:t.length=n:=by simpa using d
   by_cases a:Cw H x W
   ·refine .inr ⟨t,W,[],rfl,a,fun _ h=>(nomatch h),?_⟩;rw[q91];unfold Ik;rw[if_pos a.1];cases e:UG (H.tx W).ad x with
    | none=>
     obtain⟨p,I,K⟩:=a.2;exact absurd K (qbx.1 e p I)
    | some v=>rfl
   ·have D:Bc H (t++[W]) x=Bc H t x:=by rw[q91,R1 a];rfl
    rcases M3 H x n t u with ⟨z,y⟩|⟨A,V,C,rfl,z,y,J⟩
    ·refine .inl ⟨fun V f=>?_,by rw[D];exact y⟩;rcases List.mem_append.1 f with f|f
     ·exact z V f
     ·rw[List.mem_singleton.1 f];exact a
    ·refine .inr ⟨A,V,C++[W],by simp,z,fun U m=>?_,by rw[D];exact J⟩;rcases List.mem_append.1 m with m|m
     ·exact y U m
     ·rw[List.mem_singleton.1 m];exact a
def wrV_of {a:List Pr} (h:(a.map (·.key)).Nodup) (d:p∈a):UG a (sx p.key)=Bs (if p.gone then B0 else Bs (sx p.val)):=by
 unfold UG;have:a.find? (fun q=>sx q.key == sx p.key)=Bs p:=by
  induction a with
  | nil=>cases d
  | cons q a m=>
   rw[WH,Yz] at h;rcases List.mem_cons.1 d with rfl|d
   ·simp
   ·have f:(sx q.key == sx p.key)=Jx:=by
     rw[beq_eq_false_iff_ne];intro e;exact h.1 (List.mem_map.2 ⟨p,d,(qb3 e).symm⟩)
    rw[List.find?_cons,f];exact m h.2 d
 rw[this];rfl
def SI.sv (h:SI H G (fun _ _=>False)) (a:Ad H B) (hi:Ir H i) (ad:(H.tx i).state=1) (hh:H.head (Aa x)=Bs j) (hd:Hd (H.sh (Aa x)).tab x i 1) :
  BP (Cf ((H.sh (Aa x)).sto x) 1099511627776)=fnd (Bc H G.E x):=by
 have E:=E4 x;obtain⟨hl,_⟩:=Cu hh;obtain⟨ct,cs⟩:=h.cv _ j E hh;have hA:∀ W∈G.E,Cw H x W->∃ v∈(H.sh (Aa x)).sto x,v.t=(H.tx W).ag:=fun W hW J=>by
  obtain⟨p,hp,d⟩:=J.2;have m:=(h.en.2.1 W hW).1;have ht:(H.tx W).ag≠0:=by have:=a.bj.ct W m.1 m.2 J.1;omega
  have a8:=(h.wc W m).1 x (.inl J.2);have Y:=(h.tp W m ht).2 _ a8 j hl;have a9:Aj (lg H (Aa x) j) 3 W:=V5 (fun a7=>by
   obtain⟨c,aa,e1,e2,e3⟩:=h.cM E hl Y;have ho:Ed (lg H (Aa x) j) c.tx:=by
    rw[e2];exact⟨Y,a7,fun e=>by have:=a.dk E hl (.inr rfl) e;have:=J.1;omega⟩
   have:=ct c aa e1 ho (fun e=>e) p (by rw[e3];exact G7.2 ⟨hp,by rw[d]⟩);rw[d,e2] at this;have e4:=Hd.d5 (h.gt _ (by omega)) this hd;have e5:W=i:=by omega
   have:=J.1;rw[e5] at this;omega)
  obtain⟨cc,Z,f1,f2⟩:=a9;obtain⟨q,U⟩:=List.mem_iff_getElem?.1 Z;obtain⟨_,u⟩:=a.bj.pl _ E j hl q cc U;rcases u with u|⟨_,_,g3,_,g5⟩|u
  ·omega
  ·obtain⟨w,M,w1,w2⟩:=g5;have a5:=Wy M;obtain⟨_,_,K⟩:=h.pw _ j E hl w a5 w1;rw[w2,f2,show((W:Int).toNat)=W by omega] at K;obtain⟨v,hv,e⟩:=cs.all q cc U f1 w M w1 w2 p (by rw[K];exact G7.2 ⟨hp,by rw[d]⟩);rw[d] at hv;refine⟨v,hv,e.trans (g3.trans ?_)⟩;rw[f2];rfl
  ·omega
 have hB:∀ v∈(H.sh (Aa x)).sto x,∃ W∈G.E,Cw H x W/\∃ p∈(H.tx W).ad,sx p.key=x/\v=vxP (H.tx W).ag p:=fun v hv=>by
  obtain⟨c,w,p,c1,c2,w1,w2,w3,p1,p2,p3⟩:=cs.src x v hv;obtain⟨q,U⟩:=List.mem_iff_getElem?.1 c1;obtain⟨hr,u⟩:=a.bj.pl _ E j hl q c U;rcases u with u|⟨_,g2,g3,_,_⟩|u
  ·omega
  ·obtain⟨_,_,K⟩:=h.pw _ j E hl w w1 w2;rw[w3] at K;rw[K] at p1;have X:=(G7.1 p1).1;have m:Ir H c.tx.toNat:=⟨by omega,by omega⟩
   refine⟨c.tx.toNat,h.en.2.2 _ m (.inr g2),⟨g2,p,X,p2⟩,p,X,p2,?_⟩;rw[p3,g3];rfl
  ·omega
 have z:=cs.sorted x;rcases M3 H x _ G.E rfl with ⟨h1,h2⟩|⟨A,W,C,hE,h1,h2,u⟩
 ·have hg:Cf ((H.sh (Aa x)).sto x) 1099511627776=B0:=(O4 z).2 (fun y hy=>by
   obtain⟨W,hW,J,_⟩:=hB y hy;exact absurd J (h1 W hW))
  rw[hg,h2];rfl
 ·have a1:W∈G.E:=by rw[hE];simp
  have f:=(h.en.2.1 W a1).1;have S:(H.tx W).ag≠0:=by have:=a.bj.ct W f.1 f.2 h1.1;omega
  obtain⟨v0,R,D⟩:=hA W a1 h1;obtain⟨W',ab,ag,p,hp,d,O⟩:=hB v0 R;have a0:=(h.en.2.1 W' ab).1;have e:W=W':=h.tu W W' f a0 S (by rw[<- D,O];rfl);subst e;have af:=a.wf.cR W f.1 f.2;have ah:=a.wf.bk;have hg:Cf ((H.sh (Aa x)).sto x) 1099511627776=Bs v0:=(Ga z).2 ⟨R,by rw[D];omega,fun y hy _=>by
   obtain⟨V,t,I,q,U,ae,a3⟩:=hB y hy;have a4:y.t=(H.tx V).ag:=by rw[a3];rfl
   rw[a4,D];by_cases e:V=W
   ·rw[e];exact WD _
   ·have a2:=(h.en.2.1 V t).1;have a6:(H.tx V).ag≠0:=by have:=a.bj.ct V a2.1 a2.2 I.1;omega
    have ac:V∈A:=by
     rw[hE] at t;rcases List.mem_append.1 t with t|t
     ·exact t
     ·rcases List.mem_cons.1 t with t|t
      ·exact absurd t e
      ·exact absurd I (h2 V t)
    have:=h.tm V W x ⟨A,C,hE,ac⟩ I.2 h1.2 a6 S;omega⟩
  rw[hg,u];have M:=wrV_of (h.wc W f).2 hp;rw[d] at M;rw[M,O];unfold vxP BP fnd;cases p.gone <;> simp
def Mv (H:Hs) (b k:Nat):(H.abort b).head k=H.head k:=by
 rw[Ia];have e:∀ (ks:List Nat) (H:Hs),(telld H b 4 ks).head k=H.head k:=fun ks=>by
  induction ks with
  | nil=>exact fun _=>rfl
  | cons q ks d=>
   intro H;refine(d (H.ax b 4 q)).trans ?_;cases a:H.head q with
   | none=>rw[I1 a]
   | some j=>
    rw[Ie a];split
    ·exact UV H q j _ Jx k
    ·rfl
 refine(e _ _).trans ?_;rw[q9j b _ _ (q2o _)];exact PA rfl rfl
inductive DC (b:Int):Tb->Tb->Prop where
 | refl (T:Tb):DC b T T
 | step {T T':Tb} (h:DC b (Bj T b) T'):DC b T T'
def DC.trans {b:Int} {T a:Tb} (h:DC b T T') (k:DC b T' a):DC b T a:=by
 induction h with
 | refl=>exact k
 | step _ d=>exact .step (d k)
def qd1 (H:Hs) (c:Cm) (b:Bool) (a:k≠q):((H.add q j c b).2.sh k).tab=(H.sh k).tab:=by rw[qbu H q j c b a]
def DC.wd {b:Int} {T:Tb} (h:DC b T T'):GT T->∀ {x:Sx} {o m:Int},o≠b->(Wt T x o m\/Hd T x o m)->(Wt T' x o m\/Hd T' x o m):=by
 induction h with
 | refl=>exact fun _ _ _ _ _ h=>h
 | @step T T' h e=>
  intro g x o m a d;refine e (g.rel b) a ?_;rcases d with d|d
  ·rcases q70 g d a with q|q
   ·exact .inl q.1
   ·exact .inr q.2.1
  ·exact .inr (d.rel g a)
def NV {ex:Nat->Int->Prop} (h:SI H G ex) (m:Wf H) (d:CQ H) (k:Nat) (p:q<2):DC (i:Int) (H.sh k).tab ((H.ax i 4 q).sh k).tab:=by
 cases a:H.head q with
 | none=>rw[I1 a];exact .refl _
 | some j=>
  rw[Ie a];split
  ·by_cases e:k=q
   ·subst e;have f:=q54 (b:=Jx) (c:=tellC H i 4) a (h.room d m.bz (by omega) a _ _) (h.dn k j (by omega) a);rw[f.tab,QM (.inr rfl)];exact .step (.refl _)
   ·rw[qd1 H _ _ e];exact .refl _
  ·exact .refl _
def Fg (a:1<=i) (k:Nat):∀ (ks:List Nat) {H:Hs} {ex:Nat->Int->Prop},SI H G ex->Wf H->CQ H->H.c=3->i<=H.m->(∀ q∈ks,q<2)->(H.tx i).state=4->DC (i:Int) (H.sh k).tab ((telld H i 4 ks).sh k).tab
 | [],_,_,_,_,_,_,_,_,_=>.refl _
 | q::ks,H,ex,h,wf,lgi,hc,hi,hk,hs=>by
  have e:=DF H i 4 q;have d:=hk q VH;exact(NV h wf lgi k d).trans (Fg a k ks (h.ax wf lgi hc a hi d (.inr ⟨rfl,hs⟩)) (wf.ax a hi (by omega) _) (lgi.ax a hi d (.inr ⟨rfl,hs⟩)) (e.2.1.trans hc) (by rw[e.2.2.1];exact hi) (fun x f=>hk x (VI _ f)) (by rw[(e.2.2.2.2 i).1];exact hs))
def SI.cX (h:SI H G (fun _ _=>False)) (D:Wf H) (p:CQ H) (M:H.c=3) (y:1<=i) (v:i<=H.m) (hs:(H.tx i).state=1\/((H.tx i).state=2/\(H.tx i).ag=0)) (k:Nat):DC (i:Int) (H.sh k).tab ((H.abort i).sh k).tab:=by
 rw[Ia];have O:=h.bf y v hs;have d:=FI i (H.tx i).af (H.al i);have m:Wf (reld (H.al i) i (H.tx i).af):=(D.al y v).bK i _ (fun k K=>by show k<H.c;have:=BR K;omega);have t:((reld (H.al i) i (H.tx i).af).tx i).state=4:=by
  rw[(d.2.2.2.2 i).1];show(Af H.tx i _ i).state=4;rw[An]
 have x:((reld (H.al i) i (H.tx i).af).tx i).af=(H.tx i).af:=Dp (by rw[(d.2.2.2.2 i).2.2.1];show(Af H.tx i _ i).ae=_;rw[An]);have f:CQ (reld (H.al i) i (H.tx i).af):=by
  have t1:BF H (H.al i):=by
   refine⟨K0 _,fun a _ _ e=>?_,fun a _ _ e=>?_,fun a _ _ e=>?_⟩
   ·show(Af H.tx i _ a).state=_;by_cases d:a=i
    ·subst d;rw[e] at hs;rcases hs with h|⟨h,_⟩ <;> cases h
    ·rw[As d];exact e
   ·show(Af H.tx i _ a).state=_;by_cases d:a=i
    ·subst d;rw[An]
    ·rw[As d];exact e
   ·show(Af H.tx i _ a).ag=_;by_cases d:a=i
    ·subst d;rw[An]
    ·rw[As d]
  have E:BF (H.al i) (reld (H.al i) i (H.tx i).af):=BF.of d.2.2.1 (fun a=>⟨(d.2.2.2.2 a).1,(d.2.2.2.2 a).2.2.2.2⟩);have u:AP H (reld (H.al i) i (H.tx i).af):=fun a R z e=>by
   rw[(d.2.2.2.2 a).1] at e;have e:(Af H.tx i _ a).state=3:=e;refine⟨by rw[d.2.2.1] at z;exact z,?_⟩;by_cases A:a=i
   ·subst A;rw[An] at e;cases e
   ·rw[As A] at e;exact e
  exact p.sub (t1.trans E) u (BJ.same ((AK.au H i _).trans (Kn i _ _)))
 have I:DC (i:Int) (H.sh k).tab ((reld (H.al i) i (H.tx i).af).sh k).tab:=by
  rw[q7r i _ _ (q2o _)];split
  ·exact .step (.refl _)
  ·exact .refl _
 refine I.trans ?_;show DC _ _ ((Go.Proofs.YtccahlhdifadfaaGreatDoor.telld _ i 4 _).sh k).tab;rw[x];exact Fg y k _ O m f (d.1.trans M) (by rw[d.2.2.1];exact v) (fun q J=>BR J) t
def q8y {x:Sx} {m:Int} (k:Nat) (y:k<3):∀ (l:List Int) {H:Hs},SI H G (fun _ _=>False)->Ad H B->H.m<=40->(∀ o∈l,o≠(i:Int))->(Wt (H.sh k).tab x i m\/Hd (H.sh k).tab x i m)->
  (Wt ((woundd H l).sh k).tab x i m\/Hd ((woundd H l).sh k).tab x i m)/\((woundd H l).tx i).state=(H.tx i).state/\((woundd H l).tx i).ae=(H.tx i).ae/\((woundd H l).tx i).ad=(H.tx i).ad/\((woundd H l).sh k).aa=(H.sh k).aa/\(woundd H l).head k=H.head k
 | [],_,_,_,_,_,t=>⟨t,rfl,rfl,rfl,rfl,rfl⟩
 | o::l,H,h,a,h40,hl,t=>by
  have d:∀ H2:Hs,H2=H.aF o->(SI H2 G (fun _ _=>False)/\Ad H2 B/\H2.m=H.m)/\((Wt (H2.sh k).tab x i m\/Hd (H2.sh k).tab x i m)/\(H2.tx i).state=(H.tx i).state/\(H2.tx i).ae=(H.tx i).ae/\(H2.tx i).ad=(H.tx i).ad/\(H2.sh k).aa=(H.sh k).aa/\H2.head k=H.head k):=fun H2 e=>by
   subst e;have v:=q5s a.wf (H:=H) o;have p:=SI.star v h a h40;refine⟨⟨p.1,p.2,v.sm.m⟩,?_⟩;unfold Hs.aF;split
   ·rename_i A;have f:=(If H o.toNat).2.2 i;have u:i≠o.toNat:=fun e=>hl o VH (by omega)
    refine⟨(h.cX a.wf a.bj a.c (by omega) (by omega) (.inl A.2.2) k).wd (h.gt k y) (by have:=hl o VH;omega) t,by rw[f.1,if_neg u],f.2.2.1,f.2.1,(qd4 H _).ep k,Mv H _ k⟩
   ·exact⟨t,rfl,rfl,rfl,rfl,rfl⟩
  obtain⟨⟨I,E,D⟩,S,R,O,M,K,J⟩:=d _ rfl;obtain⟨e1,Z,Y,X,W,U⟩:=q8y k y l I E (by rw[D];exact h40) (fun q z=>hl q (VI _ z)) S;exact⟨e1,Z.trans R,Y.trans O,X.trans M,W.trans K,U.trans J⟩
def Jr (H:Hs) (i s:Nat) (x:Sx) (mode:Int) (k:Nat):(H.aU i s x mode).head k=H.head k:=by
 have hs:∀ q,((H.aU i s x mode).sh q).ao=(H.sh q).ao/\((H.aU i s x mode).sh q).nd=(H.sh q).nd:=fun q=>by
  show(Af H.sh s { H.sh s with tab:=Am (H.sh s).tab i x mode } q).ao=_/\(Af H.sh s { H.sh s with tab:=Am (H.sh s).tab i x mode } q).nd=_;by_cases e:q=s
  ·subst e;rw[An];exact⟨rfl,rfl⟩
  ·rw[As e];exact⟨rfl,rfl⟩
 exact Oh rfl (hs k).1 (fun j=>by rw[(hs k).2];exact⟨rfl,rfl⟩)
structure LkOk (H H':Hs) (id:Int) (x:Sx) (mode:Int):Prop where
 ix:∃ i:Nat,id=i/\Ir H i/\(H'.tx i).state=1/\(H'.tx i).ae (Aa x)=Bs (H'.sh (Aa x)).aa/\H'.head (Aa x)≠B0/\Hd (H'.sh (Aa x)).tab x i mode/\(H'.tx i).ad=(H.tx i).ad
def qar {mode o:Int} (a:o∈D8 h tx mode):tx<o:=by
 unfold D8 at a;have:=(List.mem_filter.1 a).2;simp only[decide_eq_true_eq] at this;exact this.1
def SI.cO (h:SI H G (fun _ _=>False)) (a:Ad H B) (I:H.m<=40) {id:Int} {mode:Int} (J:x∈names) (hm:Br mode) (d:(H.lock id x mode).1=0):LkOk H (H.lock id x mode).2 id x mode:=by
 have S:=E4 x;by_cases hr:id<1\/H.m<id
 ·rw[Ty hr] at d;cases d
 ·obtain⟨i,rfl⟩:∃ i:Nat,id=i:=⟨id.toNat,by omega⟩
  have p:1<=i:=by omega
  have m:i<=H.m:=by omega
  by_cases hs:(H.tx i).state=1
  ·by_cases A:H.head (Aa x)=B0
   ·rw[q4i p m hs (Ea J) A] at d;cases d
   ·by_cases t:Ps H i (Aa x)
    ·rw[q3s p m hs (Ea J) A t] at d;cases d
    ·have a3:(H.tx i).ae (Aa x)=B0\/(H.tx i).ae (Aa x)=Bs (H.sh (Aa x)).aa:=by
      cases e:(H.tx i).ae (Aa x) with
      | none=>exact .inl rfl
      | some v=>exact .inr (by rw[V5 (fun h=>t ⟨v,e,h⟩)])
     by_cases E:B6 (H.tx i).aj x=VJ
     ·rw[q3q p m hs (Ea J) A t E] at d;cases d
     ·have E:B6 (H.tx i).aj x=Jx:=by simpa using E
      have U:=Bp.came p m S hs A a3;have a7:=h.step a I U;have X:=(a.step U).1;have c1:((H.came i (Aa x)).tx i).state=1:=by show(Af H.tx i _ i).state=1;rw[An];exact hs
      have c2:((H.came i (Aa x)).tx i).ae (Aa x)=Bs (H.sh (Aa x)).aa:=by
       show(Af H.tx i _ i).ae _=_;rw[An];show AO _ _ _ _=_;unfold AO;rw[if_pos rfl]
      have c3:((H.came i (Aa x)).tx i).ad=(H.tx i).ad:=by show(Af H.tx i _ i).ad=_;rw[An]
      have c4:B6 ((H.came i (Aa x)).tx i).aj x=Jx:=by show B6 (Af H.tx i _ i).aj x=Jx;rw[An];exact E
      have c5:(H.came i (Aa x)).head (Aa x)=H.head (Aa x):=rfl;have u:(H.came i (Aa x)).m=H.m:=rfl;rw[q6k p m hs (Ea J) A t E] at d ⊢;generalize hK:H.came i (Aa x)=K at *;have ce:(K.sh (Aa x)).aa=(H.sh (Aa x)).aa:=by rw[<- hK];rfl
      by_cases y:Ch (Ac (K.sh (Aa x)).tab x).ws i=VJ
      ·rw[q2q y] at d;cases d
      ·have y:Ch (Ac (K.sh (Aa x)).tab x).ws i=Jx:=by simpa using y
       by_cases D:Ai (Ac (K.sh (Aa x)).tab x).h i mode (Ac (K.sh (Aa x)).tab x).ws=VJ
       ·rw[q36 y D];refine⟨i,rfl,⟨p,m⟩,c1,?_,?_,?_,c3⟩
        ·show(K.tx i).ae _=Bs ((K.ar _ _).sh _).aa;rw[Cl,c2,ce]
        ·show(K.aU i (Aa x) x mode).head _≠B0;rw[Jr,c5];exact A
        ·show Hd ((K.ar _ _).sh _).tab _ _ _;rw[Cl];exact M1 y D
       ·have D:Ai (Ac (K.sh (Aa x)).tab x).h i mode (Ac (K.sh (Aa x)).tab x).ws=Jx:=by simpa using D
        by_cases h4:(Ac (K.sh (Aa x)).tab x).ws.length=50
        ·rw[q37 y D h4] at d;cases d
        ·rw[q2c y D h4] at d ⊢;have R:=Bp.wait (H:=K) p (by rw[u];exact m) c1 J hm (by rw[c5];exact A) (by rw[c2,ce]) c4 y D;have W:=a7.step X (by rw[u];exact I) R;have f:=(X.step R).1;generalize Z:(K.aU i (Aa x) x mode).aM i x mode=L at *;have Y:(L.tx i).state=1/\(L.tx i).ae=(K.tx i).ae/\(L.tx i).ad=(K.tx i).ad:=by
          rw[<- Z];show(Af K.tx i _ i).state=1/\(Af K.tx i _ i).ae=_/\(Af K.tx i _ i).ad=_;rw[An];exact⟨c1,rfl,rfl⟩
         have l2:(L.sh (Aa x)).tab=Am (K.sh (Aa x)).tab i x mode/\(L.sh (Aa x)).aa=(K.sh (Aa x)).aa:=by
          rw[<- Z];show((K.ar _ _).sh _).tab=_/\((K.ar _ _).sh _).aa=_;rw[Cl];exact⟨rfl,rfl⟩
         have l3:L.head (Aa x)=K.head (Aa x):=by
          rw[<- Z];exact Jr K i _ x mode _
         have l4:L.m=K.m:=by rw[<- Z];rfl
         have a0:Wt (L.sh (Aa x)).tab x i mode:=by rw[l2.1];exact FZ y D h4
         have z:L.m<=40:=by rw[l4,u];exact I
         have a1:∀ o∈D8 (Ac (K.sh (Aa x)).tab x).h i mode,o≠(i:Int):=fun o ho=>by have:=qar ho;omega
         obtain⟨e1,e2,e3,e4,e5,e6⟩:=q8y (i:=i) (Aa x) (by omega) _ W f z a1 (.inl a0);have a6:=(SI.star (q4p (D8 (Ac (K.sh (Aa x)).tab x).h i mode) f.wf f.c) W f z).1;have a5:=(q4p (D8 (Ac (K.sh (Aa x)).tab x).h i mode) f.wf f.c).sm.m;have d:(if B6 ((woundd L (D8 (Ac (K.sh (Aa x)).tab x).h i mode)).tx i).aj x=VJ then(11:Int) else 0)=0:=d;show LkOk H (woundd L (D8 (Ac (K.sh (Aa x)).tab x).h i mode)) i x mode;generalize woundd L (D8 (Ac (K.sh (Aa x)).tab x).h i mode)=M at *;have a2:B6 (M.tx i).aj x=Jx:=by
          cases e:B6 (M.tx i).aj x with
          | false=>rfl
          | true=>rw[e] at d;simp at d
         have O:(M.tx i).ae (Aa x)=Bs (M.sh (Aa x)).aa:=by rw[e3,Y.2.1,c2,e5,l2.2,ce]
         have a4:¬Wt (M.sh (Aa x)).tab x i mode:=fun E=>by
          have:=(a6.ww i (Aa x) ⟨p,by rw[a5,l4,u];exact m⟩ S (e2.trans Y.1) O x mode rfl).2 E;have:B6 (M.tx i).aj x=VJ:=qau.2 (List.mem_map.2 ⟨_,this,rfl⟩);rw[a2] at this;cases this
         exact⟨i,rfl,⟨p,m⟩,e2.trans Y.1,O,by rw[e6,l3,c5];exact A,e1.resolve_left a4,e4.trans (Y.2.2.trans c3)⟩
  ·rw[q3r p m hs] at d;cases d
end
section
variable {H H':Hs} {G:Gh} {B:Int} {i:Nat}
def SI.net (h:SI H G (fun _ _=>False)) (n:AW):SI { H with net:=n } G (fun _ _=>False):=
 h.same ⟨rfl,fun _ _ _ e=>e,fun _ _ _ e=>e,fun _ _ _ _=>VQ _,fun _ j _ e=>⟨j,e,VQ _⟩,fun _ _ _ _=>rfl,fun _ _=>⟨rfl,rfl,rfl,rfl⟩,fun _=>⟨rfl,rfl,rfl,rfl,rfl⟩⟩
def OP.net (h:OP H) (n:AW):OP { H with net:=n }:=fun i a=>h i a
def Ad.txLog (a:Ad H B) (e:k<2) (f:Lv H k j) (h:c∈lg H k j):1<=c.tx/\c.tx<=H.m:=by
 obtain⟨p,d,rfl⟩:=List.getElem_of_mem h;exact(a.bj.pl k e j f p _ (L1 d)).1
def UY (H:Hs) (h:i≠H.m+1):H.begin.tx i=H.tx i:=As h _
def q41 (H:Hs):H.begin.tx (H.m+1)=DJ:=An _ _ _
def SI.begin (h:SI H G (fun _ _=>False)) (a:Ad H B) (hr:G.rd (H.m+1)=[]):SI H.begin G (fun _ _=>False):=by
 have K:=q41 H;have z:=fun i=>UY H (i:=i)
 have hw:∀ x,¬Wr H.begin (H.m+1) x:=fun x ⟨p,hp,_⟩=>by rw[K] at hp;cases hp
 have ht:∀ x,¬Cj H.begin G (H.m+1) x:=fun x e=>by
  rcases e with e|⟨v,e⟩
  ·exact hw x e
  ·rw[hr] at e;cases e
 have M:∀ i x,i≠H.m+1->(Wr H.begin i x↔Wr H i x):=fun i x e=>Wr.congr (by rw[z i e])
 have X:∀ i x,i≠H.m+1->(Cj H.begin G i x↔Cj H G i x):=fun i x e=>Cj.congr (by rw[z i e])
 have y:∀ i,Ir H.begin i->i≠H.m+1->Ir H i:=fun i f e=>⟨f.1,by have:i<=H.m+1:=f.2;omega⟩
 have W:∀ i,Ir H i->Ir H.begin i/\i≠H.m+1:=fun i f=>⟨⟨f.1,by have:=f.2;show i<=H.m+1;omega⟩,by have:=f.2;omega⟩
 have hE:∀ i∈G.E,i≠H.m+1:=fun i f=>(W i (h.en.2.1 i f).1).2
 have Y:∀ A x,(∀ i∈A,i∈G.E)->Bc H.begin A x=Bc H A x:=fun A x hA=>QT (fun i f=>Tx (by rw[z i (hE i (hA i f))]) (by rw[z i (hE i (hA i f))]))
 have a3:∀ i,i≠H.m+1->BK H i->BK H.begin i:=fun i e hd=>hd.mono (by rw[z i e]) (by rw[z i e]) (fun _ _=>rfl) (fun k j _ S e=>⟨j,S,e⟩)
 refine⟨h.gt,h.t2,h.dn,fun k j J S c hc h2=>?_,h.wl,h.cv,fun i f=>?_,fun i f k J e E=>?_,fun i k f J hs E x D=>?_,fun i f u=>?_,fun i j f S u=>?_,fun i f=>?_,⟨h.en.1,fun i f=>?_,fun i f hs=>?_⟩,
  fun t w x u a0 a2 hs O D U=>?_,fun v w x O h1 h2=>?_,fun t u x v hv=>?_,fun k J x o m a1=>?_,fun i k f J hs E x m D=>?_,fun i f x m D=>?_⟩
 ·have a4:=a.txLog J S hc;have:c.tx.toNat≠H.m+1:=by omega
  rw[z _ this];exact h.pw k j J S c hc h2
 ·by_cases e:i=H.m+1
  ·subst e;exact⟨fun x D=>absurd D (ht x),by rw[K];exact List.nodup_nil⟩
  ·rw[z i e];obtain⟨q1,R⟩:=h.wc i (y i f e);exact⟨fun x D=>q1 x ((X i x e).1 D),R⟩
 ·by_cases d:i=H.m+1
  ·subst d;rw[K] at E;cases E
  ·rw[z i d] at J E;exact h.se i (y i f d) k J e E
 ·by_cases d:i=H.m+1
  ·subst d;rw[K] at E;cases E
  ·rw[z i d] at hs E;rw[M i x d];exact h.ho i k (y i f d) J hs E x D
 ·by_cases d:i=H.m+1
  ·subst d;rw[K] at u;exact absurd rfl u
  ·rw[z i d] at u ⊢;exact h.tp i (y i f d) u
 ·by_cases d:i=H.m+1
  ·subst d;rw[K] at u;exact absurd rfl u
  ·rw[z i d] at u ⊢;by_cases I:j=H.m+1
   ·subst I;rw[K];intro e;exact absurd e u
   ·rw[z j I];exact h.tu i j (y i f d) (y j S I) u
 ·by_cases d:i=H.m+1
  ·subst d;rw[K];exact⟨by decide,by decide⟩
  ·rw[z i d];exact h.st i (y i f d)
 ·obtain⟨q1,R⟩:=h.en.2.1 i f;rw[z i (hE i f)];exact⟨(W i q1).1,R⟩
 ·by_cases d:i=H.m+1
  ·subst d;rw[K] at hs;rcases hs with hs|hs <;> cases hs
  ·rw[z i d] at hs;exact h.en.2.2 i (y i f d) hs
 ·by_cases d:t=H.m+1
  ·subst d;exact absurd D (ht x)
  ·by_cases I:w=H.m+1
   ·subst I;exact absurd U (hw x)
   ·rw[z w I] at hs;rw[z t d] at O;exact a3 w I (h.dm t w x (y t u d) (y w a0 I) a2 hs O ((X t x d).1 D) ((M w x I).1 U))
 ·have d:v≠H.m+1:=fun e=>by subst e;exact hw x h1
  have I:w≠H.m+1:=fun e=>by subst e;exact hw x h2
  rw[z v d,z w I];exact h.tm v w x O ((M v x d).1 h1) ((M w x I).1 h2)
 ·have d:t≠H.m+1:=fun e=>by subst e;rw[hr] at hv;cases hv
  rw[z t d,Y G.E x (fun _ g=>g)];obtain⟨q1,R⟩:=h.ri t (y t u d) x v hv;exact⟨q1,fun hs A C Z=>by rw[Y A x (fun i f=>by rw[Z];exact VT _ f)];exact R hs A C Z⟩
 ·obtain⟨q1,R,q3,q4⟩:=h.wt k J x o m a1;have:o.toNat≠H.m+1:=by omega
  rw[z _ this];exact⟨⟨q1.1,by show o<=((H.m+1:Nat):Int);omega⟩,R,q3,q4⟩
 ·by_cases d:i=H.m+1
  ·subst d;rw[K] at E;cases E
  ·rw[z i d] at hs E ⊢;exact h.ww i k (y i f d) J hs E x m D
 ·by_cases d:i=H.m+1
  ·subst d;rw[K] at D;cases D
  ·rw[z i d] at D ⊢;exact h.wn i (y i f d) x m D
def OP.begin (h:OP H):OP H.begin:=fun i d hs k a=>by
 by_cases e:i=H.m+1
 ·subst e;rw[q41] at a;exact absurd rfl (Dy.1 a).2
 ·rw[UY H e] at hs a ⊢;exact h i ⟨d.1,by have:i<=H.m+1:=d.2;omega⟩ hs k a
def q5w {C:List Nat} {t:Nat} (h:E++[i]=A++t::C):(t=i/\A=E/\C=[])\/∃ D,E=A++t::D:=by
 rcases List.eq_nil_or_concat C with e|⟨D,b,e⟩
 ·subst e;have:=YL h rfl;exact .inl ⟨by have:=this.2;injection this with this;exact this.symm,this.1.symm,rfl⟩
 ·subst e;refine .inr ⟨D,?_⟩;have a:E++[i]=(A++t::D)++[b]:=by rw[h];simp
  exact(YL a rfl).1
def q84 (H:Hs) (h:j≠i):(H.ending i).tx j=H.tx j:=As h _
def q64 (H:Hs) (i:Nat):((H.ending i).tx i).state=2/\((H.ending i).tx i).ad=(H.tx i).ad/\((H.ending i).tx i).ae=(H.tx i).ae/\((H.ending i).tx i).ag=(H.tx i).ag/\((H.ending i).tx i).aj=(H.tx i).aj:=by
 have e:(H.ending i).tx i = { H.tx i with state:=2,places:=fun k=>if ((H.tx i).ae k).isSome then Bs (-1) else(H.tx i).places k }:=An _ _ _;rw[e];exact⟨rfl,rfl,rfl,rfl,rfl⟩
def Gd (H:Hs) (i j:Nat):((H.ending i).tx j).ad=(H.tx j).ad/\((H.ending i).tx j).ae=(H.tx j).ae/\((H.ending i).tx j).ag=(H.tx j).ag/\((H.ending i).tx j).aj=(H.tx j).aj:=by
 by_cases e:j=i
 ·subst e;exact(q64 H j).2
 ·rw[q84 H e];exact⟨rfl,rfl,rfl,rfl⟩
def SI.ending (h:SI H G (fun _ _=>False)) (op:OP H) (hi:Ir H i) (hs:(H.tx i).state=1) (hw:(H.tx i).aj=[]):SI (H.ending i) ⟨G.E++[i],G.rd⟩ (fun _ _=>False):=by
 have u:=Gd H i;have h2:=(q64 H i).1;have z:=fun j=>q84 H (i:=i) (j:=j)
 have a0:∀ j,((H.ending i).tx j).af=(H.tx j).af:=fun j=>Dp (u j).2.1
 have E:∀ j x,Wr (H.ending i) j x↔Wr H j x:=fun j x=>Wr.congr (u j).1
 have a2:∀ j x,Cj (H.ending i) ⟨G.E++[i],G.rd⟩ j x↔Cj H G j x:=fun j x=>by unfold Cj;rw[E];exact Yl
 have aa:∀ j,BK H j->BK (H.ending i) j:=fun j hd=>hd.mono (u j).2.2.1 (u j).2.1 (fun _ _=>rfl) (fun k j _ d e=>⟨j,d,e⟩)
 have p:i ∉ G.E:=fun e=>(h.en.2.1 i e).2 hs
 have a1:(H.tx i).ag=0:=V5 fun e=>by rcases(h.tp i hi e).1 with e|e <;> omega
 have Z:∀ A x,i ∉ A->Bc (H.ending i) A x=Bc H A x:=fun A x hA=>QT (fun j d=>Tx (by rw[z j (fun e=>hA (e▸d))]) (u j).1)
 have Y:∀ j,((H.ending i).tx j).state=1->j≠i/\(H.tx j).state=1:=fun j e=>by
  have:j≠i:=fun e2=>by subst e2;omega
  rw[z j this] at e;exact⟨this,e⟩
 refine⟨h.gt,h.t2,h.dn,fun k j I d c hc ab=>?_,h.wl,h.cv,fun j d=>?_,fun j d k I e O=>?_,fun j k d I f O x R=>?_,fun j d X=>?_,fun a b ha hb=>?_,fun j d=>?_,⟨?_,fun j d=>?_,fun j d f=>?_⟩,
  fun t w x y M a5 a3 J a7 a6=>?_,fun v w x J h1 h3=>?_,fun t y x v hv=>?_,fun k I x o m W=>?_,fun j k d I f O x m R=>?_,fun j d x m hm=>?_⟩
 ·obtain⟨q1,K,q3⟩:=h.pw k j I d c hc ab;have e:c.tx.toNat≠i:=fun e=>q1 (by rw[e];exact hs)
  rw[z _ e];exact⟨q1,K,q3⟩
 ·rw[a0,(u j).1];obtain⟨q1,K⟩:=h.wc j d;exact⟨fun x g=>q1 x ((a2 j x).1 g),K⟩
 ·rw[a0] at I;rw[(u j).2.1] at O;exact h.se j d k I e O
 ·rw[(u j).2.1] at O;have a4:(H.tx j).state=1\/(H.tx j).state=2:=by
   by_cases e:j=i
   ·subst e;exact .inl hs
   ·rw[z j e] at f;exact f
  rw[E];exact h.ho j k d I a4 O x R
 ·rw[(u j).2.2.1] at X;have e:j≠i:=fun e=>by subst e;exact X a1
  rw[z j e];exact h.tp j d X
 ·rw[(u a).2.2.1,(u b).2.2.1];exact h.tu a b ha hb
 ·by_cases e:j=i
  ·subst e;rw[h2];exact⟨by decide,by decide⟩
  ·rw[z j e];exact h.st j d
 ·show(G.E++[i]).Nodup;rw[Yj];exact⟨h.en.1,by simp,fun a ha b hb e=>by rw[List.mem_singleton.1 hb] at e;exact p (e▸ha)⟩
 ·rcases List.mem_append.1 d with g|g
  ·have e:j≠i:=fun e=>p (e▸g)
   rw[z j e];exact h.en.2.1 j g
  ·rw[List.mem_singleton.1 g,h2];exact⟨hi,by decide⟩
 ·by_cases e:j=i
  ·exact List.mem_append_right _ (List.mem_singleton.2 e)
  ·rw[z j e] at f;exact VT _ (h.en.2.2 j d f)
 ·have U:=(a2 t x).1 a7;have S:=(E w x).1 a6;by_cases e:w=i
  ·subst e;exfalso;rcases J with g|⟨_,A,C,g1,g2⟩
   ·obtain⟨_,g⟩:=Y t g;have a8:=(h.wc w M).1 x (.inl S);have a9:=(h.wc t y).1 x U;have k2:=E4 x;have d1:=(h.ho w (Aa x) M k2 (.inl hs) (op w M hs _ a8) x rfl).1 S;have d2:=h.ho t (Aa x) y k2 (.inl g) (op t y g _ a9) x rfl;have d3:Hd (H.sh (Aa x)).tab x t 1:=by
     rcases U with q|q
     ·exact(d2.1 q).mono (by decide)
     ·exact d2.2 q
    have:=Hd.d5 (h.gt _ (by omega)) d1 d3;omega
   ·rcases q5w g1 with ⟨q,_⟩|⟨D,q⟩
    ·exact a5 q
    ·exact p (by rw[q];exact VT _ g2)
  ·rw[z w e] at a3;refine aa w (h.dm t w x y M a5 a3 ?_ U S);by_cases e2:t=i
   ·subst e2;exact .inl hs
   ·rw[z t e2] at J;rcases J with g|⟨g,A,C,g1,g2⟩
    ·exact .inl g
    ·rcases q5w g1 with ⟨q,_⟩|⟨D,q⟩
     ·exact absurd q e2
     ·exact .inr ⟨g,A,D,q,g2⟩
 ·obtain⟨A,C,g1,g2⟩:=J;rw[(u v).2.2.1,(u w).2.2.1];intro t1 t2;rcases q5w g1 with ⟨q,_⟩|⟨D,q⟩
  ·subst q;exact absurd a1 t2
  ·exact h.tm v w x ⟨A,D,q,g2⟩ ((E v x).1 h1) ((E w x).1 h3) t1 t2
 ·obtain⟨q1,K⟩:=h.ri t y x v hv;constructor
  ·intro g;obtain⟨_,g⟩:=Y t g;show Bc (H.ending i) (G.E++[i]) x=v;have e:Ik (H.ending i) x i=B0:=by unfold Ik;rw[if_neg (by rw[h2];decide)]
   rw[q91,e,Option.getD_none,Z G.E x p];exact q1 g
  ·intro g A C hE;have hE:G.E++[i]=A++t::C:=hE;rcases q5w hE with ⟨q,r,_⟩|⟨D,q⟩
   ·subst q;rw[r,Z G.E x p];exact q1 hs
   ·have e:t≠i:=fun e=>p (by rw[q,e];simp)
    rw[z t e] at g;rw[Z A x (fun m=>p (by rw[q];exact VT _ m))];exact K g A D q
 ·obtain⟨q1,K,q3,q4⟩:=h.wt k I x o m W;have e:o.toNat≠i:=fun e=>by
   rw[e] at q3 K;have e3:o=(i:Int):=by omega
   rw[e3] at W;have:=(h.ww i k hi I K q3 x m q4).2 W;rw[hw] at this;cases this
  rw[z _ e];exact⟨q1,K,q3,q4⟩
 ·obtain⟨e,g⟩:=Y j f;rw[z j e] at O ⊢;exact h.ww j k d I g O x m R
 ·rw[a0];rw[(u j).2.2.2] at hm;exact h.wn j d x m hm
def OP.ending (h:OP H) (i:Nat):OP (H.ending i):=fun j d hs k a=>by
 have e:j≠i:=fun e=>by subst e;rw[(q64 H j).1] at hs;cases hs
 rw[q84 H e] at hs a ⊢;exact h j d hs k a
end
end Go.Proofs.YtccahlhdifadfaaGreatDoor
