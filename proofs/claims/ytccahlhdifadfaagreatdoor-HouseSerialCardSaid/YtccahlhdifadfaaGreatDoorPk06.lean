/- Part 7 of the texts that the claim rests on (of 9): Hg3, Hg4, Hg5, Pick, Pg1, Kh1, SerPlain, Kh2, Kh3, Kp1, Kp2, Kh4, Kh5, Kh6, Kh7, Kh8, Kh9, KhA, KhB, KhC, KhD, KhE, LkA, Sa1. -/
import Derived.Test.YtccahlhdifadfaaGreatDoorPk05
import Derived.Test.YtccahlhdifadfaaGreatDoorRows
import Derived.WalkKit
import Derived.WalkSpells
import Derived.WalkLawsBesides
import Derived.IntWalk
import Derived.Below
namespace Go.Proofs.YtccahlhdifadfaaGreatDoor
open Go.RowKit
open _root_.Bool renaming false → Jx, true → T2
open _root_.Go renaming World → B1, Value → Hi, Calls → VX, maxLen → VZ, wp_cond_true → Xh, undef → Yc, Exit → Yn
open _root_.Go.Act renaming put → Xj
open _root_.Go.Code renaming wp → Yf
open _root_.Go.IntWalk renaming i64_in → V8, wrap64_in → Xq
open _root_.Go.RowKit renaming Below → VJ, wrap64 → Xa
open _root_.Go.RowKit.Below renaming refl → S2
open _root_.Go.Value renaming oneCell' → Wy, slice → WI
open _root_.Go.World renaming ownsRow_nil → VY, cell?_alloc_lt → WY
open _root_.List renaming getElem?_cons_zero → D0, getElem?_toArray → Ft, getElem?_eq_getElem → K0, getElem?_cons_succ → N2, mem_of_getElem? → O0, flatMap_cons → VI, mem_cons_self → VL, mem_cons_of_mem → VM, length_append → VP, getElem?_map → VT, getElem?_mapIdx → V5, length_map → Wh, range → Wu, flatMap_append → Wx, getElem_mem → WE, range' → WG, nil_append → WL, append_nil → WM, map_append → Xe, map_cons → Xt, ext_getElem? → XB, any_eq_false → XC, length_set → XG, set_cons_succ → XK, cons_append → XL, map_nil → X8, getElem?_set → Yi, map_congr_left → Yq, range_succ → Yz, append_inj' → YQ, mem_or_eq_of_mem_set → YS, idxOf_append → Y8
open _root_.List.Pairwise renaming nil → Yj
open _root_.Nat renaming le_refl → L1, lt_of_lt_of_le → VH, zero_le → VK, le_trans → VO, le_succ → W5
open _root_.Option renaming some → Bs, none → B0, map_some → Wv, getD → Xf
open _root_.Option.some renaming injEq → VN
set_option linter.all false
set_option maxRecDepth 100000
set_option maxHeartbeats 16000000
def N3 (P:Aw) (own:Ai) (H:Hs) (w:B1) (v:Hi) (wr:B1):Prop:=∃ q:Nat,v=.int .i64 q/\q<=3/\Ch P own (([0,1,2].take q).foldl Hs.aE H) w wr
def FcRel (P:Aw) (own:Ai) (H:Hs) (w:B1) (v:Hi) (wr:B1):Prop:=∃ q:Nat,v=.int .i64 q/\q<=H.m/\Ch P own ((WG 1 q).foldl Hs.a5 H) w wr
def Vu (a b:Hs) (i:Nat) (left:Int->Bool):Prop:=
 (b=a/\∀ k∈(a.tx i).ai,left (k:Nat)=Jx->¬((a.tx i).state=1/\(a.tx i).ad (k:Nat)≠Bs (a.sh k).ab))\/(b=a.abort i/\(a.tx i).state=1/\Ks a i)
def N1 (P:Aw) (b:Ai) (e:Hs) (i bs r:Nat) (f:B1) (wr:B1):Prop:=
 ∃ (left:Int->Bool) (c:Nat) (a:Ai) (d:Hs),DT BC wr bs r 100 (Db (e.tx i).ad) left c/\HI wr a P d/\AA f b wr a/\a r=B0/\a bs=Bs (.sm i)/\Vu e d i left
theorem Vu.done {a c:Hs} {i:Nat} {left:Int->Bool} (h:Vu a c i left) (d:∀ k∈(a.tx i).ai,left (k:Nat)=Jx):c=a.a5 i:=by
 rcases h with ⟨rfl,h⟩|⟨rfl,j,f⟩
 ·rw[Om];rintro ⟨e,k,b,hs⟩;exact h k b (d k b) ⟨e,hs⟩
 ·rw[Lg j f]
theorem PA {H:Hs} {B:Int} (h:Ag H B) (a:B<=999000):∀ q,q<=3->Ag (([0,1,2].take q).foldl Hs.aE H) (B+q)
 | 0,_=>by simpa using h
 | 1,_=>(h.aE (by omega) (s:=0) (by omega)).1
 | 2,_=>by
  have:=((h.aE (by omega) (s:=0) (by omega)).1.aE (by omega) (s:=1) (by omega)).1;rw[show B+((2:Nat):Int)=B+1+1 by omega];exact this
 | 3,_=>by
  have:=(((h.aE (by omega) (s:=0) (by omega)).1.aE (by omega) (s:=1) (by omega)).1.aE (by omega) (s:=2) (by omega)).1;rw[show B+((3:Nat):Int)=B+1+1+1 by omega];exact this
theorem Qr {n:Nat} {x:Bg} (h:x.aj n=[]):x.bH n=T2:=by unfold Bg.bH;rw[h];rfl
theorem N6 {n a z:Nat} {x:Bg} {l:List Nat} (h:x.aj n=l) (c:l[0]? = Bs a) (b:l[l.length-1]? = Bs z):x.bH n=((x.nd a).head && (x.nd z).tail && ((l.length:Int) == x.size)):=by
 unfold Bg.bH;rw[h,List.head?_eq_getElem?,List.getLast?_eq_getElem?,c,b]
theorem J6 {H:Hs} {s:Nat} (h:(H.sh s).bH H.n=T2):H.aE s=H:=by unfold Hs.aE;rw[if_pos h]
theorem U7 {H:Hs} {s:Nat} (h:(H.sh s).bH H.n=Jx):H.aE s=H.fix s:=by unfold Hs.aE;rw[h];rfl
theorem Fk {H:Hs} (h:Wf H) (b:H.c=3):∀ q,q<=H.m->Wf ((WG 1 q).foldl Hs.a5 H)/\Sz H ((WG 1 q).foldl Hs.a5 H)
 | 0,_=>⟨h,Sz.refl H⟩
 | q+1,d=>by
  obtain⟨c,a⟩:=Fk h b q (by omega);rw[q91];exact⟨c.a5 (a.c.trans b) (by omega) (by rw[a.m];omega),a.trans (Ol _ _)⟩
def FixsP (P:Aw) (own:Ai) (H:Hs) (w:B1) (e:Ending) (w':B1):Prop:=e=.returned (.tuple #[])/\∃ H',Kz H H'/\Ch P own H' w w'
section
variable {w w':B1} {own own':Ai} {P:Aw} {H:Hs}
theorem Pt {B:Int} (h:HI w own P H) (ha:Ag H B) (hB:B<=999000) (bS:El own):VX Tryz.prog 33 #[pw P.g] w (FixsP P own H w):=by
 have HH:=LH h;have hc:=ha.c;have cw:=ha.wf.n4;obtain⟨r3,k3,⟨vh,Y,bp⟩,bf⟩:=h.shRow hc;obtain⟨_,c3,_,_,gl⟩:=Y.cells;rw[bp] at c3;have cd:=LH bf;have bN:=LH (PA ha hB);clear h ha Y bp bf;unfold pw at *;go_enter Tryz.func33,Tryz.ntmps33;go_wp2_with fail;clear c3;go_loopw [14] (N3 P own H w) (fun v _=>3-(intOf v).toNat)
 case atStart=>exact⟨0,rfl,VK _,own,HH.o,HZ.refl _ _ _⟩
 case round=>
  obtain⟨q,rfl,hq,own2,a8,a7⟩:=hrel;by_cases cy:(q:Int)<3
  ·obtain⟨c5,bQ⟩:=cd.o wr own2 a7 q (by omega);have bc:([0,1,2]:List Nat)[q]? = Bs q:=by
    have:q=0\/q=1\/q=2:=by omega
    rcases this with rfl|rfl|rfl <;> rfl
   have b3:=LH (show([0,1,2].take (q+1)).foldl Hs.aE H=(([0,1,2].take q).foldl Hs.aE H).aE q from by rw[List.take_add_one,bc,List.foldl_append];rfl);have D:=bN.o q (by omega);clear bc;generalize ([0,1,2].take q).foldl Hs.aE H=H2 at *;have aT:=D.c;have J:=D.wf;have HL:=LH (q58 a8 J (s:=q) (by omega));have HM:=LH (fun j (hj:j∈(H2.sh q).aj H2.n)=>q3w hj);have bw:=LH (Qr (x:=H2.sh q) (n:=H2.n));have a1:=D.ep q (by omega);have bu:∀ j∈(H2.sh q).aj H2.n,((H2.sh q).nd j).ab<Xa ((H2.sh q).ab+1):=fun j hj=>by
    rw[show Xa ((H2.sh q).ab+1)=(H2.sh q).ab+1 from Xq _ ⟨by omega,by omega⟩];obtain⟨L,p,a⟩:=D.ch.at_ (s:=q) (by omega) (q2l.1 hj);rw[a.ab];omega
   have ck:=LH bu;have aB:=LH a8;have aZ:=LH a7;have b2:=LH J;have af:∀ W,Ch P own2 (H2.aE q) wr W->N3 P own H w (.int .i64 ((q+1:Nat):Int)) W:=fun W ⟨o,a,b⟩=>⟨q+1,rfl,by omega,o,by rw[b3.o];exact a,aZ.o.trans b⟩
   have aA:=LH af;unfold DS pw at HL;clear a8 a7 J D a1 bu af;generalize aQ:(H2.sh q).aj H2.n=l at *;have cA:l.length<=4:=by rw[<- aQ];have:=q2m (H2.sh q) H2.n;have:=b2.o.n4;omega
   have bI:=LH aQ;clear aQ;go_wp2_with fail;refine HL.o.mono ?_;rintro e w1 ⟨V,rfl,a4,aU⟩;obtain⟨A,c,rfl,_,_⟩:=AK a4;have aK:=LH a4;have a9:=LH (aB.o.below aU);have b0:=LH (show AA wr own2 w1 own2 from HZ.below own2 aU);have ci:=LH (fun b (hb:(WI A l.length c).ownBlock=Bs b)=>aB.o.free (a4.lt b hb).1);clear a4 aU HL c5 bQ;by_cases hl:l=[]
   ·have ah:l.length=0:=by rw[hl];rfl
    have HR:=LH (aA.o w1 (by rw[J6 (bw.o hl)];exact⟨own2,a9.o,b0.o⟩));clear hl;rw[ah];go_wp2_with fail;go_roundw
    ·exact HR.o
    ·simp[intOf];omega
   ·have bk:0<l.length:=List.length_pos_iff.2 hl;have ah:((l.length:Int) == 0)=Jx:=by simp;omega
    have aW:l[0]? = Bs l[0]:=K0 bk;have aL:l[l.length-1]? = Bs l[l.length-1]:=K0 (by omega);have aa:=N6 bI.o aW aL;have bn:=HM.o l[0] (WE _);have b7:=HM.o l[l.length-1] (WE _);obtain⟨r0,c0,ca,aO,u0,aN,cr⟩:=Tw aK.o (k:=0) bk;injection ca with hA0 _ hcp0;subst hA0 hcp0;obtain⟨r1,c1,c9,cu,u1,aM,cq⟩:=Tw aK.o (k:=l.length-1) (by omega);injection c9 with hA1 _ _;injection hA1 with hA1;injection hA1 with hA1 _ _;subst hA1;rw[VT,aW] at aN;rw[VT,aL] at aM;simp only[Wv,VN] at aN aM;subst aN aM;generalize l[0]=a at *;generalize l[l.length-1]=z at *;obtain⟨Ca,Va,La,bt,_⟩:=a9.o.nd q a (by omega) bn;have ap:=LH (qcf bt);obtain⟨Cz,Vz,Lz,br,_⟩:=a9.o.nd q z (by omega) b7;have ay:=LH (q8a br);have b1:=LH aa;have aC:=LH (fun W (hb:VJ w1.heap.size w1 W)=>JU (a9.o.below hb) b2.o (show q<H2.c by omega) (fun j hj=>ck.o j (by rw[<- bI.o];exact hj)));have bF:=LH (fun W (hb:VJ w1.heap.size w1 W)=>Ot (a9.o.below hb) (show q<H2.c by omega));have c7:∀ W,VJ w1.heap.size w1 W->Ch P own2 (H2.fix q) W W->True:=fun _ _ _=>trivial
    have cb:=LH (show ∀ W,(H2.sh q).bH H2.n=T2->VJ w1.heap.size w1 W->N3 P own H w (.int .i64 ((q+1:Nat):Int)) W from fun W e hb=>aA.o W (by rw[J6 e];exact⟨own2,a9.o.below hb,b0.o.trans (HZ.below own2 hb)⟩));have b5:=LH (show ∀ W W',(H2.sh q).bH H2.n=Jx->VJ w1.heap.size w1 W->Ch P own2 (H2.fix q) W W'->N3 P own H w (.int .i64 ((q+1:Nat):Int)) W' from fun W W' e hb ⟨o,h1,h2⟩=>aA.o W' (by rw[U7 e];exact⟨o,h1,(b0.o.trans (HZ.below own2 hb)).trans h2⟩));unfold pw at aC bF;clear c7 aW aL aa bn b7 bt br hl bw aA;have cz:((l.length-1:Nat):Int)=(l.length:Int)-1:=by omega
    cases a0:((H2.sh q).nd a).head with
    | false=>
     rw[a0] at ap;have hw:(H2.sh q).bH H2.n=Jx:=by rw[b1.o,a0];rfl
     have HW:=LH hw;clear hw a0;go_wp2_with fail;refine ap.o.mono ?_;rintro e w2 ⟨rfl,rfl⟩;go_wp2_with fail;refine(aC.o w1 (S2 _ _)).mono ?_;rintro e U ⟨rfl,O⟩;have HR:=LH (b5.o w1 U HW.o (S2 _ _) O);clear O;go_wp2_with fail;go_roundw
     ·exact HR.o
     ·simp[intOf];omega
    | true=>
     rw[a0] at ap;have cp:l.length<=60:=by omega
     cases a5:((H2.sh q).nd z).tail with
     | false=>
      rw[a5] at ay;have hw:(H2.sh q).bH H2.n=Jx:=by rw[b1.o,a0,a5];rfl
      have HW:=LH hw;clear hw a0 a5;go_wp2_with fail;refine ap.o.mono ?_;rintro e w2 ⟨rfl,rfl⟩;go_wp2_with fail;refine ay.o.mono ?_;rintro e U ⟨rfl,a2⟩;have b6:=LH (aC.o U a2);have aD:=LH a2;clear a2;go_wp2_with fail;refine b6.o.mono ?_;rintro e w4 ⟨rfl,O⟩;have HR:=LH (b5.o U w4 HW.o aD.o O);clear O;go_wp2_with fail;go_roundw
      ·exact HR.o
      ·simp[intOf];omega
     | true=>
      rw[a5] at ay;have b8:(H2.sh q).bH H2.n=((l.length:Int) == (H2.sh q).size):=by rw[b1.o,a0,a5];rfl
      have bx:=LH b8;clear b8 a0 a5;go_wp2_with fail;refine ap.o.mono ?_;rintro e w2 ⟨rfl,rfl⟩;go_wp2_with fail;refine ay.o.mono ?_;rintro e U ⟨rfl,a2⟩;have ch:=LH (bF.o U a2);have b6:=LH (aC.o U a2);have aD:=LH a2;clear a2;go_wp2_with fail;refine ch.o.mono ?_;rintro e w4 ⟨rfl,rfl⟩;cases bb:((l.length:Int) == (H2.sh q).size) with
      | true=>
       have HR:=LH (cb.o U (by rw[bx.o,bb]) aD.o);go_wp2_with fail;go_roundw
       ·exact HR.o
       ·simp[intOf];omega
      | false=>
       go_wp2_with fail;refine b6.o.mono ?_;rintro e w5 ⟨rfl,O⟩;have HR:=LH (b5.o U w5 (by rw[bx.o,bb]) aD.o O);clear O;go_wp2_with fail;go_roundw
       ·exact HR.o
       ·simp[intOf];omega
  ·obtain rfl:q=3:=by omega
   have D:=bN.o 3 (L1 _);have cj:=LH (show ∀ H',EU (([0,1,2].take 3).foldl Hs.aE H).ba H'->Kz H H' from fun H' h=>h);generalize ([0,1,2].take 3).foldl Hs.aE H=H2 at *;have aT:=D.c;have bh:=a7.cT bS;have aB:=LH a8;have aZ:=LH a7;have b2:=LH D.wf;have cI:=LH D;obtain⟨vh,Y⟩:=a8.hs;obtain⟨_,_,c4,_,gl⟩:=Y.cells;obtain⟨A,c,hV,_,_⟩:=AK Y.txr;rw[hV] at c4;have cf:=LH (fun W own' (hz:AA wr own2 W own')=>(hV▸hz.fr.own Y.txr (fun b hb hs=>(hs.tag (Y.bh b hb)).1 rfl):W.ownsRow 0 74 1 (.slice A H2.m c) H2.m ((WG 1 H2.m).map fun i=>pw (P.gt i))));have cn:H2.m<=60:=D.wf.bC;have bB:=LH (show ∀ q,q<=H2.m->Wf ((WG 1 q).foldl Hs.a5 H2)/\Sz H2 ((WG 1 q).foldl Hs.a5 H2) from fun q hq=>Fk D.wf D.c q hq);clear a8 a7 Y hV D;go_wp2_with fail;clear c4;rename B1=>W0
   go_loopw [54] (FcRel P own2 H2 W0) (fun v _=>H2.m-(intOf v).toNat)
   case atStart=>exact⟨0,rfl,VK _,own2,aB.o,HZ.refl _ _ _⟩
   case round=>
    obtain⟨q,rfl,hq,E,G,a6⟩:=hrel;by_cases co:(q:Int)<H2.m
    ·obtain⟨r,c',hV,hr,u,hu,c2⟩:=Tw (cf.o _ _ a6) (k:=q) (by omega);injection hV with hA _ hcp;subst hA hcp;rw[VT,List.getElem?_range' (by omega)] at hu;simp only[Wv,VN] at hu;rw[show 1+1*q=q+1 by omega] at hu;subst hu;unfold pw at c2;have ad:=bB.o q hq;have b3:=LH (q91 H2 q);generalize (WG 1 q).foldl Hs.a5 H2=M at *;have ar:q+1<=M.m:=by rw[ad.2.m];omega
     have aS:M.c=3:=ad.2.c.trans aT;have cm:q<=60:=by omega
     obtain⟨S,ab⟩:=G.tx (q+1) (by omega) ar;obtain⟨_,k1,_,k3,_,_,_,kl⟩:=ab.cells;have ag:=a6.cT bh;have d:E S.bs=Bs (.tx (q+1)):=ab.st.resolve_right (ag _ _);have bG:=LH ab.ad;have bA:=LH (ad.1.tx (q+1) (by omega) ar).sh;have bz:=LH ad.1;have bL:=LH G;have aY:=LH a6;have cc:=LH ab;have az:=LH d;have bE:=LH ag;clear ad ab G a6 d ag;rename B1=>Wb
     have bU:=bG.o.lt;go_wp2_with (at_range;refine q2p rfl _ 61 3 rfl Tryz.underlying61 rfl bG.o ?_;intro w0 bv ae bm BD)
     generalize aO:Wb.heap.size=r0 at ae BD ⊢;have b4:=LH aO;clear aO;have aV:VJ Wb.heap.size Wb w0:=bm.aU;have ce:=LH (show N1 P (smOn E S.bs (q+1)) M (q+1) S.bs r0 Wb w0 from by
      refine⟨_,bv,smOn E S.bs (q+1),M,ae,(bL.o.b7 (by omega) ar cc.o).below aV,HZ.below _ aV,?_,by unfold smOn;rw[if_pos rfl],.inl ⟨rfl,fun k hk hl=>?_⟩⟩
      ·unfold smOn;rw[if_neg (by have:=b4.o;omega)];exact bL.o.free (by have:=b4.o;omega)
      ·exfalso;obtain⟨e,he⟩:=Option.ne_none_iff_exists'.1 (EZ.1 hk).2;simp[Db,he] at hl)
     clear ae bm BD aV
     try go_frame
     go_loopw [7] (fun _ wr=>N1 P (smOn E S.bs (q+1)) M (q+1) S.bs r0 Wb wr) (fun _ wr=>wr.rangeLeft S.bs r0)
     case atStart=>exact ce.o
     case round=>
      obtain⟨left,cH,I,H4,bg,ak,aj,aq,aP,be⟩:=hrel;have bC:=LH bg;have bJ:=LH ak;have ax:=LH aj;have am:=LH be;clear bg ak aj be;go_wp2_with (at_next;refine q35 rfl _ rfl rfl bC.o ?_ ?_)
      ·intro ah;have ai:=am.o.done (fun k hk=>ah k (by
        obtain⟨e,he⟩:=Option.ne_none_iff_exists'.1 (EZ.1 hk).2;rcases(bA.o k e he).1 with h|h <;> exact FD (by omega) (by omega)))
       have cg:=LH (show FcRel P own2 H2 W0 (.int .i64 ((q+1:Nat):Int)) wr from
        ⟨q+1,rfl,by omega,smOff I (q+1),by rw[b3.o,<- ai];exact bJ.o.bc (q+1),aY.o.trans (AA.bc bE.o az.o ax.o bU)⟩)
       clear ah ai;go_wp2_with fail;go_roundw
       ·exact cg.o
       ·simp[intOf];omega
      ·intro o v9 U al cv bT Z aG aH aR bP bY;obtain⟨e9,au,rfl⟩:∃ m,(M.tx (q+1)).ad o=Bs m/\v9=.int .i64 m:=by
        unfold Db at Z;cases e:(M.tx (q+1)).ad o with
        | none=>rw[e] at Z;cases Z
        | some m=>rw[e] at Z;injection Z with Z;exact⟨m,rfl,Z.symm⟩
       rw[show BC.val o=Value.int .i64 o from rfl] at bY ⊢;obtain⟨k,rfl,cD⟩:∃ k:Nat,o=k/\k<2:=by
        rcases(bA.o o e9 au).1 with h|h
        ·exact⟨0,h,by omega⟩
        ·exact⟨1,h,by omega⟩
       have bW:k∈(M.tx (q+1)).ai:=EZ.2 ⟨by omega,by rw[au];simp⟩;have G:HI U I P H4:=bJ.o.fr0 aR (fun b hb e=>hb (by rw[e];exact aq));have aI:AA Wb (smOn E S.bs (q+1)) U I:=⟨ax.o.ext,ax.o.fr.trans' aR (fun b hb (e:b=r0)=>by have:=b4.o;omega),ax.o.sm⟩
       have K:=LH aG;have bH:=LH (bC.o.left_eq▸aH:al<wr.rangeLeft S.bs r0);have av:H4.c=3/\H4.m=M.m/\Wf H4/\∀ s,(H4.sh s).ab=(M.sh s).ab:=by
        rcases am.o with ⟨e,_⟩|⟨e,_⟩
        ·rw[e];exact⟨aS,rfl,bz.o,fun _=>rfl⟩
        ·rw[e];have f:=(Nc M (q+1)).1;exact⟨f.c.trans aS,f.m,bz.o.abort aS (by omega) ar,fun s=>SM M (q+1) s⟩
       obtain⟨av,cx,b9,bZ⟩:=av;obtain⟨v4,ba⟩:=G.tx (q+1) (by omega) (by omega);obtain⟨_,d1,_,_,_,_,_,dl⟩:=ba.cells;obtain⟨cs,ac⟩:=G.hs;obtain⟨_,d3,_,_,cG⟩:=ac.cells;obtain⟨r5,k5,bq,ct,c6⟩:=ac.bR (s:=k) (by omega);rw[bq,av] at d3;obtain⟨_,e2,_,_,_,_,_,_,cF⟩:=G.b8 (s:=k) (by omega);rw[bZ k] at e2;have bO:=LH (q3s G b9 av (show 1<=q+1 by omega) (show q+1<=H4.m by omega));have bK:=LH G;have aJ:=LH aI;have cC:(k:Int)<3:=by omega
       unfold pw at bO c6;have bl:(∀ R:Int->Bool,(∀ y,R y=Jx->left y=Jx\/y=(k:Int))->Vu M H4 (q+1) R)->N1 P (smOn E S.bs (q+1)) M (q+1) S.bs r0 Wb U/\U.rangeLeft S.bs r0<wr.rangeLeft S.bs r0:=fun hs=>by
        refine⟨⟨_,al,I,H4,K.o,bK.o,aJ.o,aq,aP,hs _ (fun y hy=>?_)⟩,by rw[K.o.left_eq];exact bH.o⟩;rcases Bool.and_eq_false_iff.1 hy with h|h
        ·exact .inl h
        ·right;simpa using h
       have bM:=LH bl;clear bl G aI aG aH aR bP Z ba ac bq b9 bT;by_cases d:(H4.tx (q+1)).state=1
       ·have hH:H4=M:=by
         rcases am.o with ⟨e,_⟩|⟨e,_⟩
         ·exact e
         ·exfalso;rw[e,((Nc M (q+1)).2.2 (q+1)).1,if_pos rfl] at d;cases d
        have aX:=am.o;by_cases a1:e9=(M.sh k).ab
        ·have O:=bM.o (fun R hl=>by
          rcases aX with ⟨e,h0⟩|hr
          ·refine .inl ⟨e,fun k' bX bV=>?_⟩;rcases hl _ bV with h|h
           ·exact h0 k' bX h
           ·rintro ⟨_,bj⟩;rw[h] at bj;have ek:k'=k:=by omega
            subst ek;exact bj (by rw[au,a1])
          ·exact .inr hr)
         have ao:=LH O.1;have an:=LH O.2;have bi:(e9 != (M.sh k).ab)=Jx:=by simpa using a1
         rw[d] at d1;clear O aX d hH a1;go_wp2_with fail;go_roundw
         case rel=>exact ao.o
         case measure=>exact an.o
        ·have bi:(e9 != (M.sh k).ab)=T2:=by simpa using a1
         have aE:(M.tx (q+1)).state=1:=by rw[<- hH];exact d
         have a3:Ks M (q+1):=⟨k,bW,by rw[au];intro h;injection h with h;exact a1 h⟩
         have bD:=LH (fun W X (aw:HI W X P (H4.abort (q+1))) (hz:AA U I W X)=>(by
          have c8:=hz.fr.block S.bs K.o.owns.lt (fun⟨t,e,ht⟩=>by rw[aP] at e;injection e with e;subst e;exact ht.2.2 _ rfl);have bR:=hz.fr.block r0 K.o.lt (fun⟨t,e,_⟩=>by rw[aq] at e;cases e);have aF:=K.o.bj c8 bR;exact⟨⟨_,al,X,H4.abort (q+1),aF,aw,aJ.o.trans hz,(hz.ext _ K.o.lt).trans aq,(hz.ext _ K.o.owns.lt).trans aP,.inr ⟨by rw[hH],aE,a3⟩⟩,by rw[aF.left_eq];exact bH.o⟩:N1 P (smOn E S.bs (q+1)) M (q+1) S.bs r0 Wb W/\W.rangeLeft S.bs r0<wr.rangeLeft S.bs r0))
         rw[d] at d1;clear aX d hH a1 aE a3;go_wp2_with fail;refine bO.o.mono ?_;rintro e w5 ⟨rfl,X,aw,bo⟩;have O:=bD.o w5 X aw bo;have ao:=LH O.1;have an:=LH O.2;clear O aw bo bD;go_wp2_with fail;go_roundw
         case rel=>exact ao.o
         case measure=>exact an.o
       ·have cl:((H4.tx (q+1)).state == 1)=Jx:=by simpa using d
        have O:=bM.o (fun R _=>by
         rcases am.o with ⟨e,_⟩|hr
         ·exact .inl ⟨e,fun _ _ _ h=>d (by rw[e];exact h.1)⟩
         ·exact .inr hr)
        have ao:=LH O.1;have an:=LH O.2;clear O d;go_wp2_with fail;go_roundw
        case rel=>exact ao.o
        case measure=>exact an.o
    ·obtain rfl:q=H2.m:=by omega
     have J:=bB.o H2.m (L1 _);have az:=LH (q47 (show HI wr E P H2.ba from G) J.1 (J.2.c.trans aT));have aY:=LH (aZ.o.trans a6);unfold pw at az;clear G a6 J;go_wp2_with fail;refine az.o.mono ?_;rintro e U ⟨rfl,H',hr,I,ak,aj⟩;have HF:=LH (show FixsP P own H w (.returned (.tuple #[])) U from⟨rfl,H',cj.o H' hr,I,ak,aY.o.trans aj⟩);clear hr ak aj;go_wp2_with fail
     go_end0
     exact HF.o
end
def nwV (V:Hi) (bd:Nat):NO:=⟨V,bd,B0,fun _=>⟨0,0,.nilIface⟩,B0,fun _=>.nilIface⟩
structure Ek (w:B1) (B q bd gs i:Nat) (V:Hi) (gn:Nat->Nat):Prop where
 lo:B<=bd/\bd<gs
 ah:Ab w gs 105 (FC (nwV V bd) (CL q))
 map:Aa BC w bd 100 (TG fun _=>Jx)
 row:w.ownsRow (gs+1) 108 1 V i ((Wu i).map fun j=>pw (gn j))
 nd:∀ j,j<i->BI w 0 (gn j) (.slice B0 0 0) (.slice B0 0 0) [] (nd0 (10*q+j))/\gs<gn j
 inc:∀ j k,j<k->k<i->gn j<gn k
open Classical in
noncomputable def BG (own:Ai) (B q bd gs n:Nat) (V:Hi) (gn:Nat->Nat):Ai:=fun b=>
 if b<B then own b else if b=bd then Bs (.dd q) else if b=gs then Bs (.sb q) else if V.ownBlock=Bs b then Bs (.ndr q)
 else if h:∃ j,j<n/\b=gn j then Bs (.nd q h.choose) else B0
section
variable {w w' w4 w5:B1} {own own':Ai} {P:Aw} {H:Hs} {B q bd gs i n:Nat} {V:Hi} {gn:Nat->Nat}
theorem Ek.inj (h:Ek w B q bd gs i V gn) {j k:Nat} (c:j<i) (b:k<i) (e:gn j=gn k):j=k:=by
 rcases Nat.lt_trichotomy j k with a|a|a
 ·have:=h.inc j k a b;omega
 ·exact a
 ·have:=h.inc k j a c;omega
theorem Ek.own_bd (h:Ek w B q bd gs n V gn):BG own B q bd gs n V gn bd=Bs (.dd q):=by unfold BG;rw[if_neg (by have:=h.lo;omega),if_pos rfl]
theorem Ek.own_gs (h:Ek w B q bd gs n V gn):BG own B q bd gs n V gn gs=Bs (.sb q):=by unfold BG;rw[if_neg (by have:=h.lo;omega),if_neg (by have:=h.lo;omega),if_pos rfl]
theorem Ek.dj (h:Ek w B q bd gs n V gn) {b:Nat} (a:V.ownBlock=Bs b):BG own B q bd gs n V gn b=Bs (.ndr q):=by
 have d:=(h.row.lt b a).1;have c:=h.lo;unfold BG;rw[if_neg (by omega),if_neg (by omega),if_neg (by omega),if_pos a]
theorem Ek.own_nd (h:Ek w B q bd gs n V gn) {j:Nat} (b:j<n):BG own B q bd gs n V gn (gn j)=Bs (.nd q j):=by
 have p:=h.lo;obtain⟨d,f⟩:=h.nd j b;unfold BG;have a:∃ k,k<n/\gn j=gn k:=⟨j,b,rfl⟩
 rw[if_neg (by omega),if_neg (by omega),if_neg (by omega),if_neg (fun e=>Be h.row d.ah (by decide) e),dif_pos a];have c:=a.choose_spec;rw[<- h.inj b c.1 c.2]
theorem FL:Ext own (BG own B q bd gs n V gn) B:=fun b a=>by unfold BG;rw[if_pos a]
theorem Ek.own_lt (h:Ek w B q bd gs n V gn) (c:∀ b,own b≠B0->b<w.heap.size):∀ b,BG own B q bd gs n V gn b≠B0->b<w.heap.size:=fun b a=>by
 unfold BG at a;split at a
 ·exact c b a
 ·split at a
  ·rename_i e;rw[e];exact h.map.lt
  ·split at a
   ·rename_i e;rw[e];exact h.ah.lt
   ·split at a
    ·rename_i e;exact(h.row.lt b e).2
    ·split at a
     ·rename_i e;obtain⟨j,d,rfl⟩:=e;exact(h.nd j d).1.ah.lt
     ·exact absurd rfl a
theorem Ek.sm:∀ b k,BG own B q bd gs n V gn b=Bs (.sm k)->own b=Bs (.sm k):=fun b k e=>by
 unfold BG at e;split at e
 ·exact e
 ·split at e
  ·cases e
  ·split at e
   ·cases e
   ·split at e
    ·cases e
    ·split at e <;> cases e
theorem Ek.shI (h:Ek w B q bd gs n V gn):D3 w (BG own B q bd gs n V gn) n q gs gn (nwV V bd) (CL q):=
 ⟨Lw h.row (VK _),fun b a=>h.dj a,h.map,h.own_bd,AD.none_ h.ah rfl ⟨by decide,by decide⟩ (VK _) _,fun b a=>by
  rcases a with h|⟨x,c,_⟩
  ·cases h
  ·exact absurd rfl c,B8.none_ h.ah rfl rfl (by decide) (VK _) _,fun b a=>by
  rcases a with h|⟨x,c,_⟩
  ·cases h
  ·exact absurd rfl c,h.own_gs⟩
theorem Ek.ndC (h:Ek w B q bd gs n V gn) {j:Nat} (c:j<n):S5 w (BG own B q bd gs n V gn) (.nd q j) (gn j) ((CL q).nd j):=
 ⟨_,_,_,(h.nd j c).1,fun b a=>by
  rcases a with rfl|a|a|⟨x,d,_⟩
  ·exact h.own_nd c
  ·cases a
  ·cases a
  ·cases d⟩
theorem HI.pushSh (h:HI w4 own P H) (G:Qi w4 own H.n H.c gs gn (CL H.c)) (I:∀ j,j<H.n->S5 w4 own (.nd H.c j) (gn j) ((CL H.c).nd j)) (X:H.sh H.c=CL H.c)
  {v:KO} (f:En w4 own P H.c H.m H.net H.ae v) {V':Hi} (K:Aq w4 w5 v.Vr.ownBlock V'.ownBlock)
  (U:w5.ownsRow 0 80 1 V' (H.c+1) (((Wu H.c).map fun s=>pw (P.gs s))++[pw gs])) :
  ∃ own',HI (w5.setCell ⟨P.g,3,B0⟩ V') own' { P with gs:=Ae P.gs H.c gs,gn:=Ae P.gn H.c gn } { H with c:=H.c+1 }/\(∀ b,own' b≠B0->own b≠B0\/w4.heap.size<=b)/\(∀ b i,own' b=Bs (.sm i)->own b=Bs (.sm i))/\
   Fr (OS own (fun t=>t=.shr\/t=.hs)) w4 (w5.setCell ⟨P.g,3,B0⟩ V'):=by
 have y:Ext own (DW own w4.heap.size (fun q=>V'.ownBlock=Bs q) .shr) w4.heap.size:=Rn;have O:Fr (OS own (fun t=>t=.shr\/t=.hs)) w4 w5:=K.1.mono (fun q _ e=>⟨_,f.bm q e.symm,.inl rfl⟩);have z:=Fr.ax P.g w5 3 V';have u:Fr (OS own (fun t=>t=.shr\/t=.hs)) w4 (w5.setCell ⟨P.g,3,B0⟩ V'):=O.setCell (p:=⟨P.g,3,B0⟩) (.inl ⟨_,f.gt,.inr rfl⟩) _;have M:¬Bs P.g=v.Vr.ownBlock:=fun e=>by have:=f.bm P.g e.symm;rw[f.gt] at this;cases this
 have A:Ab w5 P.g 92 (OD v H.ae):=K.1.ah f.nt.ah M;have J:∀ q,Fb v q->¬OS own (fun t=>t=.shr\/t=.hs) q:=fun q d hs=>by rcases hs.tag (f.aV q d) with e|e <;> cases e
 have Z:AJ (w5.setCell ⟨P.g,3,B0⟩ V') 0 P.g 0 92 (OD { v with Vr:=V' } H.ae) v.Vn v.D 100 v.L H.net.ak v.lost:=
  f.nt.bO u J (A.aC 3 V') rfl rfl rfl
 have x:(w5.setCell ⟨P.g,3,B0⟩ V').ownsRow 0 80 1 V' (H.c+1) ((Wu (H.c+1)).map fun s=>pw (Ae P.gs H.c gs s)):=by
  have S:((Wu (H.c+1)).map fun s=>pw (Ae P.gs H.c gs s))=(((Wu H.c).map fun s=>pw (P.gs s))++[pw gs]):=by
   rw[Yz,Xe];congr 1
   ·apply Yq;intro s hs;rw[List.mem_range] at hs;rw[AF (by omega)]
   ·rw[Xt,X8,Ay]
  rw[S];exact z.own U (fun q d e=>Be U A (by decide) (by rw[d,e]))
 have D:∀ q,V'.ownBlock=Bs q->DW own w4.heap.size (fun q=>V'.ownBlock=Bs q) .shr q=Bs .shr:=fun q d=>Rl (by
  rcases K.2 with e|⟨b',e,hl⟩
  ·exact .inl (f.bm q (by rw[<- e];exact d))
  ·rw[e] at d;injection d with d;exact .inr (by omega)) d
 refine⟨_,⟨Rk u.size (fun q d=>(x.lt q d).2),⟨{ v with Vr:=V' },Z,f.msgs,fun q d=>(y q (f.nt.av d)).trans (f.aV q d),f.bf,x,D,u.own f.txr (fun q d hs=>by rcases hs.tag (f.bh q d) with e|e <;> cases e),fun q d=>(y q (f.txr.lt q d).2).trans (f.bh q d),(y _ f.nt.ah.lt).trans f.gt⟩,fun s hs=>?_,fun s j hs W=>?_,fun i S Y=>?_⟩,fun b R=>?_,Qc (by simp),u⟩
 ·have hs:s<H.c+1:=hs;show Qi _ _ H.n s (Ae P.gs H.c gs s) (Ae P.gn H.c gn s) (H.sh s);by_cases e:s=H.c
  ·subst e;rw[Ay,Ay,X];exact G.aJ u y (fun t E a=>by rcases E with h|h|h|h|h <;> subst h <;> rcases a with h|h <;> cases h)
  ·rw[AF e,AF e];exact(h.sh s (by omega)).aJ u y (fun t E a=>by rcases E with h|h|h|h|h <;> subst h <;> rcases a with h|h <;> cases h)
 ·have hs:s<H.c+1:=hs;show S5 _ _ (.nd s j) (Ae P.gn H.c gn s j) ((H.sh s).nd j);by_cases e:s=H.c
  ·subst e;rw[Ay,X];exact(I j W).aJ u y (fun a=>by rcases a with h|h <;> cases h)
  ·rw[AF e];exact(h.nd s j (by omega) W).aJ u y (fun a=>by rcases a with h|h <;> cases h)
 ·exact(h.tx i S Y).aJ u y (fun a=>by rcases a with h|h <;> cases h) (fun a=>by rcases a with h|h <;> cases h)
 ·unfold DW at R;split at R
  ·exact .inl R
  ·exact .inr (by omega)
theorem HI.addSh (h:HI w own P H) (p:Ek w4 w.heap.size H.c bd gs H.n V gn) (d:VJ w.heap.size w w4) (A:H.sh H.c=CL H.c)
  {v:KO} (u:En w own P H.c H.m H.net H.ae v) {V':Hi} (y:Aq w4 w5 v.Vr.ownBlock V'.ownBlock)
  (x:w5.ownsRow 0 80 1 V' (H.c+1) (((Wu H.c).map fun s=>pw (P.gs s))++[pw gs])) :
  ∃ own',HI (w5.setCell ⟨P.g,3,B0⟩ V') own' { P with gs:=Ae P.gs H.c gs,gn:=Ae P.gn H.c gn } { H with c:=H.c+1 }/\(∀ b,own' b≠B0->own b≠B0\/w.heap.size<=b)/\(∀ b i,own' b=Bs (.sm i)->own b=Bs (.sm i)):=by
 have t:Ext own (BG own w.heap.size H.c bd gs H.n V gn) w.heap.size:=FL;have D:=h.grown (own':=BG own w.heap.size H.c bd gs H.n V gn) d t (p.own_lt (fun b a=>VH (h.lt b a) d.size));have f:En w4 (BG own w.heap.size H.c bd gs H.n V gn) P H.c H.m H.net H.ae v:=u.aJ (q5t own d) t (fun _ _ h=>h);obtain⟨own',I,G,E,_⟩:=D.pushSh ⟨_,p.shI⟩ (fun j z=>p.ndC z) A f y x;refine⟨own',I,fun b a=>?_,fun b i e=>Ek.sm b i (E b i e)⟩;rcases G b a with h|h
 ·by_cases e:b<w.heap.size
  ·rw[FL b e] at h;exact .inl h
  ·exact .inr (by omega)
 ·exact .inr (VO d.size h)
theorem hs_new (w:B1) (n:Nat) (P:Aw) (p:P.g=w.heap.size):HI (w.alloc (.cells #[.slice B0 0 0,.map B0,.int .i64 0,.slice B0 0 0,.slice B0 0 0,.int .i64 0] 92)) (fun b=>if b=w.heap.size then Bs .hs else B0) P (hsE n):=by
 have d:=Ab.new w 92 #[.slice B0 0 0,.map B0,.int .i64 0,.slice B0 0 0,.slice B0 0 0,.int .i64 0];rw[<- p] at d ⊢;refine⟨fun b a=>?_,⟨⟨.slice B0 0 0,B0,[],0,.slice B0 0 0,.slice B0 0 0⟩,⟨d,rfl,rfl,rfl,VY _ _ _ _,fun x c=>(by cases c),fun i=>rfl,VK _,⟨by decide,by decide⟩,VK _⟩,rfl,fun b a=>?_,fun x c=>(by cases c),VY _ _ _ _,fun b a=>(by cases a),VY _ _ _ _,fun b a=>(by cases a),if_pos rfl⟩,fun s hs=>absurd hs (by show ¬s<0;omega),fun s j hs=>absurd hs (by show ¬s<0;omega),fun i t f=>absurd f (by show ¬i<=0;omega)⟩
 ·by_cases e:b=P.g
  ·rw[e];exact d.lt
  ·rw[if_neg e] at a;exact absurd rfl a
 ·rcases a with h|h|⟨x,c,_⟩
  ·cases h
  ·cases h
  ·cases c
end
theorem Rw:(Tryz.prog.info? 80).map (fun i=>(i.zero,i.size,i.bytes))=Bs (Bs (.pointer B0),1,8):=by kernel_rfl
def S4 (n g:Nat) (w:B1) (v:Hi) (wr:B1):Prop:=
 ∃ (q:Nat) (P:Aw) (own:Ai),v=.int .i64 q/\q<=3/\P.g=g/\HI wr own P (BH n q)/\El own/\VJ w.heap.size w wr/\∀ b,own b≠B0->w.heap.size<=b
def S3 (n q bd gs:Nat) (a:B1) (v:Hi) (wr:B1):Prop:=
 ∃ (i:Nat) (V:Hi) (gn:Nat->Nat),v=.int .i64 i/\i<=n/\Ek wr bd q bd gs i V gn/\VJ bd a wr
def Vy (n:Nat) (w:B1) (e:Ending) (w':B1):Prop:=
 ∃ (P:Aw) (own:Ai),e=.returned (.tuple #[pw P.g,.nilIface])/\HI w' own P (BD n)/\El own/\VJ w.heap.size w w'/\w.heap.size<=P.g/\∀ b,own b≠B0->w.heap.size<=b
theorem Ek.grow {w w':B1} {B q bd gs i:Nat} {V V':Hi} {gn:Nat->Nat} {c:Nat} (h:Ek w B q bd gs i V gn) (u:Fr (fun k=>k=gs\/V.ownBlock=Bs k) w w') (a:Ab w' gs 105 (FC (nwV V' bd) (CL q)))
  (z:w'.ownsRow (gs+1) 108 1 V' (i+1) (((Wu i).map fun j=>pw (gn j))++[pw c])) (A:BI w' 0 c (.slice B0 0 0) (.slice B0 0 0) [] (nd0 (10*q+i))) (E:gs<c) (D:∀ j,j<i->gn j<c) :
  Ek w' B q bd gs (i+1) V' (Ae gn i c):=by
 have f:∀ j,j<i->¬(gn j=gs\/V.ownBlock=Bs (gn j)):=fun j t e=>by
  obtain⟨p,v⟩:=h.nd j t;rcases e with e|e
  ·omega
  ·exact Be h.row p.ah (by decide) e
 refine⟨h.lo,a,h.map.fr u (fun e=>?_),?_,fun j t=>?_,fun j k d G=>?_⟩
 ·have:=h.lo;rcases e with e|e
  ·omega
  ·have:=(h.row.lt _ e).1;omega
 ·have e:(Wu (i+1)).map (fun j=>pw (Ae gn i c j))=((Wu i).map fun j=>pw (gn j))++[pw c]:=by
   rw[Yz,Xe];congr 1
   ·apply Yq;intro s hs;rw[List.mem_range] at hs;rw[AF (by omega)]
   ·rw[Xt,X8,Ay]
  rw[e];exact z
 ·by_cases e:j=i
  ·subst e;rw[Ay];exact⟨A,E⟩
  ·rw[AF e];obtain⟨p,v⟩:=h.nd j (by omega);exact⟨p.fr u (fun b a=>by
    rcases a with rfl|a|a|⟨x,y,_⟩
    ·exact f j (by omega)
    ·cases a
    ·cases a
    ·cases y),v⟩
 ·by_cases e:k=i
  ·subst e;rw[Ay,AF (by omega)];exact D j d
  ·rw[AF e,AF (by omega)];exact h.inc j k d (by omega)
theorem RR {n q:Nat} {H:Hs} (h:Gp n q H):∀ j∈(H.cc.sh q).aj H.cc.n,((H.cc.sh q).nd j).ab<Xa ((H.cc.sh q).ab+1):=fun j _=>by
 show((H.sh q).nd j).ab<Xa ((H.sh q).ab+1);rw[h.new q (L1 _)];show(0:Int)<Xa (0+1);rw[Xq (0+1) ⟨by omega,by omega⟩];omega
section
variable {w:B1}
theorem FN (n:Nat) (h1:1<=n) (h4:n<=4):VX Tryz.prog 20 #[.int .i64 2,.int .i64 n] w (Vy n w):=by
 have bq:=@run_makeMap Tryz.prog;have bg:=LH (q49 h4);have aZ:=LH (hs_new w n ⟨w.heap.size,fun _=>0,fun _ _=>0,fun _=>0⟩ rfl);have b7:¬(n:Int)<1:=by omega
 have aJ:¬(4:Int)<n:=by omega
 have b9:decide ((n:Int)<1)=Jx:=decide_eq_false b7;have b8:decide ((4:Int)<n)=Jx:=decide_eq_false aJ;have aE:S4 n w.heap.size w (.int .i64 0) (w.alloc (.cells #[.slice B0 0 0,.map B0,.int .i64 0,.slice B0 0 0,.slice B0 0 0,.int .i64 0] 92)):=
  ⟨0,_,_,rfl,VK _,rfl,aZ.o,fun b i e=>by dsimp only at e;split at e <;> simp at e,(S2 _ _).alloc (L1 _) _,fun b D=>by
   by_cases e:b=w.heap.size
   ·omega
   ·rw[if_neg e] at D;exact absurd rfl D⟩
 have aY:=LH aE;clear aE aZ;go_enter Tryz.func20,Tryz.ntmps20;go_wp2_with fail;clear b9 b8 aJ;generalize bu:w.heap.size=g at aY ⊢;go_loopw [29] (S4 n g w) (fun v _=>3-(intOf v).toNat)
 case atStart=>exact aY.o
 case round=>
  obtain⟨q,P,own,rfl,hq,ah,hI,aa,af,ac⟩:=hrel;by_cases br:(q:Int)<3
  ·have b6:q<3:=by omega
   obtain⟨c,_⟩:=bg.o q (by omega);have aL:BH n (q+1)=(BH n q).cc.fix q:=by
    show(BH n q).more=_;rw[q7q,c.c]
   have bf:=LH aL;have bh:=LH (RR c);have aC:Wf (BH n q).cc:=c.wf.cc (by rw[c.c];exact b6) (c.new _ (by rw[c.c];exact L1 _));have bb:=LH aC;have aW:(BH n q).sh (BH n q).c=CL (BH n q).c:=c.new _ (by rw[c.c];exact L1 _);have bk:=LH aW;have X:=c.c;have ba:=c.n;clear c aL aC aW;generalize BH n q=H at *;obtain⟨vh,a9⟩:=hI.hs;have K:=LH a9;obtain⟨_,k3,_,_,kl⟩:=a9.cells;have kf:=a9.nt.ah.frozen 3;rw[ah] at k3 kl kf;have bj:=LH hI;have bc:=LH aa;have Z:=LH af;have bi:=LH ac;have Y:=LH ah;have aN:Aa BC (wr.alloc (.map #[] 0)) wr.heap.size 100 (TG fun _=>Jx):=(Aa.made BC wr).mono (VK 100);have aK:Ek ((wr.alloc (.map #[] 0)).alloc (.cells #[.slice B0 0 0,.map (Bs wr.heap.size),.int .i64 0,.int .i64 0,.map B0,.map B0,.int .i64 0,.int .i64 0] 105)) wr.heap.size q wr.heap.size (wr.heap.size+1) 0 (.slice B0 0 0) (fun _=>0):=by
    refine⟨⟨L1 _,Nat.lt_succ_self _⟩,?_,aN.alloc _,VY _ _ _ _,fun j hj=>absurd hj (by omega),fun j k _ hk=>absurd hk (by omega)⟩;have:=Ab.new (wr.alloc (.map #[] 0)) 105 #[.slice B0 0 0,.map (Bs wr.heap.size),.int .i64 0,.int .i64 0,.map B0,.map B0,.int .i64 0,.int .i64 0];rw[show(wr.alloc (.map #[] 0)).heap.size=wr.heap.size+1 by simp] at this;exact this
   have aS:VJ wr.heap.size wr ((wr.alloc (.map #[] 0)).alloc (.cells #[.slice B0 0 0,.map (Bs wr.heap.size),.int .i64 0,.int .i64 0,.map B0,.map B0,.int .i64 0,.int .i64 0] 105)):=((S2 _ _).alloc (L1 _) _).alloc (by simp) _;have a7:=LH (show S3 n q wr.heap.size (wr.heap.size+1) wr (.int .i64 0) _ from⟨0,_,_,rfl,VK _,aK,aS⟩);clear hI aa af ac a9 aN aK aS;rename B1=>Wb
   go_wp2_with fail;generalize aO:Wb.heap.size=bd at a7 ⊢;have a0:=LH aO;clear aO;generalize am:bd+1=gs at a7 ⊢;have bv:=LH am;clear am;go_loopw [36] (S3 n q bd gs Wb) (fun v _=>n-(intOf v).toNat)
   case atStart=>exact a7.o
   case round=>
    obtain⟨i,V,gn,rfl,hi,O,E⟩:=hrel;by_cases bl:(i:Int)<n
    ·have bt:i<=4:=by omega
     have a:=LH O;have a8:=LH E;obtain⟨A6,c6,rfl,_,_⟩:=AK O.row;have d:=O.ah.cell 0;have ae:=O.ah.lt;unfold FC nwV at d;simp only[Ft,D0] at d;have bp:IntKind.i64.wrap (10*(q:Int))=10*(q:Int):=V8 _ ⟨by omega,by omega⟩;have bo:IntKind.i64.wrap (10*(q:Int)+i)=10*(q:Int)+i:=V8 _ ⟨by omega,by omega⟩;have aq:=LH (UF 0 (10*(q:Int)+i) wr.drew (VK _));clear O E;go_upto_region 11 with (fail)
     refine nW ?_;refine CU (fun W=>W.cell? ⟨gs,0,B0⟩=Bs (.slice A6 i c6)/\gs<W.heap.size) 12 (fun _ _ _ _ _ h=>h) (fun t=>?_);have u:wr.drew.cell? ⟨gs,0,B0⟩=Bs (.slice A6 i c6)/\gs<wr.drew.heap.size:=⟨d,ae⟩
     refine nD 0 [12,13,14] t u ?_;refine nD 1 [2,3,4,11,12,13,14] t u ?_;refine nD 2 [3,4,11,12,13,14] t u ?_;refine nD 3 [4,11,12,13,14] t u ?_;refine nA 4 [11,12,13,14] rfl rfl t u (fun w' b4=>by obtain⟨p1,pl⟩:=b4;go_simp;rfl) ?_;refine nD 5 [6,8,9,10,11,12,13,14] t u ?_;refine nD 6 [8,9,10,11,12,13,14] t u ?_;refine nD 7 [8,9,10,11,12,13,14] t u ?_;refine nD 8 [9,10,11,12,13,14] t u ?_;refine nG 9 (fun KK I=>?_);go_simp;refine aq.o.mono ?_;rintro e w3 ⟨rfl,aH,aR,b5⟩;have G:VJ wr.heap.size wr w3:=(S2 wr (B:=wr.heap.size)).drew.trans aR;have C3:=LH (show w3.cell? ⟨gs,0,B0⟩=Bs (.slice A6 i c6)/\gs<w3.heap.size from⟨(G.cell (p:=⟨gs,0,B0⟩) ae).trans d,VH ae G.size⟩);have b1:=LH aH;have b2:=LH G;have ax:=LH ((DV G).own a.o.row (fun b D hs=>by have:=(a.o.row.lt b D).2;omega));have b3:wr.drew.heap.size=wr.heap.size:=rfl;rw[b3] at b1;clear aH aR G d ae aq b5;go_simp;refine I _ _ (fun _=>C3.o) ?_;clear I KK u;refine nG 10 (fun KK I=>?_);go_simp;refine I _ _ (fun _=>⟨(WY w3 _ ⟨gs,0,B0⟩ C3.o.2).trans C3.o.1,by have:=C3.o.2;simp;omega⟩) ?_;clear I KK;refine nG 11 (fun KK I=>?_);have aD:gs+1<=w3.heap.size:=C3.o.2;have aF:i+1<=VZ/\(i+1)*8<=140737488355328:=⟨by unfold VZ;omega,by omega⟩
     refine TE w3 w3.heap.size rfl _ (.tmp 43) (.tmp 49) 97 rfl (gs+1) 108 (.pointer B0) 1 8 Tryz.underlying97 Jc rfl (by decide) _ _ _ #[pw wr.heap.size] rfl ax.o 1 rfl _ rfl rfl (by simp[Wy,pw]) aF.1 aF.2 aD ?_;intro J w8 z ab;have a2:¬Bs gs=(WI A6 i c6).ownBlock:=fun e=>by have:=(a.o.row.lt gs e.symm).1;omega
     have aI:¬Bs wr.heap.size=(WI A6 i c6).ownBlock:=fun e=>by have:=(a.o.row.lt _ e.symm).2;omega
     have a5:=(DV b2.o).ah a.o.ah (by have:=a.o.ah.lt;omega);have f:=ab.1.ah a5 a2;have y0:=f.cell 0;have yf:=f.frozen 0;have yl:=f.lt;unfold FC nwV at y0;simp only[Ft,D0] at y0;have R:=Fr.ax gs w8 0 J;have ar:Fr (fun k=>k=gs\/(WI A6 i c6).ownBlock=Bs k) wr (w8.setCell ⟨gs,0,B0⟩ J):=
      (((DV b2.o).mono (T:=fun k=>k=gs\/(WI A6 i c6).ownBlock=Bs k) (fun k hk hs=>absurd hs (by omega))).trans' ab.1 (fun k _ e=>.inr e.symm)).trans' R (fun k _ e=>.inl e)
     have a4:Ab (w8.setCell ⟨gs,0,B0⟩ J) gs 105 (FC (nwV J bd) (CL q)):=by simpa [FC,nwV] using f.aC 0 J
     have ak:BI (w8.setCell ⟨gs,0,B0⟩ J) 0 wr.heap.size (.slice B0 0 0) (.slice B0 0 0) [] (nd0 (10*q+i)):=by
      have aG:∀ b,CJ wr.heap.size (.slice B0 0 0) (.slice B0 0 0) [] b->b=wr.heap.size:=fun b D=>by
       rcases D with h|h|h|⟨x,hx,_⟩
       ·exact h
       ·cases h
       ·cases h
       ·cases hx
      exact(b1.o.fr ab.1 (fun b D e=>aI (by rw[aG b D] at e;exact e))).fr R (fun b D e=>by have:=aG b D;have:=a.o.ah.lt;omega)
     have a1:=R.own z (fun b D e=>by have:=(z.lt b D).1;omega);have an:Ek (w8.setCell ⟨gs,0,B0⟩ J) bd q bd gs (i+1) J (Ae gn i wr.heap.size):=
      a.o.grow ar a4 a1 ak a.o.ah.lt (fun j hj=>(a.o.nd j hj).1.ah.lt)
     have ao:VJ bd wr (w8.setCell ⟨gs,0,B0⟩ J):=ar.below (fun k hk=>by
      have:=a.o.lo;rcases hk with e|e
      ·omega
      ·have:=(a.o.row.lt k e).1;omega) (by have:=a.o.map.lt;omega)
     have aw:=LH (show S3 n q bd gs Wb (.int .i64 ((i+1:Nat):Int)) (w8.setCell ⟨gs,0,B0⟩ J) from⟨i+1,J,_,rfl,by omega,an,a8.o.trans ao⟩);obtain⟨A9,c9,rfl,_,_⟩:=AK z;have C8:=LH (show w8.cell? ⟨gs,0,B0⟩=Bs (.slice A6 i c6)/\gs<w8.heap.size from⟨y0,yl⟩);clear an ao a1 ak a4 ar R f a5 a2 aI z ab;go_simp;refine I _ _ (fun _=>C8.o) ?_;clear I KK;refine nG 12 (fun KK I=>?_);go_simp;refine I _ _ nZ ?_;clear I KK;refine nG 13 (fun KK I=>?_);go_simp;refine I _ _ nZ ?_;clear I KK;refine nG 14 (fun KK I=>?_);go_simp;refine I _ _ nZ ?_;clear I KK;refine nX ?_;clear t y0 yf yl;go_wp2_with fail;go_roundw
     ·exact aw.o
     ·simp[intOf];omega
    ·obtain rfl:n=i:=by omega
     have a6:∀ b,own b≠B0->w.heap.size<=b:=bi.o;have y:=K.o.shr;obtain⟨A7,c7,au,_,_⟩:=AK y;have A:=(DV E).own y (fun b D hs=>by have:=(y.lt b D).2;have:=a0.o;omega);rw[au] at A k3;rw[X] at A k3;have bn:=(E.cell (p:=⟨g,3,B0⟩) (by have:=a0.o;have:=Y.o;show g<bd;omega)).trans k3;have bm:=VH kl E.size;have a3:=(DV E).ah K.o.nt.ah (by have:=K.o.nt.ah.lt;have:=a0.o;omega);have ay:=LH a3;have a:=LH O;have a8:=LH E;have ax:=LH A;have aX:=LH au;clear y A a3 O E au k3 kl kf;go_wp2_with (at_builtin;refine stop ?_)
     refine Cn ?_;refine Nf wr _ rfl (.tmp 58) (.tmp 60) 89 rfl 0 80 (.pointer B0) 1 8 Tryz.underlying89 Rw rfl (by decide) _ _ _ #[pw gs] rfl ax.o 1 rfl _ rfl rfl (by simp[Wy,pw]) (by unfold VZ;omega) (by omega) (VK _) ?_;intro J w6 M aM;have S:Aq wr w6 vh.Vr.ownBlock J.ownBlock:=by rw[aX.o,X];exact aM
     have aT:=bj.o.addSh (w4:=wr) (w5:=w6) (bd:=bd) (gs:=gs) (V:=V) (gn:=gn) (V':=J) (by rw[a0.o,X,ba];exact a.o) (by rw[a0.o];exact a8.o) bk.o K.o S (by rw[X];exact M);obtain⟨ai,av,al,aj⟩:=aT;have a2:¬Bs g=vh.Vr.ownBlock:=fun e=>by have:=K.o.bm g e.symm;rw[<- Y.o,K.o.gt] at this;cases this
     rw[Y.o] at ay;have ad:=S.1.ah ay.o a2;have y1:=ad.frozen 3;have y0:=ad.cell 3;unfold OD at y0;simp only[Ft,D0,N2] at y0;rw[aX.o,X] at y0;have yl:=ad.lt;have aQ:VJ w.heap.size Wb (w6.setCell ⟨g,3,B0⟩ J):=by
      have e1:VJ w.heap.size Wb wr:=a8.o.mono (by have:=a0.o;have:=Z.o.size;omega);have e2:Fr (fun k=>w.heap.size<=k) wr (w6.setCell ⟨g,3,B0⟩ J):=(S.1.mono (T:=fun k=>w.heap.size<=k) (fun k _ e=>a6 k (by rw[K.o.bm k e.symm];simp))).trans' (Fr.ax g w6 3 J) (fun k _ e=>by
       have:=a6 g (by rw[<- Y.o,K.o.gt];simp);omega)
      exact e1.trans (e2.below (fun _ h=>h) (VO Z.o.size a8.o.size))
     have aA:=LH aQ;obtain⟨P7,U⟩:∃ P7:Aw,P7 = { P with gs:=Ae P.gs H.c gs,gn:=Ae P.gn H.c gn }:=⟨_,rfl⟩
     rw[<- U,Y.o] at av;have az:=LH (JU (s:=q) av bb.o (show q<H.c+1 by omega) bh.o);have b0:=LH (show ∀ b,ai b≠B0->w.heap.size<=b from fun b D=>by
      rcases al b D with h|h
      ·exact a6 b h
      ·have:=Z.o.size;omega)
     have be:=LH (show El ai from fun b i e=>bc.o b i (aj b i e));have ap:P7.g=g:=by rw[U];exact Y.o
     have aU:P7.gs q=gs:=by rw[U];show Ae P.gs H.c gs q=gs;rw[X,Ay]
     clear U;rw[ap,aU] at az;obtain⟨A9,c9,rfl,_,_⟩:=AK M;unfold pw at az;clear aM S ad av al aj M aQ a2 ay;go_upto_region 14 with (fail)
     clear y0 y1 yl;generalize (w6.setCell _ _)=w7 at *;go_wp2_with fail;refine az.o.mono ?_;rintro e w8 ⟨rfl,aB,aV,ag⟩;have aP:VJ w.heap.size w7 w8:=ag.fr.below (fun k hk=>b0.o k hk.owned) (VO Z.o.size aA.o.size);have aw:=LH (show S4 n g w (.int .i64 ((q+1:Nat):Int)) w8 from⟨q+1,P7,aB,rfl,by omega,ap,by rw[bf.o];exact aV,ag.cT be.o,(Z.o.trans aA.o).trans aP,fun b D=>by
      by_cases e:b<w7.heap.size
      ·rw[ag.ext b e] at D;exact b0.o b D
      ·have:=aA.o.size;have:=Z.o.size;omega⟩)
     clear aV ag aP;go_wp2_with fail;go_roundw
     ·exact aw.o
     ·simp[intOf];omega
  ·obtain rfl:q=3:=by omega
   have HF:=LH (show Vy n w (.returned (.tuple #[.pointer (Bs ⟨g,0,B0⟩),.nilIface])) wr from⟨P,own,by rw[ah];rfl,hI,aa,af,by rw[ah];omega,ac⟩);clear hI aa af ac;go_wp2_with fail;go_ret2;exact HF.o
end
def AX (a:Int) (n:Nat):Nat:=((a % 18446744073709551616) % n).toNat
theorem Rj (a:Int) {n:Nat} (h:0<n):AX a n<n:=by
 unfold AX;have c:0<=(a % 18446744073709551616) % (n:Int):=Int.emod_nonneg _ (by omega);have b:(a % 18446744073709551616) % (n:Int)<n:=Int.emod_lt_of_pos _ (by omega);omega
theorem q3v (a:Int) (n:Nat) (h:0<n) (d:n<=4611686018427387904) (w:B1):VX Tryz.prog 13 #[.int .i64 a,.int .i64 n] w fun e w'=>e=.returned (.int .i64 (AX a n))/\w=w':=by
 go_enter Tryz.func13,Tryz.ntmps13;go_wp2_with fail;go_ret;refine⟨?_,rfl⟩;have b:IntKind.u64.wrap a=a % 18446744073709551616:=by simp[IntKind.wrap,IntKind.bits,IntKind.signed]
 have c:0<=a % 18446744073709551616:=Int.emod_nonneg _ (by omega);have j:0<=(a % 18446744073709551616) % (n:Int):=Int.emod_nonneg _ (by omega);have f:(a % 18446744073709551616) % (n:Int)<n:=Int.emod_lt_of_pos _ (by omega);have e:Xa ((IntKind.u64.wrap a).tmod n)=(AX a n:Int):=by
  rw[b,Int.tmod_eq_emod_of_nonneg c,Xq _ (by omega)];unfold AX;omega
 show Ending.returned (.int .i64 (Xa ((IntKind.u64.wrap a).tmod n)))=_;rw[e]
section
variable {H H':Hs}
theorem U2 (a:Wf H) (c:H.c=3) (id:Int) {k:Sx} (b:k∈names):DG H (H.get id k).2:=by
 have h:=q3p (id:=id) (mode:=1) a c b (by unfold BW;omega);unfold Hs.get;simp only;split
 ·exact .star h
 ·split <;> exact .star h
theorem Nh (j:Wf H) (u:H.c=3) (id:Int) {p:Pr} (d:sx p.key∈names):DG H (H.put id p).2:=by
 unfold Hs.put;split
 ·exact .star (.refl _)
 ·rename_i E;have h:=q3p (id:=id) (mode:=2) j u d (by unfold BW;omega);have f:Wf (H.lock id (sx p.key) 2).2:=(q5n j u d).1;have t:(H.lock id (sx p.key) 2).1=0->1<=id.toNat/\id.toNat<=(H.lock id (sx p.key) 2).2.m:=fun b=>by
   have z:=(q5n (mode:=2) (id:=id) j u d).2.m;by_cases A:id<1\/H.m<id
   ·rw[q1l A] at b;cases b
   ·rw[z];omega
  simp only;split
  ·exact .star h
  ·rename_i b;have b:(H.lock id (sx p.key) 2).1=0:=by simpa using b
   obtain⟨x,v⟩:=t b;split
   ·rename_i l a;have c:=f.tx _ x v;have y:SO ⟨p.key,if p.gone then⟨#[]⟩ else p.val,p.gone⟩:=by
     refine⟨d,?_⟩;show(if p.gone then(⟨#[]⟩:ByteArray) else p.val).size<=40;split
     ·decide
     ·omega
    have e:l.length<=20/\∀ q∈l,SO q:=by
     unfold BS at a;split at a
     ·injection a with a;subst a;refine⟨by rw[XG];exact c.bf,fun q s=>?_⟩;rcases YS s with g|g
      ·exact c.ps q g
      ·rw[g];exact y
     ·split at a
      ·cases a
      ·rename_i D;injection a with a;subst a;refine⟨by have:=c.bf;simp;omega,fun q s=>?_⟩;rcases List.mem_append.1 s with g|g
       ·exact c.ps q g
       ·rw[List.mem_singleton.1 g];exact y
    exact .write h x v e.1 e.2
   ·exact .star h
theorem U9 {id e:Int} (a:Wf H) (b:H.c=3) (r:Ie H id e H'):DG H H':=by
 cases r with
 | missing=>exact .star (.refl _)
 | state=>exact .star (.refl _)
 | waits=>exact .star (.refl _)
 | ends h d c r=>exact .ends (i:=id.toNat) (by omega) (by omega) d c (q22 r (a.ending (by omega) (by omega)) b)
theorem SB {n:Nat} (a:Wf H) (b:H.c=3) (r:C6 n H H'):DG H H':=.star (qa8 r a b)
end
structure Em (w w1:B1) (own:Ai) (P:Aw) (H:Hs):Prop where
 hi:HI w1 own P H
 ns:El own
 bl:VJ w.heap.size w w1
 lo:∀ b,own b≠B0->w.heap.size<=b
theorem Em.step {Z:Tg->Prop} {w w1 w2:B1} {own own2:Ai} {P P':Aw} {H H':Hs} (k:Em w w1 own P H) (d:HI w2 own2 P' H') (c:HZ Z w1 own w2 own2):Em w w2 own2 P' H':=by
 refine⟨d,c.cT k.ns,k.bl.trans (c.fr.below (fun b a=>k.lo b a.owned) k.bl.size),fun b a=>?_⟩;by_cases e:b<w1.heap.size
 ·rw[c.ext b e] at a;exact k.lo b a
 ·have:=k.bl.size;omega
theorem Em.cq {w w1 w2:B1} {own:Ai} {P:Aw} {H H':Hs} (k:Em w w1 own P H) (h:Ch P own H' w1 w2):∃ own2,Em w w2 own2 P H':=by
 obtain⟨own2,a,b⟩:=h;exact⟨own2,k.step a b⟩
theorem Em.below {w w1 w2:B1} {own:Ai} {P:Aw} {H:Hs} (k:Em w w1 own P H) (a:VJ w1.heap.size w1 w2):Em w w2 own P H:=⟨k.hi.below a,k.ns,k.bl.trans (a.mono k.bl.size),k.lo⟩
theorem Mg:kA∈names:=by decide
def Ic (w:B1) (e:Ending) (w':B1):Prop:=e=.returned (.bool T2)/\VJ w.heap.size w w'
theorem Mn (w:B1):VX Tryz.prog 21 #[] w (Ic w):=by
 obtain⟨a6,J,aj⟩:=Hw (n:=2) (by omega);have HN:=LH (show VX Tryz.prog 20 #[.int .i64 2,.int .i64 2] w (Vy 2 w) from FN (w:=w) 2 (by omega) (by omega));go_enter Tryz.func21,Tryz.ntmps21;go_wp2_with fail;refine HN.o.mono ?_;rintro e w1 ⟨P,own1,rfl,hI,S,hb,hg,U⟩;have K1:Em w w1 own1 P (BD 2):=⟨hI,S,hb,U⟩
 have x:=LH (qac K1.hi (by omega));have ae:=LH K1;have ag:=LH a6;have a8:=LH J;unfold Tn at x;rw[J,show((0+1:Nat):Int)=1 from rfl] at x;clear J aj a6 HN hI S hb hg U K1;unfold pw at *;go_wp2_with fail;refine x.o.mono ?_;rintro e w2 ⟨rfl,b2,own2,a0,Y⟩;have j:Ag (BD 2).begin 4:=(ag.o.act (by omega) (DG.begin (by rw[a8.o];omega)) (D:=fun _=>True) (fun _ _ _ _=>trivial)).1;have K2:=ae.o.step a0 Y;have W:({ P with gt:=Ae P.gt (0+1) b2 } : Aw).g=P.g:=rfl;generalize ({ P with gt:=Ae P.gt (0+1) b2 } : Aw)=P2 at *;have u:=LH (JQ K2.hi j.wf K2.ns j.c 1 kA Mg ⟨#[120]⟩ (by decide) Jx);rw[show(⟨⟨kA.toArray⟩,⟨#[120]⟩,Jx⟩:Pr)=Et from rfl,qbd] at u;have ad:=LH K2;have b:=LH j;unfold Gt pw kA at u;rw[<- W];clear x ag a8 ae a0 Y j K2 W;go_wp2_with fail;refine u.o.mono ?_;rintro e w3 ⟨rfl,a4⟩;obtain⟨ar,K3⟩:=ad.o.cq a4;obtain⟨hs,ak,ai,ah⟩:=qbc;have al:hP.c=3:=b.o.c;have h:Ag hP 7:=by
  have:=(b.o.act (by omega) (Nh (id:=1) (p:=Et) b.o.wf b.o.c (by decide)) (D:=fun _=>True) (fun _ _ _ _=>trivial)).1;rw[qbd] at this;exact this
 have HE:=LH (NF K3.hi h.wf h.c 1);have ac:=LH K3;have G:=LH h;unfold Gs pw at HE;clear u ad b a4 hs ak ai ah al K3 h;simp only[CX,if_pos];go_wp2_with fail;refine HE.o.mono ?_;rintro e w4 ⟨er,H4,rfl,M,a3⟩;obtain⟨rfl,y,hy,I⟩:=Mm M;obtain⟨aq,K4⟩:=ac.o.cq a3;have a:Ag H4 10:=(G.o.act (by omega) (U9 G.o.wf G.o.c M) (D:=fun _=>True) (fun _ _ _ _=>trivial)).1;have HS:=LH (q50 K4.hi (by have:=a.wf.bC;omega) 1);rw[He hy I] at HS;have HC:=LH (Km K4.hi a.wf a.c);have ab:=LH K4;have E:=LH a;have HY:=LH (show qa9 y=T2/\Ah y H4 from⟨hy,I⟩);unfold Tk pw at HC;unfold pw at HS;clear HE ac G M a3 hy I K4 a;simp only[CX,if_pos];go_wp2_with fail;refine HS.o.mono ?_;rintro e w4 ⟨rfl,rfl⟩;go_wp2_with fail;refine HC.o.mono ?_;rintro e w5 ⟨rfl,H5,O,a2,_,_⟩;obtain⟨z,hz,c⟩:=JR HY.o.1 HY.o.2 O;obtain⟨ap,K5⟩:=ab.o.cq a2;have a5:Ag H5 13:=(E.o.act (by omega) (SB E.o.wf E.o.c O) (D:=fun _=>True) (fun _ _ _ _=>trivial)).1;have x:=LH (qac K5.hi (by rw[c.m];omega));have aa:=LH K5;have af:=LH a5;have HZ:=LH (show Ka z=T2/\Ah z H5 from⟨hz,c⟩);unfold Tn pw at x;rw[c.m,show((1+1:Nat):Int)=2 from rfl] at x;clear HC HS ab E HY O a2 hz c K5 a5;go_wp2_with fail;refine x.o.mono ?_;rintro e w6 ⟨rfl,b6,ao,Z,X⟩;have f:Ag H5.begin 16:=(af.o.act (by omega) (DG.begin (by rw[HZ.o.2.m];omega)) (D:=fun _=>True) (fun _ _ _ _=>trivial)).1;have K6:=aa.o.step Z X;have K:({ P2 with gt:=Ae P2.gt (1+1) b6 } : Aw).g=P2.g:=rfl;generalize ({ P2 with gt:=Ae P2.gt (1+1) b6 } : Aw)=P6 at *;have v:=LH (JT K6.hi f.wf K6.ns f.c 2 kA Mg);have a9:=LH K6;have A:=LH f;unfold PV pw kA at v;have d:=Ml HZ.o.1 HZ.o.2;unfold kA at d;rw[K,d.1] at v;have a7:=LH d.2;have am:=LH K;clear x af aa Z X f K6 K d;go_wp2_with fail;refine v.o.mono ?_;rintro e w7 ⟨rfl,a1⟩;obtain⟨an,K7⟩:=a9.o.cq a1;have R:Ag (H5.begin.get 2 [97]).2 19:=(A.o.act (by omega) (U2 A.o.wf A.o.c 2 Mg) (D:=fun _=>True) (fun _ _ _ _=>trivial)).1;have t:=LH (q50 K7.hi (by have:=R.wf.bC;omega) 1);have s:=LH (q50 K7.hi (by have:=R.wf.bC;omega) 2);rw[a7.o.1] at t;rw[a7.o.2] at s;unfold pw at t s;rw[am.o] at t s;have HF:=LH (show Ic w (.returned (.bool T2)) w7 from⟨rfl,K7.bl⟩);clear v a9 A a1 K7 R;simp only[CX,if_pos];go_wp2_with fail;refine t.o.mono ?_;rintro e w7 ⟨rfl,rfl⟩;go_wp2_with fail;refine s.o.mono ?_;rintro e w7 ⟨rfl,rfl⟩;go_wp2_with fail;go_ret;exact HF.o
structure C4 where
 ag:Int
 key:ByteArray
 val:ByteArray
 found:Bool
structure AI where
 ops:List C4
 from_:Int
 a4:Int
abbrev Mp:=ByteArray->Option ByteArray
def Mp.empty:Mp:=fun _=>B0
def Mp.set (m:Mp) (k:ByteArray) (v:Option ByteArray):Mp:=fun x=>if x=k then v else m x
def Co (m:Mp) (o:C4):Prop:=(m o.key).isSome=o.found/\∀ v,m o.key=Bs v->v=o.val
instance (m:Mp) (o:C4):Decidable (Co m o):=by
 unfold Co;rcases h:m o.key with _|v
 ·exact decidable_of_iff ((B0:Option ByteArray).isSome=o.found) ⟨fun h=>⟨h,fun v e=>by cases e⟩,fun h=>h.1⟩
 ·exact decidable_of_iff (T2=o.found/\v=o.val) ⟨fun h=>⟨h.1,fun u e=>by injection e with e;rw[<- e];exact h.2⟩,fun h=>⟨h.1,h.2 v rfl⟩⟩
def Fa (m:Mp) (o:C4):Option Mp:=
 if o.ag=1 then(if Co m o then Bs m else B0) else if o.ag=2 then Bs (m.set o.key (Bs o.val)) else if o.ag=3 then Bs (m.set o.key B0) else Bs m
def DH (m:Mp):List C4->Option Mp
 | []=>Bs m
 | o::l=>(Fa m o).bind fun a=>DH a l
theorem q1m (m:Mp) (a b:List C4):DH m (a++b)=(DH m a).bind fun c=>DH c b:=by
 induction a generalizing m with
 | nil=>rfl
 | cons o a d=>
  simp only[XL,DH];rcases Fa m o with _|c
  ·rfl
  ·exact d c
section
variable (l:List AI)
def De (i:Nat):Int:=(l[i]?.map (·.a4)).getD (-1)
def BM (i:Nat):Int:=(l[i]?.map (·.from_)).getD 0
def Bv (i:Nat):List C4:=(l[i]?.map (·.ops)).getD []
def LS (order:List Nat) (i:Nat):Prop:=∀ k,k<l.length->k≠i->k ∉ order->¬(0<=De l k/\De l k<BM l i)
def Dl (order:List Nat):Prop:=∀ k,k<l.length->0<=De l k->k∈order
instance (order:List Nat) (i:Nat):Decidable (LS l order i):=by unfold LS;exact inferInstance
instance (order:List Nat):Decidable (Dl l order):=by unfold Dl;exact inferInstance
def DJ:Nat->List Nat->Mp->Option (List Nat)
 | 0,order,_=>if Dl l order then Bs order else B0
 | f+1,order,m=>if Dl l order then Bs order else
   (Wu l.length).findSome? fun i=>if i∈order\/¬LS l order i then B0 else(DH m (Bv l i)).bind fun a=>DJ f (order++[i]) a
def Bn (order:List Nat) (k:Nat):Nat:=if k∈order then order.idxOf k+1 else 0
def BP (order:List Nat):Prop:=
 order.Nodup/\(∀ k∈order,k<l.length)/\(∀ i,i<l.length->(0<=De l i->i∈order)/\∀ k,k<l.length->¬(0<=De l i/\De l i<BM l k/\0<Bn order k/\Bn order k<Bn order i))/\
  (DH Mp.empty (order.flatMap (Bv l))).isSome=T2
def DN (order:List Nat):List AI:=l.mapIdx fun i t=>if i ∉ order/\0<=t.a4 then { t with a4:=-1 } else t
def Ii (order:List Nat):Prop:=(∀ i,i<l.length->i ∉ order->0<=De l i->∀ k∈order,¬De l i<BM l k)/\BP (DN l order) order
instance (order:List Nat):Decidable (BP l order):=by unfold BP;exact inferInstance
instance (order:List Nat):Decidable (Ii l order):=by unfold Ii;exact inferInstance
def B9:Nat->List Nat->Option (List Nat)
 | 0,order=>if BP l order then Bs order else B0
 | f+1,order=>if BP l order then Bs order else
   (Wu l.length).findSome? fun i=>if i∈order\/¬Ii l (order++[i]) then B0 else B9 f (order++[i])
structure EK (order:List Nat) (m:Mp):Prop where
 nodup:order.Nodup
 lt:∀ k∈order,k<l.length
 pairs:∀ i∈order,∀ k∈order,order.idxOf k<order.idxOf i->¬(0<=De l i/\De l i<BM l k)
 rest:∀ i,i<l.length->i ∉ order->0<=De l i->∀ k∈order,¬De l i<BM l k
 cS:DH Mp.empty (order.flatMap (Bv l))=Bs m
end
section
variable {l:List AI} {order:List Nat} {m:Mp}
theorem EK.nil:EK l [] Mp.empty:=⟨List.nodup_nil,by simp,by simp,by simp,rfl⟩
theorem q8b {k:Nat} : 0<Bn order k↔k∈order:=by unfold Bn;split <;> simp_all
theorem Ni {i k:Nat} (b:k∈order):Bn order k<Bn order i↔i∈order/\order.idxOf k<order.idxOf i:=by
 unfold Bn;rw[if_pos b];by_cases a:i∈order
 ·rw[if_pos a];simp[a]
 ·rw[if_neg a];simp[a]
theorem EK.fits (h:EK l order m):BP l order↔Dl l order:=by
 constructor
 ·intro f k d c;exact(f.2.2.1 k d).1 c
 ·intro j;refine⟨h.nodup,h.lt,fun i e=>⟨j i e,fun k d ⟨c,u,t,s⟩=>?_⟩,by rw[h.cS];rfl⟩;have a:=q8b.1 t;obtain⟨b,p⟩:=(Ni a).1 s;exact h.pairs i b k a p ⟨c,u⟩
theorem Kj:(DN l order).length=l.length:=by unfold DN;simp
theorem PM (i:Nat):BM (DN l order) i=BM l i:=by
 unfold BM DN;rw[V5];rcases l[i]? with _|t
 ·rfl
 ·simp;split <;> rfl
theorem Ki (i:Nat):Bv (DN l order) i=Bv l i:=by
 unfold Bv DN;rw[V5];rcases l[i]? with _|t
 ·rfl
 ·simp;split <;> rfl
theorem Vg (i:Nat):De (DN l order) i=if i ∉ order/\0<=De l i then -1 else De l i:=by
 unfold De DN;rw[V5];rcases l[i]? with _|t
 ·simp
 ·simp;split <;> rfl
theorem q33 {i k:Nat} (h:k∈order):(order++[i]).idxOf k=order.idxOf k:=by
 rw[Y8];rw[if_pos h]
theorem q40 {i:Nat} (h:i ∉ order):(order++[i]).idxOf i=order.length:=by
 rw[Y8];rw[if_neg h];simp
theorem q84 (i:Nat):(order++[i]).flatMap (Bv l)=order.flatMap (Bv l)++Bv l i:=by simp
theorem EK.step (h:EK l order m) {i:Nat} (y:i<l.length) (s:i ∉ order) (A:LS l order i) {x:Mp} (z:DH m (Bv l i)=Bs x):EK l (order++[i]) x:=by
 refine⟨?_,?_,?_,?_,?_⟩
 ·rw[List.nodup_append];exact⟨h.nodup,by simp,fun a d b D=>by rw[List.mem_singleton.1 D];exact fun e=>s (e▸d)⟩
 ·intro k c;rcases List.mem_append.1 c with c|c
  ·exact h.lt k c
  ·rw[List.mem_singleton.1 c];exact y
 ·intro a d k c f;rcases List.mem_append.1 c with c|c
  ·rcases List.mem_append.1 d with d|d
   ·rw[q33 c,q33 d] at f;exact h.pairs a d k c f
   ·rw[List.mem_singleton.1 d];exact fun⟨t,v⟩=>h.rest i y s t k c v
  ·exfalso;rw[List.mem_singleton.1 c,q40 s] at f;rcases List.mem_append.1 d with d|d
   ·rw[q33 d] at f;have:=List.idxOf_lt_length_of_mem d;omega
   ·rw[List.mem_singleton.1 d,q40 s] at f;omega
 ·intro a d p t k c;have j:a ∉ order:=fun e=>p (List.mem_append_left _ e)
  have u:a≠i:=fun e=>p (by rw[e];simp)
  rcases List.mem_append.1 c with c|c
  ·exact h.rest a d j t k c
  ·rw[List.mem_singleton.1 c];exact fun v=>A a d u j ⟨t,v⟩
 ·rw[q84,q1m,h.cS];exact z
theorem EK.cP (h:EK l order m) {i:Nat} (A:i<l.length) (z:i ∉ order):Ii l (order++[i])↔LS l order i/\(DH m (Bv l i)).isSome=T2:=by
 constructor
 ·rintro ⟨y,v⟩;refine⟨fun k f t s ⟨c,p⟩=>y k f (by simp[s,t]) c i (by simp) p,?_⟩;have:=v.2.2.2;rw[show(order++[i]).flatMap (Bv (DN l (order++[i])))=(order++[i]).flatMap (Bv l) from by
   congr 1;funext x;exact Ki x] at this
  rw[q84,q1m,h.cS] at this;exact this
 ·rintro ⟨y,v⟩;obtain⟨J,u⟩:=Option.isSome_iff_exists.1 v;have hs:=h.step A z y u;refine⟨hs.rest,hs.nodup,fun k f=>by rw[Kj];exact hs.lt k f,fun a D=>?_,?_⟩
  ·rw[Kj] at D ⊢;rw[Vg];refine⟨fun c=>?_,fun k f=>?_⟩
   ·split at c
    ·omega
    ·rename_i j;simp only[not_and,Int.not_le] at j;rcases Decidable.em (a∈order++[i]) with b|b
     ·exact b
     ·have:=j b;omega
   ·rw[PM];rintro ⟨c,p,I,G⟩;have d:=q8b.1 I;obtain⟨e,E⟩:=(Ni d).1 G;rw[if_neg (by simp only[not_and];intro j;exact absurd e j)] at c p;exact hs.pairs a e k d E ⟨c,p⟩
  ·rw[show(order++[i]).flatMap (Bv (DN l (order++[i])))=(order++[i]).flatMap (Bv l) from by
    congr 1;funext x;exact Ki x,hs.cS]
   rfl
theorem q5w {α β:Type} {f g:α->Option β} : ∀ {r:List α},(∀ x∈r,f x=g x)->r.findSome? f=r.findSome? g
 | [],_=>rfl
 | x::r,h=>by
  rw[List.findSome?_cons,List.findSome?_cons,h x (VL ..),q5w (r:=r) (fun y a=>h y (VM _ a))]
theorem Iz:∀ (f:Nat) (order:List Nat) (m:Mp),EK l order m->DJ l f order m=B9 l f order
 | 0,order,m,h=>by
  unfold DJ B9;by_cases b:Dl l order
  ·rw[if_pos b,if_pos (h.fits.2 b)]
  ·rw[if_neg b,if_neg (fun e=>b (h.fits.1 e))]
 | f+1,order,m,h=>by
  unfold DJ B9;by_cases b:Dl l order
  ·rw[if_pos b,if_pos (h.fits.2 b)]
  ·rw[if_neg b,if_neg (fun e=>b (h.fits.1 e))];refine q5w fun i d=>?_
   have d:=List.mem_range.1 d;by_cases a:i∈order
   ·rw[if_pos (.inl a),if_pos (.inl a)]
   ·by_cases hs:Ii l (order++[i])
    ·obtain⟨s,v⟩:=(h.cP d a).1 hs;obtain⟨p,c⟩:=Option.isSome_iff_exists.1 v;rw[if_neg (by simp[a,s]),if_neg (by simp[a,hs]),c];exact Iz f _ p (h.step d a s c)
    ·have t:(if i∈order\/¬Ii l (order++[i]) then B0 else B9 l f (order++[i]))=B0:=if_pos (.inr hs);rw[t];by_cases j:LS l order i
     ·rw[if_neg (by simp[a,j])];rcases u:DH m (Bv l i) with _|p
      ·rfl
      ·exact absurd ((h.cP d a).2 ⟨j,by rw[u];rfl⟩) hs
     ·rw[if_pos (.inr j)]
theorem I3 (l:List AI):DJ l l.length [] Mp.empty=B9 l l.length []:=Iz _ _ _ EK.nil
def WayP (l:List AI):List Nat->Mp->List Nat->Prop
 | order,_,[]=>Dl l order
 | order,m,i::r=>i<l.length/\i ∉ order/\LS l order i/\∃ a,DH m (Bv l i)=Bs a/\WayP l (order++[i]) a r
theorem qap:∀ (r:List Nat) (f:Nat) (order:List Nat) (m:Mp),r.length<=f->WayP l order m r->(DJ l f order m).isSome=T2
 | [],f,order,m,_,h=>by
  have h:Dl l order:=h;cases f <;> (unfold DJ;rw[if_pos h];rfl)
 | i::r,0,order,m,hf,h=>by simp at hf
 | i::r,f+1,order,m,hf,h=>by
  obtain⟨p,e,j,b,d,c⟩:=h;unfold DJ;by_cases a:Dl l order
  ·rw[if_pos a];rfl
  ·rw[if_neg a];rw[List.isSome_findSome?,List.any_eq_true];refine⟨i,List.mem_range.2 p,?_⟩;rw[if_neg (by simp[e,j]),d];exact qap r f _ b (by simpa using hf) c
end
structure CI where
 t:AI
 V:Hi
def q62 (o:C4):List Hi:=[.int .i64 o.ag,.string o.key,.string o.val,.bool o.found]
def Ij (x:CI):List Hi:=[x.V,.int .i64 x.t.from_,.int .i64 x.t.a4]
theorem GJ:(Tryz.prog.info? 52).map (fun i=>(i.zero,i.size,i.bytes))=Bs (Bs (.agg #[.slice B0 0 0,.int .i64 0,.int .i64 0]),3,40):=by kernel_rfl
theorem M9:(Tryz.prog.info? 56).map (fun i=>(i.zero,i.size,i.bytes))=Bs (Bs (.agg #[.int .i64 0,.string ⟨#[]⟩,.string ⟨#[]⟩,.bool Jx]),4,48):=by kernel_rfl
structure B7 (w:B1) (g gh:Nat) (V:Hi) (L:List CI) (now:Int) (safe:Bool) (nodes:Int) (B:Nat):Prop where
 ah:Ab w g 37 #[pw gh,V,.int .i64 now,.bool safe,.int .i64 nodes]
 row:w.ownsRow 0 52 3 V L.length (L.flatMap Ij)
 ops:∀ x∈L,w.ownsRow 0 56 4 x.V x.t.ops.length (x.t.ops.flatMap q62)/\x.t.ops.length<=B/\∀ o∈x.t.ops,True
 apart:∀ (i j:Nat) (x y:CI),L[i]? = Bs x->L[j]? = Bs y->i≠j->∀ b,x.V.ownBlock=Bs b->y.V.ownBlock≠Bs b
def DP (g:Nat) (V:Hi) (L:List CI) (b:Nat):Prop:=b=g\/V.ownBlock=Bs b\/∃ x∈L,x.V.ownBlock=Bs b
section
variable {w w':B1} {g gh:Nat} {V:Hi} {L:List CI} {now nodes:Int} {safe:Bool} {B:Nat}
theorem B7.fr {S:Nat->Prop} (h:B7 w g gh V L now safe nodes B) (d:Fr S w w') (c:∀ b,DP g V L b->¬S b):B7 w' g gh V L now safe nodes B:=
 ⟨d.ah h.ah (c g (.inl rfl)),d.own h.row (fun b e=>c b (.inr (.inl e))),fun x a=>⟨d.own (h.ops x a).1 (fun b e=>c b (.inr (.inr ⟨x,a,e⟩))),(h.ops x a).2⟩,h.apart⟩
theorem B7.lt (h:B7 w g gh V L now safe nodes B) {b:Nat} (a:DP g V L b):b<w.heap.size:=by
 rcases a with rfl|a|⟨x,c,a⟩
 ·exact h.ah.lt
 ·exact(h.row.lt b a).2
 ·exact((h.ops x c).1.lt b a).2
end
structure NmI (w:B1) (r o k:Nat):Prop where
 var:w.cell? ⟨0,0,B0⟩=Bs (.slice (Bs ⟨r,o,B0⟩) 4 k)
 at_:∀ (q:Nat) (x:Sx),names[q]? = Bs x->w.cell? ⟨r,o+q,B0⟩=Bs (.string ⟨x.toArray⟩)
 lt0:0<w.heap.size
 lt:r<w.heap.size
theorem NmI.fr {S:Nat->Prop} {w w':B1} {r o k:Nat} (h:NmI w r o k) (a:Fr S w w') (j:¬S 0) (d:¬S r):NmI w' r o k:=by
 have c:∀ b,b<w.heap.size->¬S b->∀ p,w'.cell? ⟨b,p,B0⟩=w.cell? ⟨b,p,B0⟩:=fun b f hs p=>a.cell (p:=⟨b,p,B0⟩) f hs
 exact⟨by rw[c 0 h.lt0 j];exact h.var,fun q x e=>by rw[c r h.lt d];exact h.at_ q x e,VH h.lt0 a.size,VH h.lt a.size⟩
structure Dd (w:B1) (own:Ai) (P:Aw) (F:Nat->Prop) (g r o k:Nat) (H:Hs) (T:List AI) (now:Int) (safe:Bool) (nodes:Int) (B:Nat):Prop where
 hi:HI w own P H
 ns:El own
 st:∃ V L,B7 w g P.g V L now safe nodes B/\L.map (·.t)=T/\∀ b,DP g V L b->F b
 nm:NmI w r o k
 o0:own 0=B0
 or_:own r=B0
 F0:∀ b,F b->own b=B0/\b≠0/\b≠r
 Fl:∀ b,F b->b<w.heap.size
structure Ia (w:B1) (own:Ai) (F:Nat->Prop) (w':B1) (own':Ai) (F':Nat->Prop):Prop where
 ext:Ext own own' w.heap.size
 fr:Fr (fun b=>own b≠B0\/F b) w w'
 F:∀ b,F' b->F b\/w.heap.size<=b
section
variable {w w1 w2:B1} {own own1 own2:Ai} {P P':Aw} {F F1 F2:Nat->Prop} {g r o k:Nat} {H H':Hs} {T:List AI} {now nodes:Int} {safe:Bool} {B:Nat}
theorem Ia.refl (w:B1) (own:Ai) (F:Nat->Prop):Ia w own F w own F:=⟨Ext.refl _ _,Fr.refl _ _,fun _ h=>.inl h⟩
theorem Ia.trans (h:Ia w own F w1 own1 F1) (k:Ia w1 own1 F1 w2 own2 F2):Ia w own F w2 own2 F2:=by
 refine⟨h.ext.trans k.ext h.fr.size,h.fr.trans' k.fr (fun b a e=>?_),fun b a=>?_⟩
 ·rcases e with e|e
  ·exact .inl (by rw[<- h.ext b a];exact e)
  ·rcases h.F b e with e|e
   ·exact .inr e
   ·omega
 ·rcases k.F b a with e|e
  ·exact h.F b e
  ·exact .inr (VO h.fr.size e)
theorem Dd.da {Z:Tg->Prop} (c:Dd w own P F g r o k H T now safe nodes B) (s:HI w1 own1 P' H') (d:HZ Z w own w1 own1) (hP:P'.g=P.g):Dd w1 own1 P' F g r o k H' T now safe nodes B/\Ia w own F w1 own1 F:=by
 have f:∀ b,own b=B0->¬OS own Z b:=fun b a e=>e.owned a
 have j:∀ b,b<w.heap.size->own b=B0->own1 b=B0:=fun b a e=>by rw[d.ext b a];exact e
 refine⟨⟨s,d.cT c.ns,?_,c.nm.fr d.fr (f 0 c.o0) (f r c.or_),j 0 c.nm.lt0 c.o0,j r c.nm.lt c.or_,fun b a=>⟨j b (c.Fl b a) (c.F0 b a).1,(c.F0 b a).2⟩,fun b a=>VH (c.Fl b a) d.fr.size⟩,d.ext,d.fr.mono (fun b _ e=>.inl e.owned),fun _ h=>.inl h⟩;obtain⟨V,L,u,t,p⟩:=c.st;exact⟨V,L,by rw[hP];exact u.fr d.fr (fun b a=>f b (c.F0 b (p b a)).1),t,p⟩
theorem Dd.cq (c:Dd w own P F g r o k H T now safe nodes B) (h:Ch P own H' w w1):∃ own1,Dd w1 own1 P F g r o k H' T now safe nodes B/\Ia w own F w1 own1 F:=by
 obtain⟨own1,a,b⟩:=h;exact⟨own1,c.da a b rfl⟩
theorem Dd.below (c:Dd w own P F g r o k H T now safe nodes B) (a:VJ w.heap.size w w1):Dd w1 own P F g r o k H T now safe nodes B/\Ia w own F w1 own F:=
 c.da (Z:=fun _=>True) (c.hi.below a) (HZ.below own a) rfl
theorem Dd.cu {S:Nat->Prop} {T':List AI} {d:Int} {B':Nat} (c:Dd w own P F g r o k H T now safe nodes B) (t:Fr S w w1) (u:∀ b,b<w.heap.size->S b->F b) {V:Hi} {L:List CI} (hs:B7 w1 g P.g V L d safe nodes B') (x:L.map (·.t)=T') (v:∀ b,DP g V L b->F b\/w.heap.size<=b) :
  Dd w1 own P (fun b=>F b\/DP g V L b) g r o k H T' d safe nodes B'/\Ia w own F w1 own (fun b=>F b\/DP g V L b):=by
 have y:∀ b,b<w.heap.size->¬F b->¬S b:=fun b a h e=>h (u b a e)
 have f:Fr F w w1:=t.mono (fun b a e=>u b a e);have j:∀ b,w.heap.size<=b->own b=B0:=fun b a=>c.hi.free a
 have s:¬F 0:=fun e=>(c.F0 0 e).2.1 rfl
 have p:¬F r:=fun e=>(c.F0 r e).2.2 rfl
 refine⟨⟨c.hi.fr0 f (fun b a e=>a (c.F0 b e).1),c.ns,⟨V,L,hs,x,fun b a=>.inr a⟩,c.nm.fr f s p,c.o0,c.or_,fun b a=>?_,fun b a=>?_⟩,Ext.refl _ _,f.mono (fun b _ e=>.inr e),fun b a=>?_⟩
 ·have:F b\/w.heap.size<=b:=a.elim .inl (v b);rcases this with e|e
  ·exact c.F0 b e
  ·have:=c.nm.lt0;have:=c.nm.lt;exact⟨j b e,by omega,by omega⟩
 ·rcases a with e|e
  ·exact VH (c.Fl b e) t.size
  ·exact hs.lt e
 ·rcases a with e|e
  ·exact .inl e
  ·exact v b e
end
theorem QS:∀ (M:List CI) (i:Nat) (x:CI) (V:Hi) (ops:List C4),M[i]? = Bs x->(M.flatMap Ij).set (i*3) V=(M.set i ⟨{ x.t with ops:=ops },V⟩).flatMap Ij
 | [],i,x,V,ops,h=>by simp at h
 | y::M,0,x,V,ops,h=>by
  obtain rfl:y=x:=by simpa using h
  simp[Ij]
 | y::M,i+1,x,V,ops,h=>by
  have a:=QS M i x V ops (by simpa using h);have b:(i+1)*3=i*3+3:=by omega
  rw[b,XK,VI,VI,<- a];simp[Ij]
theorem QR:∀ (M:List CI) (i:Nat) (x:CI) (v:Int),M[i]? = Bs x->(M.flatMap Ij).set (i*3+2) (.int .i64 v)=(M.set i ⟨{ x.t with a4:=v },x.V⟩).flatMap Ij
 | [],i,x,v,h=>by simp at h
 | y::M,0,x,v,h=>by
  obtain rfl:y=x:=by simpa using h
  simp[Ij]
 | y::M,i+1,x,v,h=>by
  have a:=QR M i x v (by simpa using h);have b:(i+1)*3+2=(i*3+2)+3:=by omega
  rw[b,XK,VI,VI,<- a];simp[Ij]
section
variable {w w':B1} {g gh:Nat} {V:Hi} {L:List CI} {now nodes:Int} {safe:Bool} {B:Nat}
theorem B7.cells (h:B7 w g gh V L now safe nodes B):w.cell? ⟨g,0,B0⟩=Bs (pw gh)/\w.cell? ⟨g,1,B0⟩=Bs V/\w.cell? ⟨g,2,B0⟩=Bs (.int .i64 now)/\w.cell? ⟨g,3,B0⟩=Bs (.bool safe)/\w.cell? ⟨g,4,B0⟩=Bs (.int .i64 nodes)/\g<w.heap.size:=by
 have e:=h.ah.cell 0;have d:=h.ah.cell 1;have c:=h.ah.cell 2;have b:=h.ah.cell 3;have a:=h.ah.cell 4;simp only[Ft,D0,N2] at e d c b a;exact⟨e,d,c,b,a,h.ah.lt⟩
theorem B7.hour (h:B7 w g gh V L now safe nodes B) (v:Int):B7 (w.setCell ⟨g,2,B0⟩ (.int .i64 v)) g gh V L v safe nodes B/\Fr (fun b=>b=g) w (w.setCell ⟨g,2,B0⟩ (.int .i64 v)):=by
 have c:=Fr.ax g w 2 (.int .i64 v);refine⟨⟨h.ah.aC 2 _,c.own h.row (fun b d e=>Be h.row h.ah (by decide) (by rw[d,e])),fun x a=>⟨c.own (h.ops x a).1 (fun b d e=>Be (h.ops x a).1 h.ah (by decide) (by rw[d,e])),(h.ops x a).2⟩,h.apart⟩,c⟩
theorem Gj {L:List CI} {i:Nat} {x z:CI} (v:L[i]? = Bs x) (h:∀ (i j:Nat) (x y:CI),L[i]? = Bs x->L[j]? = Bs y->i≠j->∀ b,x.V.ownBlock=Bs b->y.V.ownBlock≠Bs b)
  (p:∀ (j:Nat) (y:CI),L[j]? = Bs y->j≠i->∀ b,z.V.ownBlock=Bs b->y.V.ownBlock≠Bs b):∀ (j k:Nat) (u y:CI),(L.set i z)[j]? = Bs u->(L.set i z)[k]? = Bs y->j≠k->∀ b,u.V.ownBlock=Bs b->y.V.ownBlock≠Bs b:=by
 intro j k u y c a d b f e;obtain⟨s,_⟩:=List.getElem?_eq_some_iff.1 v;rw[Yi] at c a;by_cases e1:i=j
 ·subst e1;rw[if_pos rfl,if_pos s] at c;rw[if_neg d] at a;injection c with c;subst c;exact p k y a (Ne.symm d) b f e
 ·rw[if_neg e1] at c;by_cases t:i=k
  ·subst t;rw[if_pos rfl,if_pos s] at a;injection a with a;subst a;exact p j u c (Ne.symm e1) b e f
  ·rw[if_neg t] at a;exact h j k u y c a d b f e
theorem q9n {α:Type} {L:List α} {i:Nat} {x z y:α} (d:L[i]? = Bs x) (b:y∈L.set i z):y=z\/∃ j,L[j]? = Bs y/\j≠i:=by
 obtain⟨j,a⟩:=List.getElem?_of_mem b;obtain⟨c,_⟩:=List.getElem?_eq_some_iff.1 d;rw[Yi] at a;by_cases e:i=j
 ·subst e;rw[if_pos rfl,if_pos c] at a;injection a with a;exact .inl a.symm
 ·rw[if_neg e] at a;exact .inr ⟨j,a,Ne.symm e⟩
theorem B7.cb (h:B7 w g gh V L now safe nodes B) {i c cap:Nat} {x:CI} (z:L[i]? = Bs x) (R:V=.slice (Bs ⟨c,0,B0⟩) L.length cap) {o:C4} (Z:True) {V':Hi} (v:Aq w w' x.V.ownBlock V'.ownBlock)
  (W:w'.ownsRow 0 56 4 V' (x.t.ops.length+1) (x.t.ops.flatMap q62++q62 o)) :
  B7 (w'.setCell ⟨c,i*3,B0⟩ V') g gh V (L.set i ⟨{ x.t with ops:=x.t.ops++[o] },V'⟩) now safe nodes (B+1)/\Fr (fun b=>Bs b=x.V.ownBlock\/Bs b=V.ownBlock) w (w'.setCell ⟨c,i*3,B0⟩ V')/\
   ∀ b,DP g V (L.set i ⟨{ x.t with ops:=x.t.ops++[o] },V'⟩) b->DP g V L b\/w.heap.size<=b:=by
 obtain⟨hl,_⟩:=List.getElem?_eq_some_iff.1 z;have E:=O0 z;have f:V.ownBlock=Bs c:=by rw[R];rfl
 have I:=h.ops x E;have d:w'.ownsRow 0 52 3 V L.length (L.flatMap Ij):=v.1.own h.row (fun b a e=>E0 h.row I.1 (by decide) a e.symm);have A:=v.1.ah h.ah (fun e=>Be I.1 h.ah (by decide) e.symm);have O:c<w.heap.size:=(h.row.lt c f).2;have M:V'.ownBlock≠Bs c:=fun e=>by
  rcases v.2 with p|⟨b,p,a⟩
  ·exact E0 h.row I.1 (by decide) f (by rw[<- p];exact e)
  ·rw[p] at e;injection e with e;omega
 have s:=Fr.ax c w' (i*3) V';have X:Fr (fun b=>Bs b=x.V.ownBlock\/Bs b=V.ownBlock) w (w'.setCell ⟨c,i*3,B0⟩ V'):=(v.1.mono (fun b _ e=>.inl e)).trans' s (fun b _ (e:b=c)=>.inr (by rw[e,f]));refine⟨⟨?_,?_,fun y D=>?_,?_⟩,X,fun b a=>?_⟩
 ·exact s.ah A (fun e=>Be h.row h.ah (by decide) (by rw[f];exact congrArg Bs e.symm))
 ·have:=d;rw[R] at this ⊢;rw[XG,<- QS L i x V' (x.t.ops++[o]) z];exact(this.stored _ _).1
 ·rcases q9n z D with rfl|⟨j,G,e⟩
  rotate_left
  ·have t:=O0 G;have u:∀ b,y.V.ownBlock=Bs b->x.V.ownBlock≠Bs b:=fun b a=>h.apart j i y x G z e b a
   have S:=v.1.own (h.ops y t).1 (fun b a e=>u b a e.symm);exact⟨s.own S (fun b a (e:b=c)=>E0 S d (by decide) a (by rw[f,e])),by have:=(h.ops y t).2.1;omega,(h.ops y t).2.2⟩
  ·refine⟨?_,by have:=I.2.1;simp;omega,fun q Y=>?_⟩
   ·have:=s.own W (fun b a (e:b=c)=>M (by rw[a,e]));simpa [VP,Wx] using this
   ·trivial
 ·refine Gj z h.apart (fun j y G u b a=>?_);rcases v.2 with p|⟨U,p,K⟩
  ·exact h.apart i j x y z G (Ne.symm u) b (by rw[<- p];exact a)
  ·intro J;have e3:U=b:=by
    have:V'.ownBlock=Bs b:=a;rw[p] at this;injection this
   have:=((h.ops y (O0 G)).1.lt b J).2;omega
 ·rcases a with a|a|⟨y,D,a⟩
  ·exact .inl (.inl a)
  ·exact .inl (.inr (.inl a))
  ·rcases YS D with D|rfl
   ·exact .inl (.inr (.inr ⟨y,D,a⟩))
   ·rcases v.2 with p|⟨U,p,K⟩
    ·exact .inl (.inr (.inr ⟨x,E,by rw[<- p];exact a⟩))
    ·have a:V'.ownBlock=Bs b:=a;rw[p] at a;injection a with a;exact .inr (by omega)
theorem B7.setTo (h:B7 w g gh V L now safe nodes B) {i d cap:Nat} {x:CI} (z:L[i]? = Bs x) (D:V=.slice (Bs ⟨d,0,B0⟩) L.length cap) (v:Int) :
  B7 (w.setCell ⟨d,i*3+2,B0⟩ (.int .i64 v)) g gh V (L.set i ⟨{ x.t with a4:=v },x.V⟩) now safe nodes B/\Fr (fun b=>Bs b=V.ownBlock) w (w.setCell ⟨d,i*3+2,B0⟩ (.int .i64 v))/\
   ∀ b,DP g V (L.set i ⟨{ x.t with a4:=v },x.V⟩) b->DP g V L b:=by
 have f:=O0 z;have s:V.ownBlock=Bs d:=by rw[D];rfl
 have p:=Fr.ax d w (i*3+2) (.int .i64 v);have c:∀ y∈L,(w.setCell ⟨d,i*3+2,B0⟩ (.int .i64 v)).ownsRow 0 56 4 y.V y.t.ops.length (y.t.ops.flatMap q62):=fun y t=>p.own (h.ops y t).1 (fun b a (e:b=d)=>E0 (h.ops y t).1 h.row (by decide) a (by rw[s,e]))
 refine⟨⟨?_,?_,fun y t=>?_,?_⟩,p.mono (fun b _ (e:b=d)=>by rw[e,s]),fun b a=>?_⟩
 ·exact p.ah h.ah (fun e=>Be h.row h.ah (by decide) (by rw[s];exact congrArg Bs e.symm))
 ·have:=h.row;rw[D] at this ⊢;rw[XG,<- QR L i x v z];exact(this.stored _ _).1
 ·rcases q9n z t with rfl|⟨j,u,e⟩
  ·exact⟨c x f,(h.ops x f).2⟩
  ·exact⟨c y (O0 u),(h.ops y (O0 u)).2⟩
 ·exact Gj z h.apart (fun j y u A b a=>h.apart i j x y z u (Ne.symm A) b a)
 ·rcases a with a|a|⟨y,t,a⟩
  ·exact .inl a
  ·exact .inr (.inl a)
  ·rcases q9n z t with rfl|⟨j,u,e⟩
   ·exact .inr (.inr ⟨x,f,a⟩)
   ·exact .inr (.inr ⟨y,O0 u,a⟩)
theorem B7.cz (h:B7 w g gh V L now safe nodes B) {A:Int} {V':Hi} (v:Aq w w' V.ownBlock V'.ownBlock)
  (D:w'.ownsRow 0 52 3 V' (L.length+1) (L.flatMap Ij++[.slice B0 0 0,.int .i64 A,.int .i64 (-1)])) :
  B7 (w'.setCell ⟨g,1,B0⟩ V') g gh V' (L++[⟨⟨[],A,-1⟩,.slice B0 0 0⟩]) now safe nodes B/\Fr (fun b=>Bs b=V.ownBlock\/b=g) w (w'.setCell ⟨g,1,B0⟩ V')/\
   ∀ b,DP g V' (L++[⟨⟨[],A,-1⟩,.slice B0 0 0⟩]) b->DP g V L b\/w.heap.size<=b:=by
 have c:=v.1.ah h.ah (fun e=>Be h.row h.ah (by decide) e.symm);have f:=Fr.ax g w' 1 V';have J:(WI B0 0 0).ownBlock=B0:=rfl;refine⟨⟨c.aC 1 _,?_,fun y d=>?_,?_⟩,(v.1.mono (fun b _ e=>.inl e)).trans' f (fun b _ e=>.inr e),fun b a=>?_⟩
 ·have:=f.own D (fun b a (e:b=g)=>Be D c (by decide) (by rw[a,e]));rw[VP,Wx];exact this
 ·rcases List.mem_append.1 d with d|d
  ·have E:=v.1.own (h.ops y d).1 (fun b a e=>E0 (h.ops y d).1 h.row (by decide) a e.symm);exact⟨f.own E (fun b a (e:b=g)=>Be E c (by decide) (by rw[a,e])),(h.ops y d).2⟩
  ·rw[List.mem_singleton.1 d];exact⟨VY _ _ _ _,VK _,fun o G=>(by cases G)⟩
 ·intro i j x y u t z b a p;rw[List.getElem?_append] at u t;by_cases e1:i<L.length
  ·rw[if_pos e1] at u;by_cases s:j<L.length
   ·rw[if_pos s] at t;exact h.apart i j x y u t z b a p
   ·rw[if_neg s] at t;have:=O0 t;rw[List.mem_singleton.1 this] at p;cases p
  ·rw[if_neg e1] at u;have:=O0 u;rw[List.mem_singleton.1 this] at a;cases a
 ·rcases a with a|a|⟨y,d,a⟩
  ·exact .inl (.inl a)
  ·rcases v.2 with s|⟨K,s,I⟩
   ·exact .inl (.inr (.inl (by rw[<- s];exact a)))
   ·rw[s] at a;injection a with a;exact .inr (by omega)
  ·rcases List.mem_append.1 d with d|d
   ·exact .inl (.inr (.inr ⟨y,d,a⟩))
   ·rw[List.mem_singleton.1 d] at a;cases a
end
structure ActX where
 what:Int
 tx:Int
 a:Int
 val:ByteArray
def AY (T:List AI) (tx:Int):Int:=if T.length=0 then 0 else((1+AX tx T.length:Nat):Int)
def AR (a:Int):Sx:=names.getD (AX a 4) []
def CH (v:ByteArray):ByteArray:=if 9<v.size then v.extract 0 9 else v
def CY (T:List AI) (id:Int) (o:C4):List AI:=match T[id.toNat-1]? with
 | some t=>if 0<id then T.set (id.toNat-1) { t with ops:=t.ops++[o] } else T
 | none=>T
def Hs.bG (H:Hs) (safe:Bool) (s j:Nat):Hs:=if 1<((H.sh s).aj H.n).length\/safe=Jx then H.fail (10*s+j) else H
def opG (a:Int) (r:(Int×Sx×Bool)×Hs):C4:=⟨1,⟨(AR a).toArray⟩,⟨r.1.2.1.toArray⟩,r.1.2.2⟩
def opP (x:ActX):C4:=⟨x.what,⟨(AR x.a).toArray⟩,CH x.val,Jx⟩
def OO (x:ActX):Pr:=⟨⟨(AR x.a).toArray⟩,CH x.val,x.what == 3⟩
inductive Br (safe:Bool) (nodes:Nat) (now:Int) (x:ActX) (H:Hs) (T:List AI):Hs->List AI->Prop where
 | begin (h:x.what=0) (h7:T.length<7):Br safe nodes now x H T H.begin (T++[⟨[],now,-1⟩])
 | full (h:x.what=0) (h7:¬T.length<7):Br safe nodes now x H T H T
 | get (h:x.what=1) (he:(H.get (AY T x.tx) (AR x.a)).1.1=0):Br safe nodes now x H T (H.get (AY T x.tx) (AR x.a)).2 (CY T (AY T x.tx) (opG x.a (H.get (AY T x.tx) (AR x.a))))
 | getE (h:x.what=1) (he:(H.get (AY T x.tx) (AR x.a)).1.1≠0):Br safe nodes now x H T (H.get (AY T x.tx) (AR x.a)).2 T
 | put (h:x.what=2\/x.what=3) (he:(H.put (AY T x.tx) (OO x)).1=0):Br safe nodes now x H T (H.put (AY T x.tx) (OO x)).2 (CY T (AY T x.tx) (opP x))
 | putE (h:x.what=2\/x.what=3) (he:(H.put (AY T x.tx) (OO x)).1≠0):Br safe nodes now x H T (H.put (AY T x.tx) (OO x)).2 T
 | ends (h:x.what=4) {e:Int} {H':Hs} (r:Ie H (AY T x.tx) e H'):Br safe nodes now x H T H' T
 | drop (h:x.what=5) (h4:x.a.tmod 4=0):Br safe nodes now x H T (H.drop (AY T x.tx)).2 T
 | dropE (h:x.what=5) (h4:x.a.tmod 4≠0):Br safe nodes now x H T H T
 | deliver (h:x.what=6) (hn:0<H.net.l.length) {H':Hs} (r:P0 H (AX x.a H.net.l.length) H'):Br safe nodes now x H T H' T
 | lose (h:x.what=7) (hn:0<H.net.l.length):Br safe nodes now x H T (H.lose (AX x.a H.net.l.length)) T
 | twice (h:x.what=8) (hn:0<H.net.l.length):Br safe nodes now x H T (H.twice (AX x.a H.net.l.length)) T
 | none (h:6<=x.what/\x.what<=8) (hn:¬0<H.net.l.length):Br safe nodes now x H T H T
 | tick (h:x.what=9) {H':Hs} (r:EG H H'):Br safe nodes now x H T H' T
 | fail (h:x.what=10):Br safe nodes now x H T (H.bG safe (AX x.a 3) (AX x.tx nodes)) T
 | fix (h:x.what=11) {H':Hs} (r:Kz H H'):Br safe nodes now x H T H' T
 | calm (h:x.what=12) {H':Hs} (r:C6 4 H H'):Br safe nodes now x H T H' T
 | other (h:x.what<0\/12<x.what):Br safe nodes now x H T H T
def Dw (H:Hs) (now:Int) (i:Nat) (t:AI):AI:=if t.a4<0/\H.state (i+1)=3 then { t with a4:=now } else t
def BT (H:Hs) (now:Int) (T:List AI):List AI:=T.mapIdx (Dw H now)
theorem OF (a:Int):AR a∈names:=by
 have h:=Rj a (n:=4) (by omega);unfold AR;rw[List.getD_eq_getElem?_getD];have:AX a 4<names.length:=h;rw[K0 this];exact WE this
theorem UT (a:Int):names[AX a 4]? = Bs (AR a):=by
 have h:AX a 4<names.length:=Rj a (n:=4) (by omega);unfold AR;rw[List.getD_eq_getElem?_getD,K0 h];rfl
theorem qa3 (v:ByteArray):(CH v).size<=9:=by
 unfold CH;split
 ·rw[ByteArray.size_extract];omega
 ·omega
theorem R7 (T:List AI) (tx:Int):0<=AY T tx/\AY T tx<=T.length:=by
 unfold AY;split
 ·omega
 ·have:=Rj tx (n:=T.length) (by omega);omega
section
variable {H H':Hs}
theorem Se (a:Wf H) (c:H.c=3) (id:Int) {k:Sx} (b:k∈names):Sm H (H.get id k).2:=by
 have h:=(q3p (id:=id) (mode:=1) a c b (by unfold BW;omega)).sm;unfold Hs.get;simp only;split
 ·exact h
 ·split <;> exact h
theorem Rq (a:Wf H) (c:H.c=3) (id:Int) {p:Pr} (b:sx p.key∈names):Sm H (H.put id p).2:=by
 unfold Hs.put;split
 ·exact .refl _
 ·have h:=(q3p (id:=id) (mode:=2) a c b (by unfold BW;omega)).sm;simp only;split
  ·exact h
  ·split
   ·exact⟨h.n,h.c,h.m⟩
   ·exact h
theorem fix_sm {B:Int} (h:Ag H B) (b:B<=999000) (r:Kz H H'):Sm H H':=by
 have c:=h.aE (s:=0) (by omega) (by omega);have j:=c.1.aE (s:=1) (by omega) (by omega);have a:∀ {H:Hs} {B:Int} (s:Nat),s<3->Ag H B->B<=1000000->Sm H (H.aE s):=fun {H B} s hs h b=>by
  unfold Hs.aE;split
  ·exact .refl _
  ·obtain⟨_,_,_,f⟩:=h.fix b hs;exact⟨f.n,f.c,f.m⟩
 have g:=q9z r h b;have k0:=a 0 (by omega) h (by omega);have e:=a 1 (by omega) c.1 (by omega);have d:=a 2 (by omega) j.1 (by omega);exact((k0.trans e).trans d).trans g.sm
theorem Gk (T:List AI) (id:Int) (o:C4):(CY T id o).length=T.length:=by
 unfold CY;split
 ·split
  ·exact XG
  ·rfl
 ·rfl
theorem Br.cnt {safe:Bool} {nodes:Nat} {now:Int} {x:ActX} {T T':List AI} {B:Int} (h:Br safe nodes now x H T H' T') (d:Ag H B) (p:B<=999000) (j:H.m=T.length) (t:T.length<=7):H'.m=T'.length/\T'.length<=7/\H'.n=H.n:=by
 have b:=d.wf;have c:=d.c;have a:∀ {H2:Hs} {f:List AI},Sm H H2->f.length=T.length->H2.m=f.length/\f.length<=7/\H2.n=H.n:=fun s e=>⟨by rw[s.m,e];exact j,by omega,s.n⟩
 cases h with
 | begin _ u=>exact⟨by show H.m+1=_;rw[j];simp,by simp;omega,rfl⟩
 | full|none|dropE|other=>exact a (.refl _) rfl
 | get=>exact a (Se b c _ (OF _)) (Gk _ _ _)
 | getE=>exact a (Se b c _ (OF _)) rfl
 | put=>exact a (Rq b c _ (OF _)) (Gk _ _ _)
 | putE=>exact a (Rq b c _ (OF _)) rfl
 | ends _ r=>
  refine a ?_ rfl;cases r with
  | missing=>exact .refl _
  | state=>exact .refl _
  | waits=>exact .refl _
  | ends h y v r=>
   have:=(q22 r (b.ending (by omega) (by omega)) c).sm;exact⟨this.n,this.c,this.m⟩
 | drop=>exact a (Ge _).sm rfl
 | deliver _ _ r=>exact a (q5b r b c).sm rfl
 | lose=>exact a ⟨rfl,rfl,rfl⟩ rfl
 | twice=>
  refine a ?_ rfl;unfold Hs.twice;split <;> exact⟨rfl,rfl,rfl⟩
 | tick _ r=>exact a (q8v r b c).sm rfl
 | fail=>
  refine a ?_ rfl;unfold Hs.bG Hs.fail;split
  ·split <;> exact⟨rfl,rfl,rfl⟩
  ·exact .refl _
 | fix _ r=>exact a (fix_sm d p r) rfl
 | calm _ r=>exact a (qa8 r b c).sm rfl
theorem Pd (H:Hs) (now:Int) (T:List AI):(BT H now T).length=T.length:=by unfold BT;simp
end
def SyP (w:B1) (own:Ai) (F:Nat->Prop) (g r o k:Nat) (safe:Bool) (nodes:Int) (R:Hs->List AI->Int->Nat->Prop) (e:Ending) (w':B1):Prop:=
 e=.returned (.tuple #[])/\∃ own' P' b H' T' a B',Dd w' own' P' b g r o k H' T' a safe nodes B'/\Ia w own F w' own' b/\R H' T' a B'
section
variable {w w':B1} {own own':Ai} {P:Aw} {F:Nat->Prop} {g r o k:Nat} {H:Hs} {T:List AI} {now nodes:Int} {safe:Bool} {B:Nat}
theorem Dd.cells (c:Dd w own P F g r o k H T now safe nodes B):∃ V L,B7 w g P.g V L now safe nodes B/\L.map (·.t)=T/\(∀ b,DP g V L b->F b)/\w.cell? ⟨g,0,B0⟩=Bs (pw P.g)/\w.cell? ⟨g,1,B0⟩=Bs V/\w.cell? ⟨g,2,B0⟩=Bs (.int .i64 now)/\w.cell? ⟨g,3,B0⟩=Bs (.bool safe)/\w.cell? ⟨g,4,B0⟩=Bs (.int .i64 nodes)/\g<w.heap.size:=by
 obtain⟨V,L,a,e,d⟩:=c.st;exact⟨V,L,a,e,d,a.cells⟩
theorem PD (c:Dd w own P F g r o k H T now safe nodes B) (I:Wf H) (hc:H.c=3) {s j:Nat} (hs:s<3) (hj:j<10):VX Tryz.prog 32 #[pw g,.int .i64 s,.int .i64 j] w
  (SyP w own F g r o k safe nodes fun H' T' a B'=>H'=H.bG safe s j/\T'=T/\a=now/\B'=B):=by
 obtain⟨V,L,K,hT,hF,c0,c1,c2,c3,c4,J⟩:=c.cells;have S:=LH (RU c.hi I hc hs);have HC:=LH c;have R:=LH I;have a2:((H.sh s).aj H.n).length<=4:=by have:=q2m (H.sh s) H.n;have:=I.n4;omega
 clear c K hT hF I c1 c2 c4;unfold S7 NV at S;unfold pw at *;go_enter Tryz.func32,Tryz.ntmps32;go_wp2_with fail;refine S.o.mono ?_;rintro e w1 ⟨V1,z,rfl,Y,b⟩;obtain⟨A1,k1,rfl,_,_⟩:=AK b.1;obtain⟨v,A⟩:=HC.o.below b.2.2;have d3:=(b.2.2.cell (p:=⟨g,3,B0⟩) J).trans c3;have d0:=(b.2.2.cell (p:=⟨g,0,B0⟩) J).trans c0;have a3:=VH J b.2.2.size;have G:=LH v;have D:=LH A;have x:=LH (Sq v.hi R.o hc (10*(s:Int)+j));clear v A b c3 c0 J S HC;have a1:z.length<=4:=by omega
 by_cases y:1<((H.sh s).aj H.n).length\/safe=Jx
 ·have d:H.bG safe s j=H.fail (10*(s:Int)+j):=if_pos y;have U:=LH d;have X:IntKind.i64.wrap (10*(s:Int))=10*(s:Int):=V8 _ ⟨by omega,by omega⟩;have a0:IntKind.i64.wrap (10*(s:Int)+j)=10*(s:Int)+j:=V8 _ ⟨by omega,by omega⟩;unfold Gt pw at x;have f:∀ W,Ch P own (H.fail (10*(s:Int)+j)) w1 W->SyP w own F g r o k safe nodes (fun H' T' a B'=>H'=H.bG safe s j/\T'=T/\a=now/\B'=B) (.returned (.tuple #[])) W:=fun W u=>by
   obtain⟨own2,O,M⟩:=G.o.cq u;exact⟨rfl,own2,P,F,_,T,now,B,O,D.o.trans M,U.o.symm,rfl,rfl,rfl⟩
  have h:=LH f;clear d f;by_cases h1:1<z.length
  ·have Z:decide ((1:Int)<z.length)=T2:=decide_eq_true (by omega);go_wp2_with fail;refine x.o.mono ?_;rintro e w2 ⟨rfl,u⟩;have E:=LH (h.o w2 u);clear u;go_wp2_with fail
   go_end0
   exact E.o
  ·have Z:decide ((1:Int)<z.length)=Jx:=decide_eq_false (by omega);have t:safe=Jx:=y.elim (fun e=>absurd e (by omega)) id;subst t;go_wp2_with fail;refine x.o.mono ?_;rintro e w2 ⟨rfl,u⟩;have E:=LH (h.o w2 u);clear u;go_wp2_with fail
   go_end0
   exact E.o
 ·have d:H.bG safe s j=H:=if_neg y;have h1:¬1<z.length:=fun e=>y (.inl (by omega))
  have Z:decide ((1:Int)<z.length)=Jx:=decide_eq_false (by omega);have t:safe=T2:=by cases safe with
   | true=>rfl
   | false=>exact absurd (.inr rfl) y
  have E:=LH (show SyP w own F g r o k safe nodes (fun H' T' a B'=>H'=H.bG safe s j/\T'=T/\a=now/\B'=B) (.returned (.tuple #[])) w1 from⟨rfl,own,P,F,H,T,now,B,G.o,D.o,d.symm,rfl,rfl,rfl⟩);clear d y;subst t;go_wp2_with fail
  go_end0
  exact E.o
end
def SL (x:ActX):Hi:=.agg #[.int .i64 x.what,.int .i64 x.tx,.int .i64 x.a,.string x.val]
def ED (x:ActX):Array Hi:=#[.int .i64 x.what,.int .i64 x.tx,.int .i64 x.a,.string x.val]
def D4 (w:B1) (own:Ai) (P:Aw) (F:Nat->Prop) (g r o k:Nat) (H:Hs) (T:List AI) (now:Int) (safe:Bool) (nodes:Int) (B a:Nat) (x:ActX) (W:B1):Prop:=
 ∃ b,Dd W own P b g r o k H T now safe nodes B/\Ia w own F W own b/\Ab W a 34 (ED x)/\own a=B0/\¬b a
def Dp (w:B1) (own:Ai) (F:Nat->Prop) (g r o k:Nat) (H:Hs) (T:List AI) (now:Int) (safe:Bool) (nodes:Nat) (B:Nat) (x:ActX) (W:B1):Prop:=
 ∃ own' P' a H' T' B',Dd W own' P' a g r o k H' T' now safe nodes B'/\Ia w own F W own' a/\Br safe nodes now x H T H' T'/\B'<=B+1
section
variable {w w':B1} {own own':Ai} {P:Aw} {F:Nat->Prop} {g r o k:Nat} {H:Hs} {T:List AI} {now:Int} {nodes:Nat} {safe:Bool} {B:Nat}
theorem D4.below {nodes:Int} {j:Nat} {x:ActX} {W p:B1} (h:D4 w own P F g r o k H T now safe nodes B j x W) (f:VJ W.heap.size W p):D4 w own P F g r o k H T now safe nodes B j x p:=by
 obtain⟨s,a,b,c,d,e⟩:=h;obtain⟨a2,b2⟩:=a.below f;exact⟨s,a2,b.trans b2,(DV f).ah c (fun hs=>by have:=c.lt;omega),d,e⟩
theorem D4.start {nodes:Int} (c:Dd w own P F g r o k H T now safe nodes B) (x:ActX) (v:Int):D4 w own P F g r o k H T v safe nodes B w.heap.size x ((w.setCell ⟨g,2,B0⟩ (.int .i64 v)).alloc (.cells (ED x) 34)):=by
 obtain⟨V,L,u,t,f⟩:=c.st;obtain⟨s,p⟩:=u.hour v;obtain⟨z,j⟩:=c.cu p (fun b a e=>f b (.inl e)) s t (fun b a=>.inl (f b a));have d:(w.setCell ⟨g,2,B0⟩ (.int .i64 v)).heap.size=w.heap.size:=by simp
 obtain⟨y,h⟩:=z.below ((S2 (w.setCell ⟨g,2,B0⟩ (.int .i64 v)).heap.size (w.setCell ⟨g,2,B0⟩ (.int .i64 v))).alloc (L1 _) (.cells (ED x) 34));have a:=Ab.new (w.setCell ⟨g,2,B0⟩ (.int .i64 v)) 34 (ED x);rw[d] at a;refine⟨_,y,j.trans h,a,c.hi.free (L1 _),fun e=>?_⟩;have e:F w.heap.size:=e.elim id (f _);exact Nat.lt_irrefl _ (c.Fl _ e)
theorem acts (W:B1) (a:Nat) (x:ActX) (h:Ab W a 34 (ED x)):W.cell? ⟨a,0,B0⟩=Bs (.int .i64 x.what)/\W.cell? ⟨a,1,B0⟩=Bs (.int .i64 x.tx)/\W.cell? ⟨a,2,B0⟩=Bs (.int .i64 x.a)/\W.cell? ⟨a,3,B0⟩=Bs (.string x.val)/\a<W.heap.size:=by
 have e:=h.cell 0;have d:=h.cell 1;have c:=h.cell 2;have b:=h.cell 3;unfold ED at e d c b;simp only[Ft,D0,N2] at e d c b;exact⟨e,d,c,b,h.lt⟩
theorem idT_0 {T:List AI} {tx:Int} (h:T.length=0):AY T tx=0:=if_pos h
theorem idT_1 {T:List AI} {tx:Int} (h:T.length≠0):AY T tx=1+(AX tx T.length:Int):=by unfold AY;rw[if_neg h];omega
end
def lkF:List Hi->Nat->Hi
 | [],_=>Yc
 | v::_,0=>v
 | _::l,k+1=>lkF l k
def Eo (s0 s1 s3 s4 s5:Hi) (u:Nat->Hi):Act:={ tmps:=#[s0,s1,Yc,s3,s4,s5,u 6,u 7,u 8,u 9,u 10,u 11,u 12,u 13,Yc,u 15,u 16,u 17,u 18,u 19,u 20,u 21,u 22,u 23,u 24,u 25,u 26,u 27,u 28,u 29,u 30,u 31,u 32,u 33,u 34,u 35,u 36,u 37,u 38,u 39,u 40,u 41,u 42,u 43,u 44,u 45,u 46,u 47,u 48,u 49,u 50,u 51,u 52,u 53,u 54,u 55,u 56,u 57,u 58,u 59,u 60,u 61,u 62,u 63,u 64,u 65,u 66,u 67,u 68,u 69,u 70,u 71,u 72,u 73,u 74,u 75,u 76,u 77,u 78,u 79,u 80,u 81,u 82,u 83,u 84,u 85,u 86,u 87,u 88,u 89,u 90,u 91,u 92,u 93,u 94,u 95,u 96,u 97,u 98,u 99,u 100,u 101,u 102,u 103,u 104,u 105,u 106,u 107,u 108,u 109,u 110,u 111,u 112,u 113,u 114,u 115,u 116,u 117,u 118,u 119,u 120,u 121,u 122,u 123,u 124,u 125,u 126,u 127,u 128,u 129,u 130,u 131,u 132,u 133,u 134,u 135,u 136,u 137,u 138,u 139,u 140,u 141,u 142,u 143,u 144,u 145,u 146,u 147,u 148,u 149,u 150,u 151,u 152,u 153,u 154,u 155,u 156,u 157,u 158,u 159,u 160,u 161,u 162,u 163,u 164,u 165,u 166,u 167,u 168,u 169,u 170,u 171,u 172,u 173,u 174,u 175,u 176,u 177,u 178,u 179,u 180,u 181,u 182,u 183,u 184,u 185,u 186,u 187,u 188,u 189,u 190,u 191,u 192,u 193,u 194,u 195,u 196,u 197,u 198,u 199,u 200,u 201,u 202,u 203,u 204,u 205,u 206,u 207,u 208,u 209,u 210,u 211,u 212,u 213,u 214,u 215,u 216,u 217,u 218,u 219,u 220,u 221,u 222,u 223,u 224,u 225,u 226,u 227,u 228,u 229,u 230,u 231,u 232,u 233,u 234,u 235,u 236,u 237,u 238,u 239,u 240,u 241,u 242,u 243,u 244,u 245,u 246,u 247,u 248,u 249,u 250,u 251,u 252,u 253,u 254,u 255,u 256,u 257,u 258,u 259,u 260,u 261,u 262,u 263,u 264,u 265,u 266,u 267,u 268,u 269,u 270,u 271,u 272,u 273,u 274,u 275,u 276,u 277,u 278,u 279,u 280,u 281,u 282,u 283,u 284,u 285,u 286,u 287,u 288,u 289,u 290,u 291,u 292,u 293,u 294,u 295,u 296,u 297,u 298,u 299,u 300,u 301,u 302,u 303,u 304,u 305,u 306,u 307,u 308,u 309,u 310,u 311,u 312,u 313,u 314,u 315,u 316,u 317,u 318],defers:=[] }
def Au (s0 s1 s3 s4 s5:Hi) (a:Act):Prop:=∃ u,a=Eo s0 s1 s3 s4 s5 u
theorem Au.mk' {s0 s1 s3 s4 s5:Hi} (t:Array Hi) (h:({ tmps:=t,defers:=[] } : Act)=Eo s0 s1 s3 s4 s5 (fun k=>lkF t.toList k)):Au s0 s1 s3 s4 s5 { tmps:=t,defers:=[] }:=⟨_,h⟩
def cL:Code->Code | .seq a _=>a|c=>c
def cR:Code->Code | .seq _ b=>b|c=>c
def cT:Code->Code | .cond _ a _=>a|c=>c
def cE:Code->Code | .cond _ _ b=>b|c=>c
def cB:Code->Code | .block _ b=>b|c=>c
noncomputable def GY:Code:=(Tryz.f10.body).getD .skip
noncomputable def FF:Code:=cR (cR (cR (cR (cR GY))))
noncomputable def BB:Code:=cR (cL FF)
noncomputable def E9:Code:=cB BB
noncomputable def FI:Code:=cE (cR E9)
noncomputable def E2:Code:=cE (cR FI)
noncomputable def FH:Code:=cE (cR E2)
noncomputable def E8:Code:=cE (cR FH)
noncomputable def Eu:Code:=cE (cR E8)
noncomputable def FG:Code:=cE (cR Eu)
noncomputable def CF:Code:=cE (cR FG)
noncomputable def CE:Code:=cE (cR CF)
noncomputable def CN:Code:=cE (cR CE)
noncomputable def wy (c:Code):Code:=cT (cR c)
section
variable {w w':B1} {own own':Ai} {P:Aw} {F:Nat->Prop} {g r o k:Nat} {H:Hs} {T:List AI} {now:Int} {nodes:Nat} {safe:Bool} {B:Nat}
theorem TS {R:Int} {D:Nat} {x:ActX} {W:B1} {s1 s5:Hi} {a0:Act} {Q:Yn->Act->B1->Prop} (I:D4 w own P F g r o k H T now safe nodes B D x W) (p:Ag H R) (Z:R<=999000) (Y:x.what=4)
  (h0:Au (pw g) s1 (pw D) (.int .i64 (AY T x.tx)) s5 a0) (J:∀ K M,Au (pw g) s1 (pw D) (.int .i64 (AY T x.tx)) s5 K->Dp w own F g r o k H T now safe nodes B x M->Q .normal K M):Yf Tryz.prog (wy FH) Q a0 W:=by
 have a1:=LH I;obtain⟨F2,a,f,j,s,z⟩:=I;obtain⟨V2,L2,c,t,y,c0,c1,c2,_,c4,gl⟩:=a.cells;obtain⟨x0,U,x2,S,xl⟩:=acts _ _ _ j;have G:=LH a;have E:=LH f;have HA:=LH p;have HQ:=LH J;have O:=LH (NF a.hi p.wf p.c (AY T x.tx));clear x0 U x2 S c1 c2 c4;obtain⟨u,rfl⟩:=h0;clear a f j s z J p c t y;unfold pw Eo at *;simp only[wy,CN,CE,CF,FG,Eu,E8,FH,E2,FI,E9,BB,FF,GY,cL,cR,cT,cE,cB,Tryz.f10,Xf];go_wp2_with fail;refine O.o.mono ?_;rintro e X ⟨er,H3,rfl,A,v⟩;obtain⟨b,h,d⟩:=G.o.cq v;have HX:=LH (show Dp w own F g r o k H T now safe nodes B x X from⟨b,P,F2,H3,T,B,h,E.o.trans d,.ends Y A,W5 _⟩);clear h d O;go_wp2_with fail;exact HQ.o _ _ (Au.mk' _ rfl) HX.o
theorem Qt {R:Int} {D:Nat} {x:ActX} {W:B1} {s1 s5:Hi} {a0:Act} {Q:Yn->Act->B1->Prop} (I:D4 w own P F g r o k H T now safe nodes B D x W) (p:Ag H R) (Z:R<=999000) (Y:x.what=9)
  (h0:Au (pw g) s1 (pw D) (.int .i64 (AY T x.tx)) s5 a0) (J:∀ K M,Au (pw g) s1 (pw D) (.int .i64 (AY T x.tx)) s5 K->Dp w own F g r o k H T now safe nodes B x M->Q .normal K M):Yf Tryz.prog (wy FG) Q a0 W:=by
 have a1:=LH I;obtain⟨F2,a,f,j,s,z⟩:=I;obtain⟨V2,L2,c,t,y,c0,c1,c2,_,c4,gl⟩:=a.cells;obtain⟨x0,U,x2,S,xl⟩:=acts _ _ _ j;have G:=LH a;have E:=LH f;have HA:=LH p;have HQ:=LH J;have O:=LH (F8 a.hi p.wf p.c);clear x0 U x2 S c1 c2 c4;obtain⟨u,rfl⟩:=h0;clear a f j s z J p c t y;unfold pw Eo at *;simp only[wy,CN,CE,CF,FG,Eu,E8,FH,E2,FI,E9,BB,FF,GY,cL,cR,cT,cE,cB,Tryz.f10,Xf];go_wp2_with fail;refine O.o.mono ?_;rintro e X ⟨rfl,H3,A,v⟩;obtain⟨b,h,d⟩:=G.o.cq v;have HX:=LH (show Dp w own F g r o k H T now safe nodes B x X from⟨b,P,F2,H3,T,B,h,E.o.trans d,.tick Y A,W5 _⟩);clear h d O;go_wp2_with fail;exact HQ.o _ _ (Au.mk' _ rfl) HX.o
theorem TR {S:Int} {E:Nat} {x:ActX} {W:B1} {s1 s5:Hi} {a0:Act} {Q:Yn->Act->B1->Prop} (J:D4 w own P F g r o k H T now safe nodes B E x W) (s:Ag H S) (D:S<=999000) (Z:x.what=11)
  (h0:Au (pw g) s1 (pw E) (.int .i64 (AY T x.tx)) s5 a0) (K:∀ M O,Au (pw g) s1 (pw E) (.int .i64 (AY T x.tx)) s5 M->Dp w own F g r o k H T now safe nodes B x O->Q .normal M O):Yf Tryz.prog (wy CE) Q a0 W:=by
 have a1:=LH J;obtain⟨F2,a,f,j,p,z⟩:=J;obtain⟨V2,L2,c,t,y,c0,c1,c2,_,c4,gl⟩:=a.cells;obtain⟨x0,X,x2,U,xl⟩:=acts _ _ _ j;have I:=LH a;have G:=LH f;have HA:=LH s;have HQ:=LH K;have R:=LH (Pt a.hi s D a.ns);clear x0 X x2 U c1 c2 c4;obtain⟨u,rfl⟩:=h0;clear a f j p z K s c t y;unfold pw Eo at *;simp only[wy,CN,CE,CF,FG,Eu,E8,FH,E2,FI,E9,BB,FF,GY,cL,cR,cT,cE,cB,Tryz.f10,Xf];go_wp2_with fail;refine R.o.mono ?_;rintro e Y ⟨rfl,H3,A,v⟩;obtain⟨b,h,d⟩:=I.o.cq v;have HX:=LH (show Dp w own F g r o k H T now safe nodes B x Y from⟨b,P,F2,H3,T,B,h,G.o.trans d,.fix Z A,W5 _⟩);clear h d R;go_wp2_with fail;exact HQ.o _ _ (Au.mk' _ rfl) HX.o
theorem Qx {R:Int} {D:Nat} {x:ActX} {W:B1} {s1 s5:Hi} {a0:Act} {Q:Yn->Act->B1->Prop} (I:D4 w own P F g r o k H T now safe nodes B D x W) (p:Ag H R) (Z:R<=999000) (Y:x.what=12)
  (h0:Au (pw g) s1 (pw D) (.int .i64 (AY T x.tx)) s5 a0) (J:∀ K M,Au (pw g) s1 (pw D) (.int .i64 (AY T x.tx)) s5 K->Dp w own F g r o k H T now safe nodes B x M->Q .normal K M):Yf Tryz.prog (wy CN) Q a0 W:=by
 have a1:=LH I;obtain⟨F2,a,f,j,s,z⟩:=I;obtain⟨V2,L2,c,t,y,c0,c1,c2,_,c4,gl⟩:=a.cells;obtain⟨x0,U,x2,S,xl⟩:=acts _ _ _ j;have G:=LH a;have E:=LH f;have HA:=LH p;have HQ:=LH J;have O:=LH (Km a.hi p.wf p.c);clear x0 U x2 S c1 c2 c4;obtain⟨u,rfl⟩:=h0;clear a f j s z J p c t y;unfold pw Eo at *;simp only[wy,CN,CE,CF,FG,Eu,E8,FH,E2,FI,E9,BB,FF,GY,cL,cR,cT,cE,cB,Tryz.f10,Xf];go_wp2_with fail;refine O.o.mono ?_;rintro e X ⟨rfl,H3,A,v,_,_⟩;obtain⟨b,h,d⟩:=G.o.cq v;have HX:=LH (show Dp w own F g r o k H T now safe nodes B x X from⟨b,P,F2,H3,T,B,h,E.o.trans d,.calm Y A,W5 _⟩);clear h d O;go_wp2_with fail;exact HQ.o _ _ (Au.mk' _ rfl) HX.o
theorem N9 {R:Int} {A:Nat} {x:ActX} {W:B1} {s1 s5:Hi} {a0:Act} {Q:Yn->Act->B1->Prop} (I:D4 w own P F g r o k H T now safe nodes B A x W) (p:Ag H R) (a2:R<=999000) (Y:x.what=5) (K:x.a.tmod 4=0)
  (h0:Au (pw g) s1 (pw A) (.int .i64 (AY T x.tx)) s5 a0) (J:∀ M O,Au (pw g) s1 (pw A) (.int .i64 (AY T x.tx)) s5 M->Dp w own F g r o k H T now safe nodes B x O->Q .normal M O):Yf Tryz.prog (wy E8) Q a0 W:=by
 have a3:=LH I;obtain⟨F2,a,f,j,s,z⟩:=I;obtain⟨V2,L2,c,t,y,c0,c1,c2,_,c4,gl⟩:=a.cells;obtain⟨x0,U,x2,S,xl⟩:=acts _ _ _ j;have G:=LH a;have D:=LH f;have HA:=LH p;have HQ:=LH J;have E:=LH (Su a.hi p.wf p.c (AY T x.tx));have Z:IntKind.i64.wrap (x.a.tmod 4)=x.a.tmod 4:=V8 _ (by have:=Int.tmod_lt_of_pos x.a (show(0:Int)<4 by omega);have:=Int.lt_tmod_of_pos x.a (show(0:Int)<4 by omega);constructor <;> omega);have a1:(x.a.tmod 4 == 0)=T2:=by simpa using K
 clear x0 U S c1 c2 c4;unfold Gt at E;obtain⟨u,rfl⟩:=h0;clear a f j s z J p c t y;unfold pw Eo at *;simp only[wy,CN,CE,CF,FG,Eu,E8,FH,E2,FI,E9,BB,FF,GY,cL,cR,cT,cE,cB,Tryz.f10,Xf];go_wp2_with fail;refine E.o.mono ?_;rintro e X ⟨rfl,v⟩;obtain⟨b,h,d⟩:=G.o.cq v;have HX:=LH (show Dp w own F g r o k H T now safe nodes B x X from⟨b,P,F2,_,T,B,h,D.o.trans d,.drop Y K,W5 _⟩);clear h d E;go_wp2_with fail;exact HQ.o _ _ (Au.mk' _ rfl) HX.o
theorem N8 {G:Int} {p:Nat} {x:ActX} {W:B1} {s1 s5:Hi} {a0:Act} {Q:Yn->Act->B1->Prop} (v:D4 w own P F g r o k H T now safe nodes B p x W) (y:Ag H G) (R:G<=999000) (K:x.what=5) (A:x.a.tmod 4≠0)
  (S:Au (pw g) s1 (pw p) (.int .i64 (AY T x.tx)) s5 a0) (z:∀ D E,Au (pw g) s1 (pw p) (.int .i64 (AY T x.tx)) s5 D->Dp w own F g r o k H T now safe nodes B x E->Q .normal D E):Yf Tryz.prog (wy E8) Q a0 W:=by
 have a1:=LH v;obtain⟨F2,a,c,d,e,j⟩:=v;obtain⟨V2,L2,b,f,h,c0,Y,X,_,U,gl⟩:=a.cells;obtain⟨x0,J,x2,I,xl⟩:=acts _ _ _ d;have t:=LH a;have s:=LH c;have HA:=LH y;have HQ:=LH z;have M:IntKind.i64.wrap (x.a.tmod 4)=x.a.tmod 4:=V8 _ (by have:=Int.tmod_lt_of_pos x.a (show(0:Int)<4 by omega);have:=Int.lt_tmod_of_pos x.a (show(0:Int)<4 by omega);constructor <;> omega);have O:(x.a.tmod 4 == 0)=Jx:=by simpa using A
 clear x0 J I Y X U;obtain⟨u,rfl⟩:=S;clear a c d e j z y b f h;unfold pw Eo at *;simp only[wy,CN,CE,CF,FG,Eu,E8,FH,E2,FI,E9,BB,FF,GY,cL,cR,cT,cE,cB,Tryz.f10,Xf];have Z:=LH (show Dp w own F g r o k H T now safe nodes B x W from⟨own,P,F2,_,T,B,t.o,s.o,.dropE K A,W5 _⟩);go_wp2_with fail;exact HQ.o _ _ (Au.mk' _ rfl) Z.o
theorem Iy {Bd:Int} {I:Nat} {x:ActX} {W:B1} {s1 s5:Hi} {a0:Act} {Q:Yn->Act->B1->Prop} (R:D4 w own P F g r o k H T now safe nodes B I x W) (t:Ag H Bd) (a3:Bd<=999000) (O:x.what=6) (s:0<H.net.l.length)
  (h0:Au (pw g) s1 (pw I) (.int .i64 (AY T x.tx)) s5 a0) (S:∀ U X,Au (pw g) s1 (pw I) (.int .i64 (AY T x.tx)) s5 U->Dp w own F g r o k H T now safe nodes B x X->Q .normal U X):Yf Tryz.prog (wy Eu) Q a0 W:=by
 have a4:=LH R;obtain⟨F2,a,h,p,v,E⟩:=R;obtain⟨V2,L2,c,z,D,c0,c1,c2,_,c4,gl⟩:=a.cells;obtain⟨x0,x1,x2,x3,xl⟩:=acts _ _ _ p;have M:=LH a;have J:=LH h;have HA:=LH t;have HQ:=LH S;have Y:=LH (q6z a.hi);have y:H.net.l.length<=200:=a.hi.cf;have K:=LH (q3v x.a H.net.l.length s (by omega) W);have d:=Rj x.a (n:=H.net.l.length) s;have Z:=LH (qa2 a.hi t.wf t.c d);rw[O] at x0;clear x1 x3 c1 c2 c4 d;unfold pw at Y;obtain⟨u,rfl⟩:=h0;clear a h p v E S t c z D;unfold pw Eo at *;simp only[wy,CN,CE,CF,FG,Eu,E8,FH,E2,FI,E9,BB,FF,GY,cL,cR,cT,cE,cB,Tryz.f10,Xf];have a2:decide ((0:Int)<H.net.l.length)=T2:=decide_eq_true (by omega);have a1:decide (0<H.net.l.length)=T2:=decide_eq_true s;go_wp2_with fail;refine Y.o.mono ?_;rintro e w2 ⟨rfl,rfl⟩;go_wp2_with fail;refine K.o.mono ?_;rintro e w2 ⟨rfl,rfl⟩;go_wp2_with fail;refine Z.o.mono ?_;rintro e w3 ⟨rfl,H3,G,A⟩;obtain⟨b,j,f⟩:=M.o.cq A;have HX:=LH (show Dp w own F g r o k H T now safe nodes B x w3 from⟨b,P,F2,H3,T,B,j,J.o.trans f,.deliver O s G,W5 _⟩);clear j f Z;go_wp2_with fail;exact HQ.o _ _ (Au.mk' _ rfl) HX.o
theorem Qu {Z:Int} {E:Nat} {x:ActX} {W:B1} {s1 s5:Hi} {a0:Act} {Q:Yn->Act->B1->Prop} (M:D4 w own P F g r o k H T now safe nodes B E x W) (O:Ag H Z) (a3:Z<=999000) (K:x.what=7) (s:0<H.net.l.length)
  (h0:Au (pw g) s1 (pw E) (.int .i64 (AY T x.tx)) s5 a0) (R:∀ S U,Au (pw g) s1 (pw E) (.int .i64 (AY T x.tx)) s5 S->Dp w own F g r o k H T now safe nodes B x U->Q .normal S U):Yf Tryz.prog (wy Eu) Q a0 W:=by
 have a4:=LH M;obtain⟨F2,a,h,p,t,D⟩:=M;obtain⟨V2,L2,c,y,A,c0,c1,c2,_,c4,gl⟩:=a.cells;obtain⟨x0,x1,x2,x3,xl⟩:=acts _ _ _ p;have J:=LH a;have G:=LH h;have HA:=LH O;have HQ:=LH R;have X:=LH (q6z a.hi);have v:H.net.l.length<=200:=a.hi.cf;have I:=LH (q3v x.a H.net.l.length s (by omega) W);have d:=Rj x.a (n:=H.net.l.length) s;have Y:=LH (Ps a.hi d);rw[K] at x0;clear x1 x3 c1 c2 c4 d;unfold pw at X;obtain⟨u,rfl⟩:=h0;clear a h p t D R O c y A;unfold pw Eo at *;simp only[wy,CN,CE,CF,FG,Eu,E8,FH,E2,FI,E9,BB,FF,GY,cL,cR,cT,cE,cB,Tryz.f10,Xf];have a2:decide ((0:Int)<H.net.l.length)=T2:=decide_eq_true (by omega);have a1:decide (0<H.net.l.length)=T2:=decide_eq_true s;go_wp2_with fail;refine X.o.mono ?_;rintro e w2 ⟨rfl,rfl⟩;go_wp2_with fail;refine I.o.mono ?_;rintro e w2 ⟨rfl,rfl⟩;go_wp2_with fail;refine Y.o.mono ?_;rintro e w3 ⟨rfl,z⟩;obtain⟨b,j,f⟩:=J.o.cq z;have HX:=LH (show Dp w own F g r o k H T now safe nodes B x w3 from⟨b,P,F2,_,T,B,j,G.o.trans f,.lose K s,W5 _⟩);clear j f Y;go_wp2_with fail;exact HQ.o _ _ (Au.mk' _ rfl) HX.o
theorem N7 {Z:Int} {G:Nat} {x:ActX} {W:B1} {s1 s5:Hi} {a0:Act} {Q:Yn->Act->B1->Prop} (O:D4 w own P F g r o k H T now safe nodes B G x W) (y:Ag H Z) (a3:Z<=999000) (M:x.what=8) (s:0<H.net.l.length)
  (h0:Au (pw g) s1 (pw G) (.int .i64 (AY T x.tx)) s5 a0) (R:∀ S U,Au (pw g) s1 (pw G) (.int .i64 (AY T x.tx)) s5 S->Dp w own F g r o k H T now safe nodes B x U->Q .normal S U):Yf Tryz.prog (wy Eu) Q a0 W:=by
 have a4:=LH O;obtain⟨F2,a,h,p,t,E⟩:=O;obtain⟨V2,L2,c,z,D,c0,c1,c2,_,c4,gl⟩:=a.cells;obtain⟨x0,x1,x2,x3,xl⟩:=acts _ _ _ p;have K:=LH a;have I:=LH h;have HA:=LH y;have HQ:=LH R;have X:=LH (q6z a.hi);have v:H.net.l.length<=200:=a.hi.cf;have J:=LH (q3v x.a H.net.l.length s (by omega) W);have d:=Rj x.a (n:=H.net.l.length) s;have Y:=LH (Mk a.hi y.wf d);rw[M] at x0;clear x1 x3 c1 c2 c4 d;unfold pw at X;obtain⟨u,rfl⟩:=h0;clear a h p t E R y c z D;unfold pw Eo at *;simp only[wy,CN,CE,CF,FG,Eu,E8,FH,E2,FI,E9,BB,FF,GY,cL,cR,cT,cE,cB,Tryz.f10,Xf];have a2:decide ((0:Int)<H.net.l.length)=T2:=decide_eq_true (by omega);have a1:decide (0<H.net.l.length)=T2:=decide_eq_true s;go_wp2_with fail;refine X.o.mono ?_;rintro e w2 ⟨rfl,rfl⟩;go_wp2_with fail;refine J.o.mono ?_;rintro e w2 ⟨rfl,rfl⟩;go_wp2_with fail;refine Y.o.mono ?_;rintro e w3 ⟨rfl,A⟩;obtain⟨b,j,f⟩:=K.o.cq A;have HX:=LH (show Dp w own F g r o k H T now safe nodes B x w3 from⟨b,P,F2,_,T,B,j,I.o.trans f,.twice M s,W5 _⟩);clear j f Y;go_wp2_with fail;exact HQ.o _ _ (Au.mk' _ rfl) HX.o
theorem q8t {J:Int} {t:Nat} {x:ActX} {W:B1} {s1 s5:Hi} {a0:Act} {Q:Yn->Act->B1->Prop} (z:D4 w own P F g r o k H T now safe nodes B t x W) (A:Ag H J) (S:J<=999000) (O:6<=x.what/\x.what<=8) (R:¬0<H.net.l.length)
  (U:Au (pw g) s1 (pw t) (.int .i64 (AY T x.tx)) s5 a0) (D:∀ E G,Au (pw g) s1 (pw t) (.int .i64 (AY T x.tx)) s5 E->Dp w own F g r o k H T now safe nodes B x G->Q .normal E G):Yf Tryz.prog (wy Eu) Q a0 W:=by
 have a1:=LH z;obtain⟨F2,a,c,d,f,s⟩:=z;obtain⟨V2,L2,b,j,p,c0,Z,Y,_,X,gl⟩:=a.cells;obtain⟨x0,M,x2,K,xl⟩:=acts _ _ _ d;have y:=LH a;have v:=LH c;have HA:=LH A;have HQ:=LH D;have I:=LH (q6z a.hi);have h:H.net.l.length<=200:=a.hi.cf;clear x0 M K x2 Z Y X;unfold pw at I;obtain⟨u,rfl⟩:=U;clear a c d f s D A b j p;unfold pw Eo at *;simp only[wy,CN,CE,CF,FG,Eu,E8,FH,E2,FI,E9,BB,FF,GY,cL,cR,cT,cE,cB,Tryz.f10,Xf];have HX:=LH (show Dp w own F g r o k H T now safe nodes B x W from⟨own,P,F2,_,T,B,y.o,v.o,.none O R,W5 _⟩);go_wp2_with fail;refine I.o.mono ?_;rintro e w2 ⟨rfl,rfl⟩;go_wp2_with fail;exact HQ.o _ _ (Au.mk' _ rfl) HX.o
theorem Qw {Bd:Int} {s:Nat} {x:ActX} {W:B1} {s1 s5:Hi} {a0:Act} {Q:Yn->Act->B1->Prop} (hp:D4 w own P F g r o k H T now safe nodes B s x W) (M:Ag H Bd) (a4:Bd<=999000) (hx:x.what=10) (a3:1<=nodes/\nodes<=3) (U:∀ c a d v W,Q (.panic c) (Xj a (Bs d) v) W->Q (.panic c) a W)
  (h0:Au (pw g) s1 (pw s) (.int .i64 (AY T x.tx)) s5 a0) (hQ:∀ a' W',Au (pw g) s1 (pw s) (.int .i64 (AY T x.tx)) s5 a'->Dp w own F g r o k H T now safe nodes B x W'->Q .normal a' W'):Yf Tryz.prog (wy CF) Q a0 W:=by
 have a5:=LH hp;obtain⟨F2,j,E,I,R,Y⟩:=hp;obtain⟨V2,L2,z,S,X,c0,c1,c2,_,c4,gl⟩:=j.cells;obtain⟨x0,x1,x2,x3,xl⟩:=acts _ _ _ I;have a6:=LH j;have Z:=LH E;have HA:=LH M;have HQ:=LH hQ;have K:=LH (j.below (S2 W.heap.size W).drew);have A:=Rj x.a (n:=3) (by omega);have O:=Rj x.tx (n:=nodes) (by omega);have a2:=LH (show VX Tryz.prog 13 #[.int .i64 x.a,.int .i64 3] W.drew fun e w'=>e=.returned (.int .i64 (AX x.a 3))/\W.drew=w' from q3v x.a 3 (by omega) (by omega) W.drew);have a1:=LH (q3v x.tx nodes (by omega) (by omega) W.drew);have HE:=LH (PD K.o.1 M.wf M.c A (show AX x.tx nodes<10 by omega));clear A O x0 x3 c0 c1 c2;obtain⟨u,rfl⟩:=h0;clear j E I R Y hQ M z S X;unfold pw Eo at *;simp only[wy,CN,CE,CF,FG,Eu,E8,FH,E2,FI,E9,BB,FF,GY,cL,cR,cT,cE,cB,Tryz.f10,Xf];unfold SyP at HE;go_upto_region 43 with (fail)
 refine nW ?_;refine CU (fun W=>W.cell? ⟨s,2,B0⟩=Bs (.int .i64 x.a)/\W.cell? ⟨s,1,B0⟩=Bs (.int .i64 x.tx)/\W.cell? ⟨g,4,B0⟩=Bs (.int .i64 nodes)) 11 U (fun f=>?_);have b:(fun W=>W.cell? ⟨s,2,B0⟩=Bs (.int .i64 x.a)/\W.cell? ⟨s,1,B0⟩=Bs (.int .i64 x.tx)/\W.cell? ⟨g,4,B0⟩=Bs (.int .i64 nodes)) W.drew:=⟨x2,x1,c4⟩
 refine nD 0 [11] f b ?_;refine nD 1 [2,3,10,11] f b ?_;refine nA 2 [3,10,11] rfl rfl f b (fun w' h=>by obtain⟨p0,p1,p2⟩:=h;go_simp;rfl) ?_;refine nD 4 [5,10,11] f b ?_;refine nA 5 [10,11] rfl rfl f b (fun w' h=>by obtain⟨p0,p1,p2⟩:=h;go_simp;rfl) ?_;refine nD 6 [7,8,9,10,11] f b ?_;refine nD 7 [8,9,10,11] f b ?_;refine nD 8 [9,10,11] f b ?_;refine nA 9 [10,11] rfl rfl f b (fun w' h=>by obtain⟨p0,p1,p2⟩:=h;go_simp;rfl) ?_;refine nG 3 (fun J p=>?_);go_simp;refine a2.o.mono ?_;rintro e w2 ⟨rfl,rfl⟩;go_simp;refine p _ _ (fun _=>b) ?_;clear p J;refine nG 10 (fun J p=>?_);go_simp;refine a1.o.mono ?_;rintro e w2 ⟨rfl,rfl⟩;go_simp;refine p _ _ (fun _=>b) ?_;clear p J b;refine nG 11 (fun J p=>?_);go_simp;refine HE.o.mono ?_;rintro e w3 ⟨rfl,t,P3,F3,H3,T3,y,B3,G,D,rfl,rfl,rfl,rfl⟩;have HX:=LH (show Dp w own F g r o k H T3 y safe nodes B3 x w3 from⟨t,P3,F3,_,T3,B3,G,Z.o.trans (K.o.2.trans D),.fail hx,W5 _⟩);clear G D;go_simp;refine p _ _ nZ ?_;clear p J;refine nX ?_;clear f;go_wp2_with fail;exact HQ.o _ _ (Au.mk' _ rfl) HX.o
theorem SK {T:List AI} {L:List CI} {i:Nat} {x:CI} (a:L.map (·.t)=T) (c:L[i]? = Bs x) (o:C4) (V:Hi):(L.set i ⟨{ x.t with ops:=x.t.ops++[o] },V⟩).map (·.t)=CY T ((i:Int)+1) o:=by
 unfold CY;have e:((i:Int)+1).toNat-1=i:=by omega
 rw[e];have b:T[i]? = Bs x.t:=by rw[<- a,VT,c];rfl
 rw[b];simp only;rw[if_pos (by omega),<- a,List.map_set]
theorem UZ {H:Hs} {T:List AI} {x:ActX} (c:H.m=T.length) (d:(H.get (AY T x.tx) (AR x.a)).1.1=0):∃ i:Nat,AY T x.tx=(i:Int)+1/\i<T.length:=by
 have h:=R7 T x.tx;by_cases b:AY T x.tx<1
 ·exfalso;have e:(H.get (AY T x.tx) (AR x.a)).1.1=7:=by
   have a:=q1l (H:=H) (id:=AY T x.tx) (k:=AR x.a) (mode:=1) (.inl b);unfold Hs.get;simp only[a];rfl
  omega
 ·exact⟨(AY T x.tx).toNat-1,by omega,by omega⟩
theorem Dd.cb {d a:B1} {s:Nat->Prop} {nodes:Int} (c:Dd d own P s g r o k H T now safe nodes B) {V:Hi} {L:List CI} (h:B7 d g P.g V L now safe nodes B) (E:L.map (·.t)=T) (u:∀ b,DP g V L b->s b) {i p cap:Nat} {x:CI} (j:L[i]? = Bs x) (D:V=.slice (Bs ⟨p,0,B0⟩) L.length cap) {op:C4} (z:True) {V':Hi} (A:Aq d a x.V.ownBlock V'.ownBlock)
  (y:a.ownsRow 0 56 4 V' (x.t.ops.length+1) (x.t.ops.flatMap q62++q62 op)):∃ v,Dd (a.setCell ⟨p,i*3,B0⟩ V') own P v g r o k H (CY T ((i:Int)+1) op) now safe nodes (B+1)/\Ia d own s (a.setCell ⟨p,i*3,B0⟩ V') own v:=by
 obtain⟨a1,a2,G⟩:=h.cb j D z A y;have f:=O0 j;obtain⟨b1,b2⟩:=c.cu a2 (fun b t e=>u b (e.elim (fun e=>.inr (.inr ⟨x,f,e.symm⟩)) (fun e=>.inr (.inl e.symm)))) a1 (SK E j op V') (fun b t=>(G b t).imp (u b) id);exact⟨_,b1,b2⟩
theorem q54 {w:B1} {base n:Nat} {e:TypeId} {size:Nat} {V:Hi} {xs:List Hi} (h:w.ownsRow base e size V n xs) (p:0<n):∃ f cap,V=.slice (Bs ⟨f,0,B0⟩) n cap/\(∀ q,w.frozen? ⟨f,q,B0⟩=Jx)/\f<w.heap.size:=by
 rcases h.2 with ⟨_,e⟩|⟨j,c,b,a,_,d,_⟩
 ·omega
 ·exact⟨j,c,a,fun q=>Ab.frozen (show Ab w j _ b from d) q,(h.lt j (by rw[a];rfl)).2⟩
theorem sxat:∀ (M:List CI) (i:Nat) (x:CI),M[i]? = Bs x->(M.flatMap Ij)[i*3]? = Bs x.V/\(M.flatMap Ij)[i*3+2]? = Bs (.int .i64 x.t.a4)
 | [],i,x,h=>by simp at h
 | y::M,0,x,h=>by
  obtain rfl:y=x:=by simpa using h
  exact⟨rfl,rfl⟩
 | y::M,i+1,x,h=>by
  have a:=sxat M i x (by simpa using h);have c:(i+1)*3=i*3+3:=by omega
  have b:(i+1)*3+2=(i*3+2)+3:=by omega
  rw[b,c,VI];exact a
theorem GL {w:B1} {g gh:Nat} {V:Hi} {L:List CI} {nodes:Int} (h:B7 w g gh V L now safe nodes B) {i a cap:Nat} {x:CI} (c:L[i]? = Bs x) (j:V=.slice (Bs ⟨a,0,B0⟩) L.length cap):w.cell? ⟨a,i*3,B0⟩=Bs x.V/\w.cell? ⟨a,i*3+2,B0⟩=Bs (.int .i64 x.t.a4):=by
 have b:=h.row;rw[j] at b;obtain⟨t,_⟩:=List.getElem?_eq_some_iff.1 c;obtain⟨s,p⟩:=sxat L i x c;obtain⟨u,f,e,_,d⟩:=(Rd.au b).2 (by omega);injection e with e;injection e with e1 e2;subst e1 e2;have d0:=d _ _ s;have d2:=d _ _ p;rw[Nat.zero_add] at d0 d2;exact⟨d0,d2⟩
theorem TQ {Bd:Int} {ab:Nat} {x:ActX} {W:B1} {s1 s5:Hi} {a0:Act} {Q:Yn->Act->B1->Prop} (hp:D4 w own P F g r o k H T now safe nodes B ab x W) (ha:Ag H Bd) (aO:Bd<=999000) (hx:x.what=1) (hm:H.m=T.length) (h7:T.length<=7) (hB:B<=1000) (ax:∀ c a d v W,Q (.panic c) (Xj a (Bs d) v) W->Q (.panic c) a W)
  (h0:Au (pw g) s1 (pw ab) (.int .i64 (AY T x.tx)) (.string ⟨(AR x.a).toArray⟩) a0) (hQ:∀ a' W',Au (pw g) s1 (pw ab) (.int .i64 (AY T x.tx)) (.string ⟨(AR x.a).toArray⟩) a'->Dp w own F g r o k H T now safe nodes B x W'->Q .normal a' W'):Yf Tryz.prog (wy FI) Q a0 W:=by
 have aQ:=LH hp;obtain⟨F2,M,af,ai,ar,ay⟩:=hp;obtain⟨V2,L2,a8,aw,X,c0,c1,c2,_,c4,gl⟩:=M.cells;obtain⟨x0,x1,x2,x3,xl⟩:=acts _ _ _ ai;have ap:=LH M;have al:=LH af;have HA:=LH ha;have HQ:=LH hQ;have HE:=LH (JT M.hi ha.wf M.ns ha.c (AY T x.tx) (AR x.a) (OF _));have a1:=LH (fun S=>UZ (H:=H) (T:=T) (x:=x) hm S);have a3:=LH (fun S=>Br.get (safe:=safe) (nodes:=nodes) (now:=now) (H:=H) (T:=T) (x:=x) hx S);have a2:=LH (fun S=>Br.getE (safe:=safe) (nodes:=nodes) (now:=now) (H:=H) (T:=T) (x:=x) hx S);have aR:=LH (KJ (OF x.a));clear x0 x1 x2 x3 xl c1 c2 c4;unfold PV at HE;obtain⟨u,rfl⟩:=h0;clear M af ai ar ay hQ ha a8 aw X;unfold pw Eo at *;simp only[wy,CN,CE,CF,FG,Eu,E8,FH,E2,FI,E9,BB,FF,GY,cL,cR,cT,cE,cB,Tryz.f10,Xf];generalize AY T x.tx=aq at *;obtain⟨r0,hr⟩:∃ r0,H.get aq (AR x.a)=r0:=⟨_,rfl⟩
 rw[hr] at HE a1 a3 a2;obtain⟨⟨er,v,b⟩,H3⟩:=r0;clear hr;go_wp2_with fail;refine HE.o.mono ?_;rintro e O ⟨rfl,ag⟩;obtain⟨a4,Y,ae⟩:=ap.o.cq ag;have ao:=LH Y;have ak:=LH (al.o.trans ae);clear ag ae HE ap al;by_cases S:er=0
 ·subst S;obtain⟨i,hi,aJ⟩:=a1.o rfl;have aB:=LH (a3.o rfl);subst hi;obtain⟨V3,Z,j,a6,X,_,c1,_,_,_,aj⟩:=Y.cells;have aD:Z.length=T.length:=by rw[<- a6,Wh]
  have aa:i<Z.length:=by omega
  obtain⟨y,hy⟩:∃ y,Z[i]? = Bs y:=⟨_,K0 aa⟩
  have I:=O0 hy;obtain⟨gV,cap,U,aM,ac⟩:=q54 j.row (show 0<Z.length by omega);obtain⟨A3,k3,R,_,_⟩:=AK (j.ops y I).1;obtain⟨d0,_⟩:=GL j hy U;rw[R] at d0;rw[U] at c1;have aG:=(j.ops y I).2.1;have K:=(j.ops y I).1;rw[R] at K;have am:=LH K;have z:=LH j;have aA:=LH a6;have aC:=LH X;have HY:=LH hy;have az:=LH R;have a7:=LH U;have aI:IntKind.i64.wrap ((i:Int)+1-1)=i:=by rw[show(i:Int)+1-1=i by omega];exact V8 _ ⟨by omega,by omega⟩
  have aH:IntKind.i64.wrap (i:Int)=i:=V8 _ ⟨by omega,by omega⟩;have aL:decide ((0:Int)<(i:Int)+1)=T2:=decide_eq_true (by omega);clear j a6 X hy R U K Y a1 a3 a2;simp only[CX,if_pos];have aK:(i:Int)<Z.length:=by omega
  go_upto_region 15 with (fail)
  refine nW ?_;refine CU (fun W=>W.cell? ⟨g,1,B0⟩=Bs (.slice (Bs ⟨gV,0,B0⟩) Z.length cap)/\W.cell? ⟨gV,i*3,B0⟩=Bs (.slice A3 y.t.ops.length k3)) 21 ax (fun h=>?_);have f:(fun W=>W.cell? ⟨g,1,B0⟩=Bs (.slice (Bs ⟨gV,0,B0⟩) Z.length cap)/\W.cell? ⟨gV,i*3,B0⟩=Bs (.slice A3 y.t.ops.length k3)) O.drew:=⟨c1,d0⟩
  refine nD 0 [1,2,3,21,22,23] h f ?_;refine nD 1 [2,3,21,22,23] h f ?_;refine nD 2 [3,21,22,23] h f ?_;refine nA 3 [21,22,23] rfl rfl h f (fun w' J=>by obtain⟨p0,p1⟩:=J;go_simp;rfl) ?_;refine nD 4 [5,21,22,23] h f ?_;refine nD 5 [21,22,23] h f ?_;refine nD 6 [7,8,9,12,13,14,20,21,22,23] h f ?_;refine nD 7 [8,9,12,13,14,20,21,22,23] h f ?_;refine nD 8 [9,12,13,14,20,21,22,23] h f ?_;refine nA 9 [12,13,14,20,21,22,23] rfl rfl h f (fun w' J=>by obtain⟨p0,p1⟩:=J;go_simp;rfl) ?_;refine nD 10 [11,12,13,14,20,21,22,23] h f ?_;refine nD 11 [12,13,14,20,21,22,23] h f ?_;refine nD 12 [13,14,20,21,22,23] h f ?_;refine nD 13 [14,20,21,22,23] h f ?_;refine nA 14 [20,21,22,23] rfl rfl h f (fun w' J=>by obtain⟨p0,p1⟩:=J;go_simp;rfl) ?_;refine nD 15 [18,19,20,21,22,23] h f ?_;refine nD 16 [18,19,20,21,22,23] h f ?_;refine nD 17 [18,19,20,21,22,23] h f ?_;refine nD 18 [19,20,21,22,23] h f ?_;have E:∀ o q p,q<O.heap.size->(O.alloc o).cell? ⟨q,p,B0⟩=O.cell? ⟨q,p,B0⟩:=fun o q p hq=>WY O o ⟨q,p,B0⟩ hq
  refine nG 19 (fun KK G=>?_);go_simp;refine G _ _ (fun _=>⟨(E _ _ _ aj).trans f.1,(E _ _ _ ac).trans f.2⟩) ?_;clear G KK f E;refine nG 20 (fun KK G=>?_);refine TE O.drew O.heap.size rfl _ (.tmp 122) (.tmp 127) 50 rfl 0 56 _ 4 48 Tryz.underlying50 M9 rfl (by decide) _ _ _ #[.int .i64 1,.string ⟨(AR x.a).toArray⟩,.string ⟨v.toArray⟩,.bool b] rfl am.o 1 rfl _ rfl rfl (by simp[Wy]) (by unfold VZ;omega) (by omega) (VK _) ?_;intro V6 w6 A D;have s:Aq O w6 y.V.ownBlock V6.ownBlock:=by rw[az.o];exact⟨⟨D.1.os,D.1.tape,D.1.output,D.1.size,D.1.block⟩,D.2⟩
  obtain⟨F6,ah,ad⟩:=Dd.cb (op:=opG x.a ((0,v,b),H3)) ao.o z.o aA.o aC.o HY.o a7.o trivial s A;have HX:=LH (show Dp w own F g r o k H T now safe nodes B x (w6.setCell ⟨gV,i*3,B0⟩ V6) from⟨a4,P,F6,H3,_,B+1,ah,ak.o.trans ad,aB.o,L1 _⟩);have a9:=s.1.own z.o.row (fun b hb e=>E0 z.o.row (z.o.ops y I).1 (by decide) hb e.symm);obtain⟨aP,aF,t,a5,aE⟩:=q54 a9 (show 0<Z.length by omega);rw[a7.o] at t;injection t with t _ _;injection t with t;injection t with t _ _;subst t;have aN:=a5 (i*3);have an:=LH (show(fun W=>W.cell? ⟨g,1,B0⟩=Bs (.slice (Bs ⟨gV,0,B0⟩) Z.length cap)/\W.cell? ⟨gV,i*3,B0⟩=Bs (.slice A3 y.t.ops.length k3)) w6 from⟨(s.1.cell (p:=⟨g,1,B0⟩) aj (fun e=>Be (z.o.ops y I).1 z.o.ah (by decide) e.symm)).trans c1,(s.1.cell (p:=⟨gV,i*3,B0⟩) ac (fun e=>E0 z.o.row (z.o.ops y I).1 (by decide) (by rw[a7.o];rfl) e.symm)).trans d0⟩);have y0:=an.o.2;obtain⟨A7,c7,av,_,_⟩:=AK A;subst av;clear D s A a9 ah ad a5;go_simp;refine G _ _ (fun _=>an.o) ?_;clear G KK;refine nG 21 (fun KK G=>?_);go_simp;refine G _ _ nZ ?_;clear G KK;refine nG 22 (fun KK G=>?_);go_simp;refine G _ _ nZ ?_;clear G KK;refine nG 23 (fun KK G=>?_);go_simp;refine G _ _ nZ ?_;clear G KK;refine nX ?_;clear h;go_wp2_with fail;exact HQ.o _ _ (Au.mk' _ rfl) HX.o

 ·have HX:=LH (show Dp w own F g r o k H T now safe nodes B x O from⟨a4,P,F2,H3,T,B,ao.o,ak.o,a2.o S,W5 _⟩);have au:CX er=.iface 79 (.int .i64 er):=if_neg S;simp only[au];clear Y a1 a3 a2;go_wp2_with fail;exact HQ.o _ _ (Au.mk' _ rfl) HX.o
theorem Uw {H:Hs} {T:List AI} {x:ActX} (c:H.m=T.length) (d:(H.put (AY T x.tx) (OO x)).1=0):∃ i:Nat,AY T x.tx=(i:Int)+1/\i<T.length:=by
 have h:=R7 T x.tx;by_cases b:AY T x.tx<1
 ·exfalso;have e:(H.put (AY T x.tx) (OO x)).1=7:=by
   have a:=q1l (H:=H) (id:=AY T x.tx) (k:=sx (OO x).key) (mode:=2) (.inl b);unfold Hs.put;rw[if_neg (by have:=qa3 x.val;show ¬40<(CH x.val).size;omega)];simp only[a];rfl
  omega
 ·exact⟨(AY T x.tx).toNat-1,by omega,by omega⟩
def PuC (w:B1) (own:Ai) (P:Aw) (F:Nat->Prop) (g r o k:Nat) (H:Hs) (T:List AI) (now:Int) (safe:Bool) (nodes:Int) (B c b:Nat) (x:ActX) (W:B1):Prop:=
 ∃ a,Dd W own P a g r o k H T now safe nodes B/\Ia w own F W own a/\Ab W c 34 (ED x)/\own c=B0/\¬a c/\Ab W b 45 #[.string ⟨(AR x.a).toArray⟩,.string (CH x.val),.bool (x.what == 3)]/\own b=B0/\¬a b
theorem D4.put0 {nodes:Int} {j:Nat} {x:ActX} {W:B1} (h:D4 w own P F g r o k H T now safe nodes B j x W) (t:w.heap.size<=W.heap.size) {v:ByteArray} (p:v=CH x.val):PuC w own P F g r o k H T now safe nodes B j W.heap.size x (W.alloc (.cells #[.string ⟨(AR x.a).toArray⟩,.string v,.bool (x.what == 3)] 45)):=by
 subst p;obtain⟨s,a,b,c,d,e⟩:=h;have f:VJ W.heap.size W (W.alloc (.cells #[.string ⟨(AR x.a).toArray⟩,.string (CH x.val),.bool (x.what == 3)] 45)):=(S2 W.heap.size W).alloc (L1 _) _;obtain⟨a2,b2⟩:=a.below f;exact⟨s,a2,b.trans b2,(DV f).ah c (fun hs=>by have:=c.lt;omega),d,e,Ab.new W _ _,a.hi.free (L1 _),fun e=>Nat.lt_irrefl _ (a.Fl _ e)⟩
theorem PuC.drew {nodes:Int} {p j:Nat} {x:ActX} {W:B1} (h:PuC w own P F g r o k H T now safe nodes B p j x W):PuC w own P F g r o k H T now safe nodes B p j x W.drew:=by
 obtain⟨t,a,b,c,d,e,f,d2,s⟩:=h;obtain⟨a2,b2⟩:=a.below (S2 W.heap.size W).drew;exact⟨t,a2,b.trans b2,c,d,e,f,d2,s⟩
section
variable {P:Program} {md:Region.Mode} {ops:Array Oper} {Q:Yn->Act->B1->Prop} {N:Nat} {C:B1->Prop}
theorem RG (i:Nat) {o:Oper} {fuel:Nat} {b:Array Bool} {a:Act} {w:B1} (c:Region.ready md ops b=[i]) (p:ops[i]? = Bs o)
  (f:Region.wanted o (yielded ops a.tmps)=Jx) (t:i<N->C w) (h:B5 P md ops Q N C fuel (b.setIfInBounds i T2) (a.put o.dst Yc) w):B5 P md ops Q N C (fuel+1) b a w:=
 ⟨(fun e=>by rw[c] at e;cases e),fun j d=>by
  rw[c] at d;obtain rfl:j=i:=by simpa using d
  exact wpOp_step p (fun u s=>by rw[if_neg (by rw[f];simp)];exact s _ _ ⟨t,h⟩)⟩
end
def Kw (s0 s1 s3 s4 s5:Hi) (b:Nat) (a:Act):Prop:=∃ u:Nat->Hi,u 11=.pointer (Bs ⟨b,0,B0⟩)/\a=Eo s0 s1 s3 s4 s5 u
theorem Kw.mk' {s0 s1 s3 s4 s5:Hi} {a:Nat} (t:Array Hi) (h:({ tmps:=t,defers:=[] } : Act)=Eo s0 s1 s3 s4 s5 (fun k=>lkF t.toList k)) (b:lkF t.toList 11=.pointer (Bs ⟨a,0,B0⟩)):Kw s0 s1 s3 s4 s5 a { tmps:=t,defers:=[] }:=⟨_,b,h⟩
theorem Ix {Bd:Int} {ab G:Nat} {x:ActX} {W:B1} {s1:Hi} {a0:Act} {Q:Yn->Act->B1->Prop} {K:Act->B1->Prop} (aI:∀ a w,Yf Tryz.prog (cR (cR (cR (wy E2)))) Q a w->K a w) (hp:PuC w own P F g r o k H T now safe nodes B ab G x W) (ha:Ag H Bd) (hx:x.what=2\/x.what=3) (hm:H.m=T.length) (h7:T.length<=7) (hB:B<=1000) (ap:∀ c a d v W,Q (.panic c) (Xj a (Bs d) v) W->Q (.panic c) a W)
  (h0:Kw (pw g) s1 (pw ab) (.int .i64 (AY T x.tx)) (.string ⟨(AR x.a).toArray⟩) G a0) (hQ:∀ a' W',Au (pw g) s1 (pw ab) (.int .i64 (AY T x.tx)) (.string ⟨(AR x.a).toArray⟩) a'->Dp w own F g r o k H T now safe nodes B x W'->Q .normal a' W'):Yf Tryz.prog (cL (cR (cR (wy E2)))) (Exit.then K Q) a0 W:=by
 have a9:=LH (fun he=>Uw (H:=H) (T:=T) (x:=x) hm he);have ad:=LH (fun he=>Br.put (safe:=safe) (nodes:=nodes) (now:=now) (H:=H) (T:=T) (x:=x) hx he);have ac:=LH (fun he=>Br.putE (safe:=safe) (nodes:=nodes) (now:=now) (H:=H) (T:=T) (x:=x) hx he);have HQ:=LH hQ;obtain⟨F2,Y,ao,a8,aj,ar,R,ai,X⟩:=hp.drew;obtain⟨V2,L2,_,_,_,c0,_,_,_,_,gl⟩:=Y.cells;have aJ:=acts _ _ _ a8;have HE:=LH (JQ Y.hi ha.wf Y.ns ha.c (AY T x.tx) (AR x.a) (OF _) (CH x.val) (by have:=qa3 x.val;omega) (x.what == 3));rw[show(⟨⟨(AR x.a).toArray⟩,CH x.val,x.what == 3⟩:Pr)=OO x from rfl] at HE;have k0:=R.cell 0;have k1:=R.cell 1;have k2:=R.cell 2;have kl:=R.lt;simp only[Ft,D0,N2] at k0 k1 k2;have aC:=LH Y;have ay:=LH ao;have S:=LH (show Ab W.drew ab _ _/\own ab=B0/\¬F2 ab/\Ab W.drew G _ _/\own G=B0/\¬F2 G from⟨a8,aj,ar,R,ai,X⟩);obtain⟨u,hu,rfl⟩:=h0;clear Y ao a8 aj ar R ai X hQ aJ hp ha gl;unfold Gt at HE;unfold pw Eo at *;generalize al:(x.what == 3)=gb at *;generalize AY T x.tx=aF at *;generalize ah:H.put aF (OO x)=aE at *;have b0:=LH al;clear al ah;obtain⟨er,H3⟩:=aE;rw[hu];simp only[wy,CN,CE,CF,FG,Eu,E8,FH,E2,FI,E9,BB,FF,GY,cL,cR,cT,cE,cB,Tryz.f10,Xf] at aI ⊢;go_upto_region 21 with (fail)
 refine nW ?_;refine CU (fun W=>W.cell? ⟨g,0,B0⟩=Bs (.pointer (Bs ⟨P.g,0,B0⟩))/\W.cell? ⟨G,0,B0⟩=Bs (.string ⟨(AR x.a).toArray⟩)/\W.cell? ⟨G,1,B0⟩=Bs (.string (CH x.val))/\W.cell? ⟨G,2,B0⟩=Bs (.bool gb)/\G<W.heap.size) 6 ap (fun h=>?_);have f:(fun W=>W.cell? ⟨g,0,B0⟩=Bs (.pointer (Bs ⟨P.g,0,B0⟩))/\W.cell? ⟨G,0,B0⟩=Bs (.string ⟨(AR x.a).toArray⟩)/\W.cell? ⟨G,1,B0⟩=Bs (.string (CH x.val))/\W.cell? ⟨G,2,B0⟩=Bs (.bool gb)/\G<W.heap.size) W.drew:=⟨c0,k0,k1,k2,kl⟩
 refine nD 0 [1,2,3,6,7,8,9,10,11] h f ?_;refine nD 1 [2,3,6,7,8,9,10,11] h f ?_;refine nD 2 [3,6,7,8,9,10,11] h f ?_;refine nA 3 [6,7,8,9,10,11] rfl rfl h f (fun w' t=>by obtain⟨p0,p1,p2,p3,pl⟩:=t;go_simp;rfl) ?_;refine nD 4 [6,7,8,9,10,11] h f ?_;refine nA 5 [6,7,8,9,10,11] rfl rfl h f (fun w' t=>by obtain⟨p0,p1,p2,p3,pl⟩:=t;go_simp;rfl) ?_;clear f;refine nG 6 (fun s j=>?_);go_simp;refine HE.o.mono ?_;rintro e Z ⟨rfl,aq⟩;obtain⟨a5,a4,a2⟩:=aC.o.cq aq;have aB:=LH a4;have aD:=LH (a2.fr.ah S.o.1 (fun e=>e.elim (fun e=>e S.o.2.1) S.o.2.2.1));have ae:=LH (a2.fr.ah S.o.2.2.2.1 (fun e=>e.elim (fun e=>e S.o.2.2.2.2.1) S.o.2.2.2.2.2));have ax:=LH (ay.o.trans a2);clear aq a2 HE aC ay c0 k0 k1 k2 kl;by_cases he:er=0
 ·subst he;obtain⟨i,hi,aU⟩:=a9.o rfl;have aM:=LH (ad.o rfl);subst hi;have aW:decide ((0:Int)<(i:Int)+1)=T2:=decide_eq_true (by omega);simp only[CX,if_pos];go_simp;refine j _ _ nZ ?_;clear j s;refine nG 7 (fun s j=>?_);go_simp;refine j _ _ nZ ?_;clear j s;refine nG 8 (fun s j=>?_);go_simp;refine j _ _ nZ ?_;clear j s;refine nG 9 (fun s j=>?_);go_simp;refine j _ _ nZ ?_;clear j s;refine nG 10 (fun s j=>?_);go_simp;refine j _ _ nZ ?_;clear j s;refine nG 11 (fun s j=>?_);go_simp;refine j _ _ nZ ?_;clear j s;refine nX ?_;obtain⟨V3,L3,z,a7,X,_,c1,_,_,_,av⟩:=a4.cells;have aO:L3.length=T.length:=by rw[<- a7,Wh]
  have ak:i<L3.length:=by omega
  obtain⟨y,hy⟩:∃ y,L3[i]? = Bs y:=⟨_,K0 ak⟩
  have I:=O0 hy;obtain⟨gV,cap,a3,aX,am⟩:=q54 z.row (show 0<L3.length by omega);obtain⟨A3,k3,a1,_,_⟩:=AK (z.ops y I).1;obtain⟨d0,_⟩:=GL z hy a3;rw[a1] at d0;rw[a3] at c1;have aR:=(z.ops y I).2.1;have U:=(z.ops y I).1;rw[a1] at U;have az:=LH U;have E:=LH z;have aL:=LH a7;have aN:=LH X;have HY:=LH hy;have aK:=LH a1;have aa:=LH a3;have aT:IntKind.i64.wrap ((i:Int)+1-1)=i:=by rw[show(i:Int)+1-1=i by omega];exact V8 _ ⟨by omega,by omega⟩
  have aS:IntKind.i64.wrap (i:Int)=i:=V8 _ ⟨by omega,by omega⟩;obtain⟨w0,_,_,_,aw⟩:=acts _ _ _ aD.o;have af:=ae.o.lt;have q1:Z.cell? ⟨G,1,B0⟩=Bs (.string (CH x.val)):=ae.o.cell 1;clear z a7 X hy a1 a3 U a4 a9 ad ac;have aV:(i:Int)<L3.length:=by omega
  go_upto_region 22 with (fail)
  refine nW ?_;refine CU (fun W=>W.cell? ⟨g,1,B0⟩=Bs (.slice (Bs ⟨gV,0,B0⟩) L3.length cap)/\W.cell? ⟨gV,i*3,B0⟩=Bs (.slice A3 y.t.ops.length k3)/\W.cell? ⟨ab,0,B0⟩=Bs (.int .i64 x.what)/\W.cell? ⟨G,1,B0⟩=Bs (.string (CH x.val))) 23 ap (fun h=>?_);have f:(fun W=>W.cell? ⟨g,1,B0⟩=Bs (.slice (Bs ⟨gV,0,B0⟩) L3.length cap)/\W.cell? ⟨gV,i*3,B0⟩=Bs (.slice A3 y.t.ops.length k3)/\W.cell? ⟨ab,0,B0⟩=Bs (.int .i64 x.what)/\W.cell? ⟨G,1,B0⟩=Bs (.string (CH x.val))) Z.drew:=⟨c1,d0,w0,q1⟩
  refine nD 0 [1,2,3,23,24,25] h f ?_;refine nD 1 [2,3,23,24,25] h f ?_;refine nD 2 [3,23,24,25] h f ?_;refine nA 3 [23,24,25] rfl rfl h f (fun w' t=>by obtain⟨p0,p1,p2,p3⟩:=t;go_simp;rfl) ?_;refine nD 4 [5,23,24,25] h f ?_;refine nD 5 [23,24,25] h f ?_;refine nD 6 [7,8,9,12,13,14,22,23,24,25] h f ?_;refine nD 7 [8,9,12,13,14,22,23,24,25] h f ?_;refine nD 8 [9,12,13,14,22,23,24,25] h f ?_;refine nA 9 [12,13,14,22,23,24,25] rfl rfl h f (fun w' t=>by obtain⟨p0,p1,p2,p3⟩:=t;go_simp;rfl) ?_;refine nD 10 [11,12,13,14,22,23,24,25] h f ?_;refine nD 11 [12,13,14,22,23,24,25] h f ?_;refine nD 12 [13,14,22,23,24,25] h f ?_;refine nD 13 [14,22,23,24,25] h f ?_;refine nA 14 [22,23,24,25] rfl rfl h f (fun w' t=>by obtain⟨p0,p1,p2,p3⟩:=t;go_simp;rfl) ?_;refine nD 15 [16,20,21,22,23,24,25] h f ?_;refine nA 16 [20,21,22,23,24,25] rfl rfl h f (fun w' t=>by obtain⟨p0,p1,p2,p3⟩:=t;go_simp;rfl) ?_;refine nD 17 [20,21,22,23,24,25] h f ?_;refine nD 18 [19,20,21,22,23,24,25] h f ?_;refine nA 19 [20,21,22,23,24,25] rfl rfl h f (fun w' t=>by obtain⟨p0,p1,p2,p3⟩:=t;go_simp;rfl) ?_;refine nD 20 [21,22,23,24,25] h f ?_;have D:∀ o q p,q<Z.heap.size->(Z.alloc o).cell? ⟨q,p,B0⟩=Z.cell? ⟨q,p,B0⟩:=fun o q p hq=>WY Z o ⟨q,p,B0⟩ hq
  refine nG 21 (fun s j=>?_);go_simp;refine j _ _ (fun _=>⟨(D _ _ _ av).trans f.1,(D _ _ _ am).trans f.2.1,(D _ _ _ aw).trans f.2.2.1,(D _ _ _ af).trans f.2.2.2⟩) ?_;clear j s f D;refine nG 22 (fun s j=>?_);refine TE Z.drew Z.heap.size rfl _ (.tmp 175) (.tmp 182) 50 rfl 0 56 _ 4 48 Tryz.underlying50 M9 rfl (by decide) _ _ _ #[.int .i64 x.what,.string ⟨(AR x.a).toArray⟩,.string (CH x.val),.bool Jx] rfl az.o 1 rfl _ rfl rfl (by simp[Wy]) (by unfold VZ;omega) (by omega) (VK _) ?_;intro V6 w6 M O;have A:Aq Z w6 y.V.ownBlock V6.ownBlock:=by rw[aK.o];exact⟨⟨O.1.os,O.1.tape,O.1.output,O.1.size,O.1.block⟩,O.2⟩
  obtain⟨F6,au,an⟩:=Dd.cb (op:=opP x) aB.o E.o aL.o aN.o HY.o aa.o trivial A M;have HX:=LH (show Dp w own F g r o k H T now safe nodes B x (w6.setCell ⟨gV,i*3,B0⟩ V6) from⟨a5,P,F6,H3,_,B+1,au,ax.o.trans an,aM.o,L1 _⟩);have ag:=A.1.own E.o.row (fun b hb e=>E0 E.o.row (E.o.ops y I).1 (by decide) hb e.symm);obtain⟨aZ,aQ,J,a6,aP⟩:=q54 ag (show 0<L3.length by omega);rw[aa.o] at J;injection J with J _ _;injection J with J;injection J with J _ _;subst J;have aY:=a6 (i*3);have aA:=LH (show(fun W=>W.cell? ⟨g,1,B0⟩=Bs (.slice (Bs ⟨gV,0,B0⟩) L3.length cap)/\W.cell? ⟨gV,i*3,B0⟩=Bs (.slice A3 y.t.ops.length k3)/\W.cell? ⟨ab,0,B0⟩=Bs (.int .i64 x.what)/\W.cell? ⟨G,1,B0⟩=Bs (.string (CH x.val))) w6 from⟨(A.1.cell (p:=⟨g,1,B0⟩) av (fun e=>Be (E.o.ops y I).1 E.o.ah (by decide) e.symm)).trans c1,(A.1.cell (p:=⟨gV,i*3,B0⟩) am (fun e=>E0 E.o.row (E.o.ops y I).1 (by decide) (by rw[aa.o];rfl) e.symm)).trans d0,(A.1.cell (p:=⟨ab,0,B0⟩) aw (fun e=>Be (E.o.ops y I).1 aD.o (by decide) e.symm)).trans w0,(A.1.cell (p:=⟨G,1,B0⟩) af (fun e=>Be (E.o.ops y I).1 ae.o (by decide) e.symm)).trans q1⟩);have y0:=aA.o.2.1;obtain⟨A7,c7,aH,_,_⟩:=AK M;subst aH;clear O A M ag au an a6;go_simp;refine j _ _ (fun _=>aA.o) ?_;clear j s;refine nG 23 (fun s j=>?_);go_simp;refine j _ _ nZ ?_;clear j s;refine nG 24 (fun s j=>?_);go_simp;refine j _ _ nZ ?_;clear j s;refine nG 25 (fun s j=>?_);go_simp;refine j _ _ nZ ?_;clear j s;refine nX ?_;clear h;go_wp2_with fail;exact HQ.o _ _ (Au.mk' _ rfl) HX.o

 ·have HX:=LH (show Dp w own F g r o k H T now safe nodes B x Z from⟨a5,P,F2,H3,T,B,aB.o,ax.o,ac.o he,W5 _⟩);have aG:CX er=.iface 79 (.int .i64 er):=if_neg he;simp only[aG];clear a4 a9 ad ac;go_simp;refine j _ _ nZ ?_;clear j s;refine nG 7 (fun s j=>?_);go_simp;refine j _ _ nZ ?_;clear j s;refine nG 8 (fun s j=>?_);go_simp;refine j _ _ nZ ?_;clear j s;refine RG 9 (by kernel_rfl) rfl (by kernel_rfl) nZ ?_;refine RG 10 (by kernel_rfl) rfl (by kernel_rfl) nZ ?_;refine nG 11 (fun s j=>?_);go_simp;refine j _ _ nZ ?_;clear j s;refine nX ?_;clear h;go_wp2_with fail;exact HQ.o _ _ (Au.mk' _ rfl) HX.o
theorem M3 {Bd:Int} {G:Nat} {x:ActX} {W:B1} {s1 s5:Hi} {a0:Act} {Q:Yn->Act->B1->Prop} (J:D4 w own P F g r o k H T now safe nodes B G x W) (M:Ag H Bd) (a1:Bd<=999000) (I:x.what=2\/x.what=3) (K:H.m=T.length) (U:T.length<=7) (R:B<=1000) (j:∀ c a d v W,Q (.panic c) (Xj a (Bs d) v) W->Q (.panic c) a W)
  (h0:Au (pw g) s1 (pw G) (.int .i64 (AY T x.tx)) (.string ⟨(AR x.a).toArray⟩) a0) (O:∀ X Y,Au (pw g) s1 (pw G) (.int .i64 (AY T x.tx)) (.string ⟨(AR x.a).toArray⟩) X->Dp w own F g r o k H T now safe nodes B x Y->Q .normal X Y):Yf Tryz.prog (wy E2) Q a0 W:=by
 have t:=LH J;obtain⟨F2,b,h,p,y,D⟩:=J;obtain⟨V2,L2,f,z,A,c0,c1,c2,_,c4,gl⟩:=b.cells;obtain⟨x0,x1,x2,x3,xl⟩:=acts _ _ _ p;have a2:=LH b;have s:=LH h;have HA:=LH M;have Z:=LH O;clear x1 x2 c0 c1 c2 c4;obtain⟨u,rfl⟩:=h0;clear b h p y D O M f z A;unfold pw Eo at *;simp only[wy,CN,CE,CF,FG,Eu,E8,FH,E2,FI,E9,BB,FF,GY,cL,cR,cT,cE,cB,Tryz.f10,Xf];by_cases S:9<x.val.size
 ·have E:(9:Int)<x.val.size:=by omega
  have e:=LH (t.o.put0 s.o.fr.size (v:=x.val.extract 0 9) (by unfold CH;rw[if_pos S]));go_upto_region 21 with (fail)
  refine Ix ?_ e.o HA.o I K U R j ?_ Z.o
  rotate_left
  ·exact Kw.mk' _ rfl rfl
  ·assumption
 ·have E:¬(9:Int)<x.val.size:=by omega
  have e:=LH (t.o.put0 s.o.fr.size (v:=x.val) (by unfold CH;rw[if_neg S]));go_upto_region 21 with (fail)
  refine Ix ?_ e.o HA.o I K U R j ?_ Z.o
  rotate_left
  ·exact Kw.mk' _ rfl rfl
  ·assumption
theorem Oa {Bd:Int} {ab:Nat} {x:ActX} {W:B1} {s1 s5:Hi} {a0:Act} {Q:Yn->Act->B1->Prop} (hp:D4 w own P F g r o k H T now safe nodes B ab x W) (ha:Ag H Bd) (aD:Bd<=999000) (hx:x.what=0) (hm:H.m=T.length) (h7:T.length<7) (ar:∀ c a d v W,Q (.panic c) (Xj a (Bs d) v) W->Q (.panic c) a W)
  (h0:Au (pw g) s1 (pw ab) (.int .i64 (AY T x.tx)) s5 a0) (hQ:∀ a' W',Au (pw g) s1 (pw ab) (.int .i64 (AY T x.tx)) s5 a'->Dp w own F g r o k H T now safe nodes B x W'->Q .normal a' W'):Yf Tryz.prog (wy E9) Q a0 W:=by
 have aE:=LH hp;obtain⟨F2,I,a8,ae,an,au⟩:=hp;obtain⟨V2,L2,R,aa,G,c0,c1,c2,_,c4,gl⟩:=I.cells;obtain⟨x0,x1,x2,x3,xl⟩:=acts _ _ _ ae;have al:=LH I;have ag:=LH a8;have HA:=LH ha;have HQ:=LH hQ;have HE:=LH (qac I.hi (by omega));have ay:=LH (Br.begin (safe:=safe) (nodes:=nodes) (now:=now) (H:=H) (T:=T) (x:=x) hx h7);have ao:L2.length=T.length:=by rw[<- aa,Wh]
 obtain⟨A2,k2,a9,_,_⟩:=AK R.row;rw[a9] at c1;unfold Tn at HE;rw[show((H.m+1:Nat):Int)=(L2.length:Int)+1 by omega] at HE;have ai:=LH ao;clear x0 x1 x2 x3 xl c2 c4 a9;obtain⟨u,rfl⟩:=h0;clear I a8 ae an au hQ ha R aa G;unfold pw Eo at *;simp only[wy,CN,CE,CF,FG,Eu,E8,FH,E2,FI,E9,BB,FF,GY,cL,cR,cT,cE,cB,Tryz.f10,Xf];have ap:decide ((L2.length:Int)<7)=T2:=decide_eq_true (by omega);have a3:(L2.length:Int)<7:=by omega
 have am:IntKind.i64.wrap ((L2.length:Int)+1)=(L2.length:Int)+1:=V8 _ ⟨by omega,by omega⟩;go_wp2_with fail;refine HE.o.mono ?_;rintro e O ⟨rfl,b3,a2,ac,a7⟩;obtain⟨Z,a6⟩:=al.o.da (P':={ P with gt:=Ae P.gt (H.m+1) b3 }) ac a7 rfl;have az:=LH Z;have av:=LH (ag.o.trans a6);obtain⟨V3,L3,z,Y,G,_,a1,af,_,_,J⟩:=Z.cells;have a4:L3.length=L2.length:=by rw[ai.o,<- Y,Wh]
 obtain⟨A3,k3,E,_,_⟩:=AK z.row;rw[E] at a1;have D:=z.row;rw[E] at D;have ah:=LH D;have M:=LH z;have ax:=LH Y;have aj:=LH G;have aw:=LH E;clear Z a6 ac a7 HE al ag c0 c1 z Y G E D ap a3 gl;rw[<- a4] at am ⊢;have aA:L3.length<=7:=by omega
 clear a4 ai;go_upto_region 11 with (fail)
 refine nW ?_;refine CU (fun W=>W.cell? ⟨g,1,B0⟩=Bs (.slice A3 L3.length k3)/\W.cell? ⟨g,2,B0⟩=Bs (.int .i64 now)) 12 ar (fun h=>?_);have f:(fun W=>W.cell? ⟨g,1,B0⟩=Bs (.slice A3 L3.length k3)/\W.cell? ⟨g,2,B0⟩=Bs (.int .i64 now)) O.drew:=⟨a1,af⟩
 refine nD 0 [12,13,14] h f ?_;refine nD 1 [2,3,4,11,12,13,14] h f ?_;refine nD 2 [3,4,11,12,13,14] h f ?_;refine nD 3 [4,11,12,13,14] h f ?_;refine nA 4 [11,12,13,14] rfl rfl h f (fun w' S=>by obtain⟨p0,p1⟩:=S;go_simp;rfl) ?_;refine nD 5 [6,7,8,9,10,11,12,13,14] h f ?_;refine nD 6 [7,8,9,10,11,12,13,14] h f ?_;refine nD 7 [8,9,10,11,12,13,14] h f ?_;refine nA 8 [9,10,11,12,13,14] rfl rfl h f (fun w' S=>by obtain⟨p0,p1⟩:=S;go_simp;rfl) ?_;refine nD 9 [10,11,12,13,14] h f ?_;have y:∀ o q p,q<O.heap.size->(O.alloc o).cell? ⟨q,p,B0⟩=O.cell? ⟨q,p,B0⟩:=fun o q p hq=>WY O o ⟨q,p,B0⟩ hq
 refine nG 10 (fun K A=>?_);go_simp;refine A _ _ (fun _=>⟨(y _ _ _ J).trans f.1,(y _ _ _ J).trans f.2⟩) ?_;clear A K f y;refine nG 11 (fun K A=>?_);refine TE O.drew O.heap.size rfl _ (.tmp 79) (.tmp 85) 29 rfl 0 52 _ 3 40 Tryz.underlying29 GJ rfl (by decide) _ _ _ #[.slice B0 0 0,.int .i64 now,.int .i64 (-1)] rfl ah.o 1 rfl _ rfl rfl (by simp[Wy]) (by unfold VZ;omega) (by omega) (VK _) ?_;intro V6 w6 s t;have j:Aq O w6 V3.ownBlock V6.ownBlock:=by rw[aw.o];exact⟨⟨t.1.os,t.1.tape,t.1.output,t.1.size,t.1.block⟩,t.2⟩
 obtain⟨q1,q2,q3⟩:=M.o.cz j s;obtain⟨ad,a5⟩:=az.o.cu q2 (fun b hb e=>aj.o b (e.elim (fun e=>.inr (.inl e.symm)) (fun e=>.inl e))) q1 (T':=T++[⟨[],now,-1⟩]) (by rw[Xe,ax.o];rfl) (fun b hb=>(q3 b hb).imp (aj.o b) id);have HX:=LH (show Dp w own F g r o k H T now safe nodes B x (w6.setCell ⟨g,1,B0⟩ V6) from⟨a2,_,_,_,_,B,ad,av.o.trans a5,ay.o,W5 _⟩);have U:¬Bs g=V3.ownBlock:=fun e=>Be M.o.row M.o.ah (by decide) e.symm
 have ak:=LH (show(fun W=>W.cell? ⟨g,1,B0⟩=Bs (.slice A3 L3.length k3)/\W.cell? ⟨g,2,B0⟩=Bs (.int .i64 now)) w6 from⟨(j.1.cell (p:=⟨g,1,B0⟩) J U).trans a1,(j.1.cell (p:=⟨g,2,B0⟩) J U).trans af⟩);have X:=j.1.ah M.o.ah U;have aC:=X.frozen 1;have aB:=X.lt;have y0:=ak.o.1;obtain⟨A7,c7,aq,_,_⟩:=AK s;subst aq;clear t j s ad a5 X q1 q2 q3;go_simp;refine A _ _ (fun _=>ak.o) ?_;clear A K;refine nG 12 (fun K A=>?_);go_simp;refine A _ _ nZ ?_;clear A K;refine nG 13 (fun K A=>?_);go_simp;refine A _ _ nZ ?_;clear A K;refine nG 14 (fun K A=>?_);go_simp;refine A _ _ nZ ?_;clear A K;refine nX ?_;clear h;go_wp2_with fail;exact HQ.o _ _ (Au.mk' _ rfl) HX.o
theorem Qv {J:Int} {s:Nat} {x:ActX} {W:B1} {s1 s5:Hi} {a0:Act} {Q:Yn->Act->B1->Prop} (z:D4 w own P F g r o k H T now safe nodes B s x W) (D:Ag H J) (X:J<=999000) (R:x.what=0) (Y:¬T.length<7) (h8:T.length<=7)
  (Z:Au (pw g) s1 (pw s) (.int .i64 (AY T x.tx)) s5 a0) (E:∀ G I,Au (pw g) s1 (pw s) (.int .i64 (AY T x.tx)) s5 G->Dp w own F g r o k H T now safe nodes B x I->Q .normal G I):Yf Tryz.prog (wy E9) Q a0 W:=by
 have a1:=LH z;obtain⟨F2,b,c,f,h,p⟩:=z;obtain⟨V2,t,a,e,j,c0,c1,c2,_,c4,gl⟩:=b.cells;obtain⟨x0,O,x2,M,K⟩:=acts _ _ _ f;have y:=LH b;have v:=LH c;have HA:=LH D;have HQ:=LH E;have S:t.length=T.length:=by rw[<- e,Wh]
 obtain⟨A2,k2,d,_,_⟩:=AK a.row;rw[d] at c1;clear x0 O x2 M K c2 c4 d;obtain⟨u,rfl⟩:=Z;clear b c f h p E D a e j;unfold pw Eo at *;simp only[wy,CN,CE,CF,FG,Eu,E8,FH,E2,FI,E9,BB,FF,GY,cL,cR,cT,cE,cB,Tryz.f10,Xf];have U:decide ((t.length:Int)<7)=Jx:=decide_eq_false (by omega);have A:¬(t.length:Int)<7:=by omega
 have HX:=LH (show Dp w own F g r o k H T now safe nodes B x W from⟨own,P,F2,_,T,B,y.o,v.o,.full R Y,W5 _⟩);go_wp2_with fail;exact HQ.o _ _ (Au.mk' _ rfl) HX.o
def NR (s0 s1 s3 s4 s5:Hi) (b:Int) (a:Act):Prop:=∃ u:Nat->Hi,u 46=.int .i64 b/\a=Eo s0 s1 s3 s4 s5 u
theorem NR.mk' {s0 s1 s3 s4 s5:Hi} {a:Int} (t:Array Hi) (h:({ tmps:=t,defers:=[] } : Act)=Eo s0 s1 s3 s4 s5 (fun k=>lkF t.toList k)) (b:lkF t.toList 46=.int .i64 a):NR s0 s1 s3 s4 s5 a { tmps:=t,defers:=[] }:=⟨_,b,h⟩
theorem GX {Bd:Int} {ab:Nat} {x:ActX} {W:B1} {s1:Hi} {a0:Act} {Q:Yn->Act->B1->Prop} {K:Act->B1->Prop} (hp:D4 w own P F g r o k H T now safe nodes B ab x W) (ha:Ag H Bd) (p:Bd<=999000) (R:H.m=T.length) (S:T.length<=7) (Z:B<=1000) (U:1<=nodes/\nodes<=3) (D:∀ c a d v W,Q (.panic c) (Xj a (Bs d) v) W->Q (.panic c) a W)
  (h0:NR (pw g) s1 (pw ab) (.int .i64 (AY T x.tx)) (.string ⟨(AR x.a).toArray⟩) x.what a0) (hQ:∀ f j,Au (pw g) s1 (pw ab) (.int .i64 (AY T x.tx)) (.string ⟨(AR x.a).toArray⟩) f->Dp w own F g r o k H T now safe nodes B x j->K f j):Yf Tryz.prog BB (Exit.then K Q) a0 W:=by
 obtain⟨u,hu,rfl⟩:=h0;have e:=LH hp;have A:=LH ha;have z:=LH hQ;have a1:=LH (fun k (h:x.what=k)=>h);generalize G:x.what=y at *;have b:=LH G;clear hp ha hQ G a1;unfold Eo;rw[hu];simp only[wy,CN,CE,CF,FG,Eu,E8,FH,E2,FI,E9,BB,FF,GY,cL,cR,cT,cE,cB,Tryz.f10,Xf];by_cases e0:y=0
 ·subst e0;go_upto_if 47 with (fail)
  refine Xh rfl ?_;by_cases I:T.length<7
  ·refine Oa e.o A.o p b.o R I (fun c a d v W h=>D c a d v W h) ?_ (fun f j t s=>z.o f j t s);exact Au.mk' _ rfl
  ·refine Qv e.o A.o p b.o I S ?_ (fun f j t s=>z.o f j t s);exact Au.mk' _ rfl
 by_cases e1:y=1
 ·subst e1;go_upto_if 89 with (fail)
  refine Xh rfl ?_;refine TQ (s5:=Yc) e.o A.o p b.o R S Z (fun c a d v W h=>D c a d v W h) ?_ (fun f j t s=>z.o f j t s);exact Au.mk' _ rfl
 by_cases e2:y=2
 ·subst e2;go_upto_if 131 with (fail)
  refine Xh rfl ?_;go_upto_if 131 with (fail)
  refine Xh rfl ?_;refine M3 (s5:=Yc) e.o A.o p (.inl b.o) R S Z (fun c a d v W h=>D c a d v W h) ?_ (fun f j t s=>z.o f j t s);exact Au.mk' _ rfl
 by_cases e3:y=3
 ·subst e3;go_upto_if 131 with (fail)
  refine wp_cond_false rfl ?_;go_upto_if 131 with (fail)
  refine Xh rfl ?_;refine M3 (s5:=Yc) e.o A.o p (.inr b.o) R S Z (fun c a d v W h=>D c a d v W h) ?_ (fun f j t s=>z.o f j t s);exact Au.mk' _ rfl
 by_cases e4:y=4
 ·subst e4;go_upto_if 186 with (fail)
  refine Xh rfl ?_;refine TS e.o A.o p b.o ?_ (fun f j t s=>z.o f j t s);exact Au.mk' _ rfl
 by_cases e5:y=5
 ·subst e5;go_upto_if 194 with (fail)
  refine Xh rfl ?_;by_cases h4:x.a.tmod 4=0
  ·refine N9 e.o A.o p b.o h4 ?_ (fun f j t s=>z.o f j t s);exact Au.mk' _ rfl
  ·refine N8 e.o A.o p b.o h4 ?_ (fun f j t s=>z.o f j t s);exact Au.mk' _ rfl
 by_cases e6:y=6
 ·subst e6;go_upto_if 206 with (fail)
  refine Xh rfl ?_;go_upto_if 206 with (fail)
  refine Xh rfl ?_;by_cases E:0<H.net.l.length
  ·refine Iy e.o A.o p b.o E ?_ (fun f j t s=>z.o f j t s);exact Au.mk' _ rfl
  ·refine q8t e.o A.o p (by rw[b.o];omega) E ?_ (fun f j t s=>z.o f j t s);exact Au.mk' _ rfl
 by_cases e7:y=7
 ·subst e7;go_upto_if 206 with (fail)
  refine wp_cond_false rfl ?_;go_upto_if 206 with (fail)
  refine Xh rfl ?_;go_upto_if 206 with (fail)
  refine Xh rfl ?_;by_cases E:0<H.net.l.length
  ·refine Qu e.o A.o p b.o E ?_ (fun f j t s=>z.o f j t s);exact Au.mk' _ rfl
  ·refine q8t e.o A.o p (by rw[b.o];omega) E ?_ (fun f j t s=>z.o f j t s);exact Au.mk' _ rfl
 by_cases e8:y=8
 ·subst e8;go_upto_if 206 with (fail)
  refine wp_cond_false rfl ?_;go_upto_if 206 with (fail)
  refine wp_cond_false rfl ?_;go_upto_if 206 with (fail)
  refine Xh rfl ?_;by_cases E:0<H.net.l.length
  ·refine N7 e.o A.o p b.o E ?_ (fun f j t s=>z.o f j t s);exact Au.mk' _ rfl
  ·refine q8t e.o A.o p (by rw[b.o];omega) E ?_ (fun f j t s=>z.o f j t s);exact Au.mk' _ rfl
 by_cases e9:y=9
 ·subst e9;go_upto_if 245 with (fail)
  refine Xh rfl ?_;refine Qt e.o A.o p b.o ?_ (fun f j t s=>z.o f j t s);exact Au.mk' _ rfl
 by_cases O:y=10
 ·subst O;go_upto_if 252 with (fail)
  refine Xh rfl ?_;refine Qw e.o A.o p b.o U (fun c a d v W h=>D c a d v W h) ?_ (fun f j t s=>z.o f j t s);exact Au.mk' _ rfl
 by_cases M:y=11
 ·subst M;go_upto_if 266 with (fail)
  refine Xh rfl ?_;refine TR e.o A.o p b.o ?_ (fun f j t s=>z.o f j t s);exact Au.mk' _ rfl
 by_cases J:y=12
 ·subst J;go_upto_if 273 with (fail)
  refine Xh rfl ?_;refine Qx e.o A.o p b.o ?_ (fun f j t s=>z.o f j t s);exact Au.mk' _ rfl
 have b0:(y == 0)=Jx:=by simpa using e0
 have b1:(y == 1)=Jx:=by simpa using e1
 have b2:(y == 2)=Jx:=by simpa using e2
 have b3:(y == 3)=Jx:=by simpa using e3
 have b4:(y == 4)=Jx:=by simpa using e4
 have b5:(y == 5)=Jx:=by simpa using e5
 have b6:(y == 6)=Jx:=by simpa using e6
 have b7:(y == 7)=Jx:=by simpa using e7
 have b8:(y == 8)=Jx:=by simpa using e8
 have b9:(y == 9)=Jx:=by simpa using e9
 have a4:(y == 10)=Jx:=by simpa using O
 have a3:(y == 11)=Jx:=by simpa using M
 have a2:(y == 12)=Jx:=by simpa using J
 have HX:=LH (show Dp w own F g r o k H T now safe nodes B x W from by
  obtain⟨F2,Y,X,_,_,_⟩:=e.o;exact⟨own,P,F2,H,T,B,Y,X,.other (by rw[b.o];omega),W5 _⟩)
 go_wp2_with fail;refine z.o _ _ ?_ HX.o;exact Au.mk' _ rfl
def KG (H:Hs) (now:Int) (i:Nat) (T:List AI):List AI:=T.mapIdx fun j t=>if j<i then Dw H now j t else t
theorem qb9 (H:Hs) (now:Int) (i:Nat) (T:List AI):(KG H now i T).length=T.length:=by unfold KG;simp
theorem RZ (H:Hs) (now:Int) (T:List AI):KG H now 0 T=T:=by
 unfold KG;apply XB;intro j;rw[V5];cases T[j]? <;> simp
theorem L8 (H:Hs) (now:Int) (T:List AI):KG H now T.length T=BT H now T:=by
 unfold KG BT;apply XB;intro j;rw[V5,V5];cases b:T[j]? with
 | none=>rfl
 | some t=>
  obtain⟨a,_⟩:=List.getElem?_eq_some_iff.1 b;simp[a]
theorem Pc {H:Hs} {now:Int} {i:Nat} {T:List AI} {t:AI} (h:(KG H now i T)[i]? = Bs t):T[i]? = Bs t:=by
 unfold KG at h;rw[V5] at h;cases a:T[i]? with
 | none=>rw[a] at h;cases h
 | some u=>rw[a] at h;simpa using h
theorem FW {H:Hs} {now:Int} {i:Nat} {T:List AI} {t:AI} (h:T[i]? = Bs t) (c:¬(t.a4<0/\H.state (i+1)=3)):KG H now (i+1) T=KG H now i T:=by
 unfold KG;apply XB;intro j;rw[V5,V5];cases a:T[j]? with
 | none=>rfl
 | some u=>
  simp only[Wv,VN];by_cases e:j=i
  ·subst e;rw[h] at a;injection a with a;subst a;rw[if_pos (by omega),if_neg (by omega)];exact if_neg c
  ·by_cases b:j<i
   ·rw[if_pos (by omega),if_pos b]
   ·rw[if_neg (by omega),if_neg b]
theorem L6 {H:Hs} {now:Int} {i:Nat} {T:List AI} {t:AI} (h:T[i]? = Bs t) (b:t.a4<0/\H.state (i+1)=3):(KG H now i T).set i { t with a4:=now } = KG H now (i+1) T:=by
 obtain⟨c,_⟩:=List.getElem?_eq_some_iff.1 h;apply XB;intro j;rw[Yi,qb9];unfold KG;rw[V5,V5];by_cases e:i=j
 ·subst e;rw[if_pos rfl,if_pos c,h];simp only[Wv];rw[if_pos (by omega)];exact congrArg Bs (if_pos b).symm
 ·rw[if_neg e];cases d:T[j]? with
  | none=>rfl
  | some u=>
   simp only[Wv,VN];by_cases a:j<i
   ·rw[if_pos a,if_pos (by omega)]
   ·rw[if_neg a,if_neg (by omega)]
def NT (W:B1) (own:Ai) (P:Aw) (F:Nat->Prop) (g r o k:Nat) (H:Hs) (T:List AI) (now:Int) (safe:Bool) (nodes:Nat) (B:Nat) (v:Hi) (wr:B1):Prop:=
 ∃ (i:Nat) (a:Nat->Prop),v=.int .i64 i/\i<=T.length/\Dd wr own P a g r o k H (KG H now i T) now safe nodes B/\Ia W own F wr own a
theorem LD {W:B1} {s1 s3 s4 s5:Hi} {a0:Act} {Q:Yn->Act->B1->Prop} (c:Dd W own P F g r o k H T now safe nodes B) (hm:H.m<=1000) (h7:T.length<=7) (a4:∀ c a d v W,Q (.panic c) (Xj a (Bs d) v) W->Q (.panic c) a W)
  (h0:Au (pw g) s1 s3 s4 s5 a0) (hQ:∀ a' W' F',a'.defers=[]->Dd W' own P F' g r o k H (BT H now T) now safe nodes B->Ia W own F W' own F'->Q .normal a' W'):Yf Tryz.prog (cR FF) Q a0 W:=by
 obtain⟨u,rfl⟩:=h0;have HC:=LH c;have HQ:=LH hQ;clear c hQ;unfold Eo pw;simp only[wy,CN,CE,CF,FG,Eu,E8,FH,E2,FI,E9,BB,FF,GY,cL,cR,cT,cE,cB,Tryz.f10,Xf];go_wp2_with fail;go_loopw [14] (NT W own P F g r o k H T now safe nodes B) (fun v _=>7-(intOf v).toNat)
 case atStart=>exact⟨0,F,rfl,VK _,by rw[RZ];exact HC.o,Ia.refl _ _ _⟩
 case round=>
  obtain⟨i,F1,rfl,hi,t,I⟩:=hrel;obtain⟨V3,M,j,s,K,c0,c1,c2,_,_,ah⟩:=t.cells;have ab:M.length=T.length:=by rw[<- qb9 H now i T,<- s,Wh]
  obtain⟨A0,k0,J,_,_⟩:=AK j.row;have D:=LH t;have A:=LH I;by_cases ad:(i:Int)<M.length
  ·have S:i<M.length:=by omega
   obtain⟨y,hy⟩:∃ y,M[i]? = Bs y:=⟨_,K0 S⟩
   obtain⟨Z,cap,z,X,ae⟩:=q54 j.row (show 0<M.length by omega);obtain⟨_,d2⟩:=GL j hy z;rw[z] at c1;have Y:T[i]? = Bs y.t:=Pc (by rw[<- s,VT,hy];rfl);have O:=LH Y;have R:=LH (q50 t.hi hm ((i:Int)+1));have a9:=LH j;have a8:=LH s;have a1:=LH K;have HY:=LH hy;have a7:=LH z;have ac:IntKind.i64.wrap ((i:Int)+1)=(i:Int)+1:=V8 _ ⟨by omega,by omega⟩;have af:=X (i*3+2);unfold pw at R c0;clear j s K hy z J t I Y X;by_cases x:y.t.a4<0
   ·have hd:decide (y.t.a4<0)=T2:=decide_eq_true x;by_cases p:H.state ((i:Int)+1)=3
    ·have HX:=LH (show NT W own P F g r o k H T now safe nodes B (.int .i64 ((i+1:Nat):Int)) (wr.setCell ⟨Z,i*3+2,B0⟩ (.int .i64 now)).drew from by
      obtain⟨q1,q2,q3⟩:=a9.o.setTo HY.o a7.o now;obtain⟨a6,a3⟩:=D.o.cu (T':=KG H now (i+1) T) q2 (fun b hb e=>a1.o b (.inr (.inl e.symm))) q1 (by rw[List.map_set,a8.o];exact L6 O.o ⟨x,p⟩) (fun b hb=>.inl (a1.o b (q3 b hb)));obtain⟨a5,a2⟩:=a6.below (S2 (wr.setCell ⟨Z,i*3+2,B0⟩ (.int .i64 now)).heap.size (wr.setCell ⟨Z,i*3+2,B0⟩ (.int .i64 now))).drew;exact⟨i+1,_,rfl,by omega,a5,A.o.trans (a3.trans a2)⟩)
     rw[p] at R;clear p;go_wp2_with fail;refine R.o.mono ?_;rintro e w2 ⟨rfl,rfl⟩;clear R c0;go_upto_region 52 with (fail)
     refine nW ?_;refine CU (fun W=>W.cell? ⟨g,1,B0⟩=Bs (.slice (Bs ⟨Z,0,B0⟩) M.length cap)/\W.cell? ⟨g,2,B0⟩=Bs (.int .i64 now)) 9 a4 (fun f=>?_);have h:(fun W=>W.cell? ⟨g,1,B0⟩=Bs (.slice (Bs ⟨Z,0,B0⟩) M.length cap)/\W.cell? ⟨g,2,B0⟩=Bs (.int .i64 now)) wr.drew:=⟨c1,c2⟩
     refine nD 0 [1,2,3,9,10,11] f h ?_;refine nD 1 [2,3,9,10,11] f h ?_;refine nD 2 [3,9,10,11] f h ?_;refine nA 3 [9,10,11] rfl rfl f h (fun w' G=>by obtain⟨p0,p1⟩:=G;go_simp;rfl) ?_;refine nD 4 [9,10,11] f h ?_;refine nD 5 [6,7,8,9,10,11] f h ?_;refine nD 6 [7,8,9,10,11] f h ?_;refine nD 7 [8,9,10,11] f h ?_;refine nA 8 [9,10,11] rfl rfl f h (fun w' G=>by obtain⟨p0,p1⟩:=G;go_simp;rfl) ?_;clear h;refine nG 9 (fun KK E=>?_);go_simp;refine E _ _ nZ ?_;clear E KK;refine nG 10 (fun KK E=>?_);go_simp;refine E _ _ nZ ?_;clear E KK;refine nG 11 (fun KK E=>?_);go_simp;refine E _ _ nZ ?_;clear E KK;refine nX ?_;clear f;go_wp2_with fail;go_roundw
     ·exact HX.o
     ·simp[intOf];omega
    ·have HX:=LH (show NT W own P F g r o k H T now safe nodes B (.int .i64 ((i+1:Nat):Int)) wr from⟨i+1,F1,rfl,by omega,by rw[FW O.o (fun e=>p e.2)];exact D.o,A.o⟩);have ag:(H.state ((i:Int)+1) == 3)=Jx:=by simpa using p
     go_wp2_with fail;refine R.o.mono ?_;rintro e w2 ⟨rfl,rfl⟩;clear R c0;go_wp2_with fail;go_roundw
     ·exact HX.o
     ·simp[intOf];omega
   ·have HX:=LH (show NT W own P F g r o k H T now safe nodes B (.int .i64 ((i+1:Nat):Int)) wr from⟨i+1,F1,rfl,by omega,by rw[FW O.o (fun e=>x e.1)];exact D.o,A.o⟩);have hd:decide (y.t.a4<0)=Jx:=decide_eq_false x;clear R c0;go_wp2_with fail;go_roundw
    ·exact HX.o
    ·simp[intOf];omega
  ·have U:i=T.length:=by omega
   have aa:=LH (show Dd wr own P F1 g r o k H (BT H now T) now safe nodes B from by rw[<- L8,<- U];exact D.o);rw[J] at c1;clear j s K J t I U c0 c2;go_wp2_with fail;exact HQ.o _ _ _ rfl aa.o A.o
theorem OT {Bd:Int} (c:Dd w own P F g r o k H T now safe nodes B) (ha:Ag H Bd) (a7:Bd<=999000) (hm:H.m=T.length) (h7:T.length<=7) (ax:0<=now) (aw:now<=1000000) (hB:B<=1000) (ah:1<=nodes/\nodes<=3) (x:ActX) (hx:x.val.size<=VZ) :
  VX Tryz.prog 10 #[pw g,SL x] w (SyP w own F g r o k safe nodes fun H' T' t B'=>t=now+1/\B'<=B+1/\∃ T1,Br safe nodes (now+1) x H T H' T1/\T'=BT H' (now+1) T1):=by
 have aa:=LH (D4.start c x (now+1));obtain⟨V9,L9,u,hT,hF,_,_,c2,_,_,gl⟩:=c.cells;have a9:(w.alloc (.cells (ED x) 34)).cell? ⟨g,2,B0⟩=Bs (.int .i64 now):=(WY w _ ⟨g,2,B0⟩ gl).trans c2;have a8:g<(w.alloc (.cells (ED x) 34)).heap.size:=by simp;omega
 have f2:(w.alloc (.cells (ED x) 34)).frozen? ⟨g,2,B0⟩=Jx:=(u.ah.alloc _).frozen 2;have af:IntKind.i64.wrap (now+1)=now+1:=V8 _ ⟨by omega,by omega⟩;have HA:=LH ha;clear c u hT hF c2 ha;unfold SL;unfold ED at a9 a8 f2;unfold pw at *;go_enter Tryz.func10,Tryz.ntmps10;go_upto_region 3 with (fail)
 clear a9 a8 f2 af;generalize Y:World.alloc _ _=I;have j:D4 w own P F g r o k H T (now+1) safe nodes B w.heap.size x I:=by rw[<- Y];exact aa.o
 clear aa Y;generalize S:w.heap.size=O at *;have ay:=LH S;clear S;have J:=LH j;obtain⟨F1,a6,ak,G,_,_⟩:=j;obtain⟨V,L,u,hT,hF,c0,c1,c2,c3,c4,gl⟩:=a6.cells;obtain⟨A0,k0,Z,_,_⟩:=AK u.row;have y:T.length=L.length:=by rw[<- hT,Wh]
 have am:L.length<=7:=by omega
 rw[Z] at c1;have HL:=LH y;obtain⟨a0,a1,a2,a3,al⟩:=acts _ _ _ G;have HK:=LH (acts _ _ _ G);clear a6 ak G u hT hF c0 c2 c3 c4 Z a0 a2 a3;go_upto_if 27 with (fail)
 go_cut [4] (fun s4 wx=>s4=.int .i64 (AY T x.tx)/\D4 w own P F g r o k H T (now+1) safe nodes B O x wx)
 case first=>
  by_cases hl:L.length=0
  ·have p:∀ (inst:Decidable (0<L.length)),@decide (0<L.length) inst=Jx:=fun _=>decide_eq_false (by omega)
   simp only[p];have HX:=LH (show D4 w own P F g r o k H T (now+1) safe nodes B O x I from J.o);have ar:=LH (idT_0 (tx:=x.tx) (y.trans hl));clear hl;go_wp2_with fail;go_meet;exact⟨by rw[ar.o],HX.o⟩
  ·have p:∀ (inst:Decidable (0<L.length)),@decide (0<L.length) inst=T2:=fun _=>decide_eq_true (by omega)
   simp only[p];have aq:=LH (idT_1 (tx:=x.tx) (show T.length≠0 by omega));have av:=Rj x.tx (n:=L.length) (by omega);have au:IntKind.i64.wrap (1+(AX x.tx L.length:Int))=1+(AX x.tx L.length:Int):=V8 _ ⟨by omega,by omega⟩;have ap:=LH (q3v x.tx L.length (by omega) (by omega) I.drew);have HX:=LH (J.o.below (S2 I.heap.size I).drew);clear hl p;go_upto_region 4 with (fail)
   refine nW ?_;refine CU (fun W=>W.cell? ⟨O,1,B0⟩=Bs (.int .i64 x.tx)/\W.cell? ⟨g,1,B0⟩=Bs (.slice A0 L.length k0)) 7 (fun _ _ _ _ _ h=>h) (fun b=>?_);have a:I.drew.cell? ⟨O,1,B0⟩=Bs (.int .i64 x.tx)/\I.drew.cell? ⟨g,1,B0⟩=Bs (.slice A0 L.length k0):=⟨a1,c1⟩
   refine nD 0 [1,7,8,9] b a ?_;refine nA 1 [7,8,9] rfl rfl b a (fun w' f=>by obtain⟨M,K⟩:=f;go_simp;rfl) ?_;refine nD 2 [3,4,5,6,7,8,9] b a ?_;refine nD 3 [4,5,6,7,8,9] b a ?_;refine nD 4 [5,6,7,8,9] b a ?_;refine nA 5 [6,7,8,9] rfl rfl b a (fun w' f=>by obtain⟨M,K⟩:=f;go_simp;rfl) ?_;refine nD 6 [7,8,9] b a ?_;clear a;refine nG 7 (fun s d=>?_);go_simp;refine ap.o.mono ?_;rintro e w2 ⟨rfl,rfl⟩;go_simp;refine d _ _ nZ ?_;clear d s;refine nG 8 (fun s d=>?_);go_simp;refine d _ _ nZ ?_;clear d s;refine nG 9 (fun s d=>?_);go_simp;refine d _ _ nZ ?_;clear d s;refine nX ?_;clear b;go_wp2_with fail;go_meet;exact⟨by rw[aq.o,y],HX.o⟩
 case rest=>
  obtain⟨rfl,j⟩:=hcut;have A:=LH (j.below (S2 wc.heap.size wc).drew);obtain⟨F2,z,D,v,_,_⟩:=j;obtain⟨b0,b1,b2,b3,bl⟩:=acts _ _ _ v;obtain⟨n0,nq,ae,ad⟩:=z.nm;have n1:=nq _ _ (UT x.a);have ai:=Rj x.a (n:=4) (by omega);have ac:=LH (show VX Tryz.prog 13 #[.int .i64 x.a,.int .i64 4] wc.drew fun e w'=>e=.returned (.int .i64 (AX x.a 4))/\wc.drew=w' from q3v x.a 4 (by omega) (by omega) wc.drew);clear z D v b0 b1 b3 nq y am HL HK J c1 a1 al gl;generalize AX x.a 4=pk at *;go_upto_region 5 with (fail)
  refine nW ?_;refine CU (fun W=>W.cell? ⟨O,2,B0⟩=Bs (.int .i64 x.a)/\W.cell? ⟨0,0,B0⟩=Bs (.slice (Bs ⟨r,o,B0⟩) 4 k)/\W.cell? ⟨r,o+pk,B0⟩=Bs (.string ⟨(AR x.a).toArray⟩)) 6 (fun _ _ _ _ _ h=>h) (fun b=>?_);have a:wc.drew.cell? ⟨O,2,B0⟩=Bs (.int .i64 x.a)/\wc.drew.cell? ⟨0,0,B0⟩=Bs (.slice (Bs ⟨r,o,B0⟩) 4 k)/\wc.drew.cell? ⟨r,o+pk,B0⟩=Bs (.string ⟨(AR x.a).toArray⟩):=⟨b2,n0,n1⟩
  refine nA 0 [6,7,8] rfl rfl b a (fun w' f=>by obtain⟨M,K,p2⟩:=f;go_simp;rfl) ?_;refine nD 1 [2,5,6,7,8] b a ?_;refine nA 2 [5,6,7,8] rfl rfl b a (fun w' f=>by obtain⟨M,K,p2⟩:=f;go_simp;rfl) ?_;refine nA 3 [4,5,6,7,8] rfl rfl b a (fun w' f=>by obtain⟨M,K,p2⟩:=f;go_simp;rfl) ?_;refine nD 4 [5,6,7,8] b a ?_;refine nG 5 (fun s d=>?_);go_simp;refine ac.o.mono ?_;rintro e w2 ⟨rfl,rfl⟩;go_simp;refine d _ _ (fun _=>a) ?_;clear d s;obtain⟨M,K,p2⟩:=a;refine nG 6 (fun s d=>?_);go_simp;rw[if_pos (show(pk:Int)<4 by omega)];go_simp;refine d _ _ nZ ?_;clear d s;refine nG 7 (fun s d=>?_);go_simp;refine d _ _ nZ ?_;clear d s;refine nG 8 (fun s d=>?_);go_simp;refine d _ _ nZ ?_;clear d s;refine nX ?_;clear b M K p2 n0 n1 ai ac ae ad;have j:=A.o;generalize World.drew _=W2 at *;clear A;have A:=LH j;obtain⟨F2,z,D,v,ag,an⟩:=j;obtain⟨b0,b1,b2,b3,bl⟩:=acts _ _ _ v;clear z D v b1 b2 b3 ag an;go_upto_block 0 with (fail)
  refine GX (s1:=SL x) A.o HA.o a7 hm h7 hB ah ?_ ?_ ?_
  ·exact fun _ _ _ _ _ h=>h
  ·unfold pw SL;exact NR.mk' _ rfl rfl
  ·rintro a' W' hf ⟨R,P3,F3,H3,T3,B3,a5,X,E,ao⟩;have aj:=E.cnt HA.o a7 hm h7
   apply_assumption
   refine LD a5 (by omega) aj.2.1 ?_ hf (fun a2 W2 F4 p a4 U=>?_)
   ·exact fun _ _ _ _ _ h=>h
   have HX:=LH (show SyP w own F g r o k safe nodes (fun H' T' t B'=>t=now+1/\B'<=B+1/\∃ T1,Br safe nodes (now+1) x H T H' T1/\T'=BT H' (now+1) T1) (.returned (.tuple #[])) W2 from⟨rfl,R,P3,F4,H3,_,now+1,B3,a4,X.trans U,rfl,ao,T3,E,rfl⟩);clear a5 X E a4 U hf;exact bodyPost_end (results_none rfl a2.tmps Tryz.prog W2) p HX.o
end
theorem q4a {h:Int->Option Int} {tx m:Int} (e:h tx=Bs m):Ax h tx=m:=by simp[Ax,e]
theorem Mv {h:Int->Option Int} {tx mode:Int} (c:BW mode) (a:mode<=Ax h tx):Aj h tx mode=h:=by
 funext o;unfold Aj AW;split
 ·rename_i e;subst e;cases b:h o with
  | none=>unfold Ax at a;rw[b] at a;unfold BW at c;simp at a;omega
  | some m=>rw[q4a b] at a ⊢;rw[Int.max_eq_left a]
 ·rfl
theorem Sg {h:Int->Option Int} {tx mode o:Int} (b:BW mode) (d:∀ o m,h o=Bs m->BW m) (e:Aj h tx mode o=Bs 2):(o=tx/\(mode=2\/h tx=Bs 2))\/(o≠tx/\h o=Bs 2):=by
 unfold Aj AW at e;split at e
 ·rename_i e1;injection e with e;refine .inl ⟨e1,?_⟩;unfold BW at b;rcases b with c|c
  ·right;unfold Ax at e;cases a:h tx with
   | none=>rw[a] at e;simp at e;omega
   | some m=>
    rw[a] at e;have:=d _ _ a;simp at e;have:m=2:=by unfold BW at this;omega
    rw[this]
  ·exact .inl c
 ·rename_i e1;exact .inr ⟨e1,e⟩
structure D6 (h:Int->Option Int):Prop where
 one:∀ o,h o=Bs 2->∀ p m,h p=Bs m->p=o
 hm:∀ o m,h o=Bs m->BW m
theorem q4b (h:Int->Option Int) (tx mode:Int):Aj h tx mode tx=Bs (max (Ax h tx) mode):=by unfold Aj AW;rw[if_pos rfl]
theorem q2n {h:Int->Option Int} {tx o:Int} (e:o≠tx) (mode:Int):Aj h tx mode o=h o:=by unfold Aj AW;rw[if_neg e]
theorem D6.hold {h:Int->Option Int} (r:D6 h) (o:Int):Ax h o=0\/Ax h o=1\/Ax h o=2:=by
 unfold Ax;cases e:h o with
 | none=>exact .inl rfl
 | some m=>exact .inr (r.hm o m e)
theorem D6.db {h:Int->Option Int} (r:D6 h) {tx mode:Int} (s:BW mode) {left:List (Int×Int)} (d:Cq h tx mode left):D6 (Aj h tx mode):=by
 rcases d with d|⟨d,_⟩
 ·rw[Mv s d];exact r
 ·refine⟨fun o b p m f=>?_,fun o m b=>?_⟩
  ·rcases Sg s r.hm b with ⟨rfl,c⟩|⟨j,c⟩
   ·refine Classical.byContradiction (fun a=>?_);rw[q2n a] at f;rcases c with c|c
    ·have:=d p m f a;simp[AN,c] at this
    ·exact a (r.one o c p m f)
   ·have:=d o 2 c j;simp[AN] at this
  ·by_cases e:o=tx
   ·subst e;rw[q4b] at b;injection b with b;have:=r.hold o;unfold BW at *;omega
   ·rw[q2n e] at b;exact r.hm o m b
theorem Px {h:Int->Option Int} (r:D6 h) {tx mode o m:Int} (u:BW mode) (e:o≠tx) {left:List (Int×Int)} (a:Cq (Aj h tx mode) o m left):Cq h o m left:=by
 have e1:Ax (Aj h tx mode) o=Ax h o:=by unfold Ax;rw[q2n e]
 rcases a with a|⟨a,s⟩
 ·exact .inl (by rw[<- e1];exact a)
 ·refine .inr ⟨fun p d f b=>?_,s⟩;by_cases j:p=tx
  ·subst j;have c:=a p _ (q4b h p mode) b;have t:Ax h p=d:=q4a f;have v:=r.hm p d f;rw[t] at c;unfold AN at c ⊢;simp only[Bool.or_eq_false_iff,decide_eq_false_iff_not] at c ⊢;unfold BW at *;exact⟨by omega,c.2⟩
  ·exact a p d (by rw[q2n j];exact f) b
def D7 (h:Int->Option Int) (l:List (Int×Int)):Prop:=∀ a w b,l=a++w::b->¬Cq h w.1 w.2 a
theorem D7.nil (h:Int->Option Int):D7 h []:=fun a w b e=>by simp at e
theorem D7.snoc {h:Int->Option Int} {l:List (Int×Int)} {w:Int×Int} (f:D7 h l) (d:¬Cq h w.1 w.2 l):D7 h (l++[w]):=fun a v b e=>by
 rcases List.eq_nil_or_concat b with rfl|⟨j,x,rfl⟩
 ·have:=YQ e rfl;obtain⟨rfl,c⟩:=this;injection c with c;subst c;exact d
 ·rw[List.concat_eq_append,<- XL,<- List.append_assoc] at e;have:=YQ e rfl;exact f a v j this.1
theorem D7.db {h:Int->Option Int} (r:D6 h) {tx mode:Int} (d:BW mode) {l:List (Int×Int)} (j:D7 h l) (c:∀ w∈l,w.1≠tx):D7 (Aj h tx mode) l:=fun a w b e f=>
 j a w b e (Px r d (c w (by rw[e];simp)) f)
structure RgP (h:Int->Option Int) (l:List (Int×Int)) (R:(Int->Option Int)×List (Int×Int)×List (Int×Int)):Prop where
 hol:D6 R.1
 sorted:R.2.1.Pairwise (·.1 < ·.1)
 ah:D7 R.1 R.2.1
 up:∀ o m,h o=Bs m->∃ m',R.1 o=Bs m'/\m<=m'
 all:∀ w∈l,w∈R.2.1\/(w∈R.2.2/\∃ m',R.1 w.1=Bs m'/\w.2<=m')
 dp:∀ w∈R.2.1,w∈l
 gsub:∀ w∈R.2.2,w∈l
 disj:∀ w∈R.2.1,∀ g∈R.2.2,w.1≠g.1
 src:∀ o m,R.1 o=Bs m->h o=Bs m\/∃ g∈R.2.2,g.1=o
theorem Oq {a b:List (Int×Int)} {w:Int×Int} (h:(a++w::b).Pairwise (·.1 < ·.1)) {v:Int×Int} (c:v∈a++b):v.1≠w.1:=by
 have d:=List.pairwise_append.1 h;rcases List.mem_append.1 c with c|c
 ·have:=d.2.2 v c w VL;omega
 ·have:=(List.pairwise_cons.1 d.2.1).1 v c;omega
theorem q99:∀ (ws left:List (Int×Int)) (h:Int->Option Int),D6 h->(∀ w∈left++ws,BW w.2)->(left++ws).Pairwise (·.1 < ·.1)->D7 h left->RgP h (left++ws) (DU h left ws)
 | [],left,h,r,u,hs,x=>by
  rw[q2h];rw[WM] at *;exact⟨r,hs,x,fun o m d=>⟨m,d,Int.le_refl _⟩,fun w p=>.inl p,fun w p=>p,fun w p=>(nomatch p),fun w _ g c=>(nomatch c),fun o m d=>.inl d⟩
 | w::ws,left,h,r,u,hs,x=>by
  have j:=u w (by simp);have s:∀ v∈left++ws,v.1≠w.1:=fun v a=>Oq hs a
  have A:(left++ws).Pairwise (·.1 < ·.1):=hs.sublist (by simp);unfold DU;by_cases e:As h w.1 w.2 left=T2
  ·rw[if_pos e];have c:=r.db j (TA.1 e);have b:=q99 ws left (Aj h w.1 w.2) c (fun v a=>u v (by simp at *;rcases a with h|h;exact .inl h;exact .inr (.inr h))) A (x.db r j (fun v a=>s v (by simp[a])));obtain⟨E,t,D⟩:=b.up w.1 _ (q4b h w.1 w.2);refine⟨b.hol,b.sorted,b.ah,fun o m d=>?_,fun v a=>?_,fun v a=>?_,fun v a=>?_,fun v a g c=>?_,fun o m d=>?_⟩
   ·by_cases f:o=w.1
    ·subst f;exact⟨E,t,by rw[q4a d] at D;omega⟩
    ·exact b.up o m (by rw[q2n f];exact d)
   ·by_cases f:v=w
    ·subst f;exact .inr ⟨VL,E,t,by omega⟩
    ·have z:v∈left++ws:=by simp at *;rcases a with h|h|h;exact .inl h;exact absurd h f;exact .inr h
     rcases b.all v z with h|⟨h,I⟩
     ·exact .inl h
     ·exact .inr ⟨VM _ h,I⟩
   ·have:=b.dp v a;simp at *;rcases this with h|h;exact .inl h;exact .inr (.inr h)
   ·rcases List.mem_cons.1 a with rfl|a
    ·simp
    ·have:=b.gsub v a;simp at *;rcases this with h|h;exact .inl h;exact .inr (.inr h)
   ·rcases List.mem_cons.1 c with rfl|c
    ·exact s v (b.dp v a)
    ·exact b.disj v a g c
   ·rcases b.src o m d with y|⟨g,c,y⟩
    ·by_cases f:o=w.1
     ·exact .inr ⟨w,VL,f.symm⟩
     ·rw[q2n f] at y;exact .inl y
    ·exact .inr ⟨g,VM _ c,y⟩
  ·rw[if_neg e];have b:=q99 ws (left++[w]) h r (by simpa using u) (by simpa using hs) (x.snoc (fun G=>e (TA.2 G)));have J:left++[w]++ws=left++w::ws:=by simp
   rw[J] at b;exact b
structure GK (k:Kx):Prop where
 hol:D6 k.h
 wm:∀ w∈k.ws,BW w.2
 sorted:k.ws.Pairwise (·.1 < ·.1)
 ah:D7 k.h k.ws
theorem GK.zero:GK k0:=⟨⟨fun _ h=>(nomatch h),fun _ _ h=>(nomatch h)⟩,fun _ h=>(nomatch h),Yj,D7.nil _⟩
theorem D6.off {h:Int->Option Int} (r:D6 h) (tx:Int):D6 (AW h tx B0):=by
 have a:∀ o m,AW h tx B0 o=Bs m->h o=Bs m:=fun o m e=>by
  unfold AW at e;split at e
  ·cases e
  ·exact e
 exact⟨fun o b p m c=>r.one o (a _ _ b) p m (a _ _ c),fun o m b=>r.hm o m (a _ _ b)⟩
theorem q81 {k:Kx} (g:GK k) (tx:Int):RgP (AW k.h tx B0) (AC k.ws tx) ((BV k tx).1.h,(BV k tx).1.ws,(BV k tx).2):=by
 have h:=q99 (AC k.ws tx) [] (AW k.h tx B0) (g.hol.off tx) (fun w a=>g.wm w (List.mem_filter.1 a).1) (Jg g.sorted tx) (D7.nil _);exact h
theorem GK.rel {k:Kx} (g:GK k) (tx:Int):GK (BV k tx).1:=by
 have h:=q81 g tx;exact⟨h.hol,fun w a=>g.wm w (List.mem_filter.1 (h.dp w a)).1,h.sorted,h.ah⟩
theorem q5i {a:List (Int×Int)} {tx:Int} {w:Int×Int} : w∈AC a tx↔w∈a/\w.1≠tx:=by
 unfold AC;rw[List.mem_filter];simp
theorem Rf {k:Kx} (g:GK k) (tx:Int):(BV k tx).1.h tx=B0/\∀ w∈(BV k tx).1.ws,w.1≠tx:=by
 have h:=q81 g tx;refine⟨?_,fun w b=>(q5i.1 (h.dp w b)).2⟩;cases e:(BV k tx).1.h tx with
 | none=>rfl
 | some m=>
  rcases h.src tx m e with a|⟨d,c,a⟩
  ·unfold AW at a;rw[if_pos rfl] at a;cases a
  ·exact absurd a (q5i.1 (h.gsub d c)).2
theorem q6e (T:Tb) (tx:Int) (x:Sx):(Ac (Bh T tx) x).h=(BV (Ac T x) tx).1.h/\(Ac (Bh T tx) x).ws=(BV (Ac T x) tx).1.ws:=by
 unfold Ac Bh;cases e:T x with
 | none=>exact⟨(relK0 tx).1.symm,(relK0 tx).2.symm⟩
 | some k=>
  simp only[Option.bind_some,Eh,Option.getD_some];by_cases h:qae (BV k tx).1
  ·rw[if_pos h];exact⟨(funext h.1).symm,h.2.symm⟩
  ·rw[if_neg h];exact⟨rfl,rfl⟩
def GT (T:Tb):Prop:=∀ x,GK (Ac T x)
theorem GT.none_:GT (fun _=>B0):=fun _=>GK.zero
theorem GT.rel {T:Tb} (g:GT T) (tx:Int):GT (Bh T tx):=fun x=>by
 obtain⟨b,a⟩:=q6e T tx x;have h:=(g x).rel tx;exact⟨by rw[b];exact h.hol,by rw[a];exact h.wm,by rw[a];exact h.sorted,by rw[b,a];exact h.ah⟩
def Hd (T:Tb) (x:Sx) (i mode:Int):Prop:=∃ m,(Ac T x).h i=Bs m/\mode<=m
def Wt (T:Tb) (x:Sx) (i mode:Int):Prop:=(i,mode)∈(Ac T x).ws
theorem Hd.dr {T:Tb} (g:GT T) {x:Sx} {i j:Int} (h:Hd T x i 2) (k:Hd T x j 1):i=j:=by
 obtain⟨m,a,e⟩:=h;obtain⟨n,b,d⟩:=k;have c:=(g x).hol.hm i m a;have:m=2:=by unfold BW at c;omega
 subst this;exact((g x).hol.one i a j n b).symm
theorem Hd.mono {T:Tb} {x:Sx} {i m n:Int} (h:Hd T x i m) (b:n<=m):Hd T x i n:=by obtain⟨q,a,c⟩:=h;exact⟨q,a,by omega⟩
theorem Hd.rel {T:Tb} (g:GT T) {x:Sx} {i m tx:Int} (h:Hd T x i m) (e:i≠tx):Hd (Bh T tx) x i m:=by
 obtain⟨q,c,f⟩:=h;obtain⟨a,b,d⟩:=(q81 (g x) tx).up i q (by unfold AW;rw[if_neg e];exact c);exact⟨a,by rw[(q6e T tx x).1];exact b,by omega⟩
theorem Uj {T:Tb} (g:GT T) {x:Sx} {o m tx:Int} (h:(Ac (Bh T tx) x).h o=Bs m):o≠tx/\((Ac T x).h o=Bs m\/∃ md,Wt T x o md):=by
 rw[(q6e T tx x).1] at h;have d:o≠tx:=fun e=>by subst e;rw[(Rf (g x) o).1] at h;cases h
 refine⟨d,?_⟩;rcases(q81 (g x) tx).src o m h with c|⟨w,hw,c⟩
 ·unfold AW at c;rw[if_neg d] at c;exact .inl c
 ·have:=(q5i.1 ((q81 (g x) tx).gsub w hw)).1;obtain⟨a,b⟩:=w;have c:a=o:=c;subst c;exact .inr ⟨b,this⟩
theorem Es {T:Tb} (g:GT T) {x:Sx} {o m tx:Int} (h:Wt (Bh T tx) x o m):o≠tx/\Wt T x o m:=by
 unfold Wt at *;rw[(q6e T tx x).2] at h;have:=q5i.1 ((q81 (g x) tx).dp _ h);exact⟨this.2,this.1⟩
theorem q6o {T:Tb} (g:GT T) {x:Sx} {o m tx:Int} (h:Wt T x o m) (e:o≠tx):(Wt (Bh T tx) x o m/\¬Ez T tx o x)\/(Ez T tx o x/\Hd (Bh T tx) x o m/\∀ n,¬Wt (Bh T tx) x o n):=by
 have c:=q81 (g x) tx;have j:∃ k,T x=Bs k:=by
  cases y:T x with
  | none=>unfold Wt Ac at h;rw[y] at h;cases h
  | some k=>exact⟨k,rfl⟩
 obtain⟨k,f⟩:=j;have s:Ac T x=k:=by unfold Ac;rw[f];rfl
 have p:∀ o,Ez T tx o x↔∃ md,(o,md)∈(BV (Ac T x) tx).2:=fun o=>by
  unfold Ez;rw[s];constructor
  ·rintro ⟨k',md,a,b⟩;rw[f] at a;injection a with a;subst a;exact⟨md,b⟩
  ·rintro ⟨md,b⟩;exact⟨k,md,f,b⟩
 rw[p];rcases c.all (o,m) (q5i.2 ⟨h,e⟩) with a|⟨a,t,b,v⟩
 ·refine .inl ⟨by unfold Wt;rw[(q6e T tx x).2];exact a,?_⟩;rintro ⟨md,u⟩;exact c.disj _ a _ u rfl
 ·refine .inr ⟨⟨m,a⟩,⟨t,by rw[(q6e T tx x).1];exact b,v⟩,fun n d=>?_⟩;unfold Wt at d;rw[(q6e T tx x).2] at d;exact c.disj _ d _ a rfl
theorem Hh {T:Tb} (g:GT T) {x:Sx} {o tx:Int} (h:Ez T tx o x):o≠tx/\∃ m,Wt T x o m:=by
 obtain⟨k,md,c,b⟩:=h;have a:Ac T x=k:=by unfold Ac;rw[c];rfl
 have:=q5i.1 ((q81 (g x) tx).gsub (o,md) (by rw[a];exact b));exact⟨this.2,md,this.1⟩
theorem q4v (T:Tb) (tx:Int) (y:Sx) (mode:Int) (x:Sx):Ac (An T tx y mode) x=Ac T x\/(x=y/\CC (Ac T y).ws tx=Jx/\
  ((As (Ac T y).h tx mode (Ac T y).ws=T2/\Ac (An T tx y mode) x=⟨Aj (Ac T y).h tx mode,(Ac T y).ws⟩)\/
   (As (Ac T y).h tx mode (Ac T y).ws=Jx/\Ac (An T tx y mode) x=⟨(Ac T y).h,BY (Ac T y).ws (tx,mode)⟩))):=by
 unfold An;split
 ·exact .inl rfl
 ·rename_i b;have b:CC (Ac T y).ws tx=Jx:=by simpa using b
  split
  ·rename_i a;rw[qcn];split
   ·rename_i e;exact .inr ⟨e,b,.inl ⟨a,rfl⟩⟩
   ·exact .inl rfl
  ·rename_i a;have a:As (Ac T y).h tx mode (Ac T y).ws=Jx:=by simpa using a
   split
   ·exact .inl rfl
   ·rw[qcn];split
    ·rename_i e;exact .inr ⟨e,b,.inr ⟨a,rfl⟩⟩
    ·exact .inl rfl
theorem Ff {a:List (Int×Int)} {tx:Int} (h:CC a tx=Jx):∀ v∈a,v.1≠tx:=fun v b e=>by
 unfold CC at h;rw[XC] at h;exact h v b (by simpa using e)
theorem MJ {b a:List (Int×Int)} {tx mode:Int} (h:qbm b tx mode=Jx) (hs:∀ w∈a,w∈b):qbm a tx mode=Jx:=by
 unfold qbm at *;rw[XC] at *;exact fun w c=>h w (hs w c)
theorem Cq.sub {h:Int->Option Int} {d c:List (Int×Int)} {tx mode:Int} (e:Cq h tx mode d) (hs:∀ w∈c,w∈d):Cq h tx mode c:=
 e.imp id (fun⟨a,b⟩=>⟨a,MJ b hs⟩)
theorem Oo {d:List (Int×Int)} {w:Int×Int} {a:List (Int×Int)} {v:Int×Int} {b:List (Int×Int)} (e:BY d w=a++v::b) :
  (v=w/\a=d.takeWhile (fun x=>decide (x.1<w.1)))\/∃ f y,d=f++v::y/\∀ u∈f,u∈a:=by
 unfold BY at e;have t:d=d.takeWhile (fun x=>decide (x.1<w.1))++d.dropWhile (fun x=>decide (x.1<w.1)):=(List.takeWhile_append_dropWhile).symm;generalize d.takeWhile (fun x=>decide (x.1<w.1))=p at *;generalize d.dropWhile (fun x=>decide (x.1<w.1))=q at *;subst t;rcases List.append_eq_append_iff.1 e with ⟨f,h,c⟩|⟨s,h,c⟩
 ·
  cases f with
  | nil=>
   simp only[WL,List.cons.injEq] at c;exact .inl ⟨c.1.symm,by rw[h,WM]⟩
  | cons z f=>
   simp only[XL,List.cons.injEq] at c;obtain⟨rfl,c⟩:=c;refine .inr ⟨p++f,b,by rw[c];simp,fun u j=>?_⟩;rw[h];simp only[List.mem_append,List.mem_cons] at *;exact j.imp id .inr
 ·cases s with
  | nil=>
   simp only[WL,List.cons.injEq] at c;exact .inl ⟨c.1,by rw[h,WM]⟩
  | cons z s=>
   simp only[XL,List.cons.injEq] at c;obtain⟨rfl,c⟩:=c;exact .inr ⟨a,s++q,by rw[h];simp,fun u j=>j⟩
theorem q4y {t:Int} : ∀ {b:List (Int×Int)},b.Pairwise (·.1 < ·.1)->∀ {v:Int×Int},v∈b->v.1<t->v∈b.takeWhile (fun x=>decide (x.1<t))
 | [],_,_,h,_=>(nomatch h)
 | u::us,hs,v,a,hlt=>by
  rw[List.pairwise_cons] at hs;have c:u.1<t:=by
   rcases List.mem_cons.1 a with rfl|a
   ·exact hlt
   ·have:=hs.1 v a;omega
  rw[List.takeWhile_cons_of_pos (by simpa using c)];rcases List.mem_cons.1 a with rfl|a
  ·exact VL
  ·exact VM _ (q4y hs.2 a hlt)
theorem GK.ins {k:Kx} (g:GK k) {tx mode:Int} (t:BW mode) (p:CC k.ws tx=Jx) (u:As k.h tx mode k.ws=Jx):GK ⟨k.h,BY k.ws (tx,mode)⟩:=by
 refine⟨g.hol,fun w h=>?_,q6a g.sorted (Ff p),fun a w b e f=>?_⟩
 ·rcases q4r.1 h with rfl|h
  ·exact t
  ·exact g.wm w h
 ·rcases Oo e with ⟨rfl,z⟩|⟨E,D,A,c⟩
  ·refine(q9v.1 u) ?_;rcases f with h|⟨h,y⟩
   ·exact .inl h
   ·refine .inr ⟨h,?_⟩;subst z;unfold qbm at *;rw[XC] at *;intro v s;simp only[Bool.and_eq_true,decide_eq_true_eq,not_and,Bool.not_eq_true];intro d;have j:v∈k.ws.takeWhile (fun x=>decide (x.1<(tx,mode).1)):=q4y g.sorted s d;have:=y v j;simpa [d] using this
  ·exact g.ah E w D A (f.sub c)
theorem GT.lock {T:Tb} (g:GT T) {tx mode:Int} (a:BW mode) (y:Sx):GT (An T tx y mode):=fun x=>by
 rcases q4v T tx y mode x with h|⟨rfl,c,⟨b,h⟩|⟨b,h⟩⟩
 ·rw[h];exact g x
 ·rw[h];exact⟨(g x).hol.db a (TA.1 b),(g x).wm,(g x).sorted,(g x).ah.db (g x).hol a (Ff c)⟩
 ·rw[h];exact(g x).ins a c b
theorem Hd.lock {T:Tb} {x:Sx} {i m:Int} (h:Hd T x i m) (tx:Int) (y:Sx) (mode:Int):Hd (An T tx y mode) x i m:=by
 obtain⟨q,a,b⟩:=h;rcases q4v T tx y mode x with h|⟨rfl,_,⟨_,h⟩|⟨_,h⟩⟩
 ·exact⟨q,by rw[h];exact a,b⟩
 ·by_cases e:i=tx
  ·subst e;exact⟨_,by rw[h];exact q4b _ _ _,by rw[q4a a];omega⟩
  ·exact⟨q,by rw[h];exact(q2n e _).trans a,b⟩
 ·exact⟨q,by rw[h];exact a,b⟩
theorem UO {T:Tb} {tx:Int} {y:Sx} {mode:Int} {x:Sx} {o m:Int} (h:(Ac (An T tx y mode) x).h o=Bs m):(Ac T x).h o=Bs m\/(o=tx/\x=y):=by
 rcases q4v T tx y mode x with a|⟨rfl,_,⟨_,a⟩|⟨_,a⟩⟩
 ·rw[a] at h;exact .inl h
 ·rw[a] at h;by_cases e:o=tx
  ·exact .inr ⟨e,rfl⟩
  ·exact .inl ((q2n e _).symm.trans h)
 ·rw[a] at h;exact .inl h
theorem Ha {T:Tb} {tx:Int} {y:Sx} {mode:Int} {x:Sx} {o m:Int} (h:Wt (An T tx y mode) x o m):Wt T x o m\/(o=tx/\x=y/\m=mode/\As (Ac T y).h tx mode (Ac T y).ws=Jx):=by
 unfold Wt at *;rcases q4v T tx y mode x with a|⟨rfl,_,⟨_,a⟩|⟨b,a⟩⟩
 ·rw[a] at h;exact .inl h
 ·rw[a] at h;exact .inl h
 ·rw[a] at h;rcases q4r.1 h with h|h
  ·injection h with h4 h5;exact .inr ⟨h4,rfl,h5,b⟩
  ·exact .inl h
theorem Wt.lock {T:Tb} {x:Sx} {i m:Int} (h:Wt T x i m) (tx:Int) (y:Sx) (mode:Int):Wt (An T tx y mode) x i m:=by
 unfold Wt at *;rcases q4v T tx y mode x with a|⟨rfl,_,⟨_,a⟩|⟨_,a⟩⟩
 ·rw[a];exact h
 ·rw[a];exact h
 ·rw[a];exact q4r.2 (.inr h)
theorem Ns {T:Tb} {tx:Int} {x:Sx} {mode:Int} (b:CC (Ac T x).ws tx=Jx) (a:As (Ac T x).h tx mode (Ac T x).ws=T2):Hd (An T tx x mode) x tx mode:=by
 unfold An;rw[b,if_neg (by simp),a,if_pos rfl];refine⟨_,by rw[qcn,if_pos rfl];exact q4b _ _ _,by omega⟩
theorem FV {T:Tb} {tx:Int} {x:Sx} {mode:Int} (c:CC (Ac T x).ws tx=Jx) (b:As (Ac T x).h tx mode (Ac T x).ws=Jx) (a:(Ac T x).ws.length≠50):Wt (An T tx x mode) x tx mode:=by
 unfold An Wt;rw[c,if_neg (by simp),b,if_neg (by simp),if_neg a,qcn,if_pos rfl];exact q4r.2 (.inl rfl)
def DD (T:Tb) (x:Sx) (i:Int):Prop:=CC (Ac T x).ws i=Jx/\Cq (Ac T x).h i 2 (Ac T x).ws
theorem DD.of_hd {T:Tb} {x:Sx} {i:Int} (h:Hd T x i 2) (c:∀ m,¬Wt T x i m):DD T x i:=by
 obtain⟨m,j,f⟩:=h;refine⟨?_,.inl (by rw[q4a j];exact f)⟩;unfold CC;rw[XC];rintro ⟨a,b⟩ d e;have e:a=i:=by simpa using e
 subst e;exact c b d
theorem DD.lock {T:Tb} {x y:Sx} {i:Int} (h:DD T x i) (c:DD T y i):DD (An T i y 2) x i:=by
 rcases q4v T i y 2 x with a|⟨rfl,d,⟨b,a⟩|⟨b,a⟩⟩
 ·unfold DD;rw[a];exact h
 ·unfold DD;rw[a];exact⟨h.1,.inl (by show 2<=(Aj (Ac T x).h i 2 i).getD 0;rw[q4b];show 2<=max _ 2;omega)⟩
 ·exact absurd (TA.2 h.2) (by rw[b];simp)
structure PrepP (T T':Tb) (i:Int) (ps:List Pr):Prop where
 gt:GT T'
 hd:∀ p∈ps,Hd T' (sx p.key) i 2
 up:∀ x o m,Hd T x o m->Hd T' x o m
 src:∀ x o m,(Ac T' x).h o=Bs m->(Ac T x).h o=Bs m\/(o=i/\∃ p∈ps,sx p.key=x)
 ws:∀ x,(Ac T' x).ws=(Ac T x).ws
theorem Uo {i:Int} : ∀ (ps:List Pr) {T:Tb},GT T->(∀ p∈ps,DD T (sx p.key) i)->PrepP T (Cd T i ps) i ps
 | [],T,g,_=>⟨g,fun _ h=>(nomatch h),fun _ _ _ h=>h,fun _ _ _ h=>.inl h,fun _=>rfl⟩
 | p::ps,T,g,hp=>by
  have f:=hp p VL;have b:=Uo ps (T:=An T i (sx p.key) 2) (g.lock (.inr rfl) _) (fun q a=>(hp q (VM _ a)).lock f);have e:Cd T i (p::ps)=Cd (An T i (sx p.key) 2) i ps:=rfl;rw[e];have j:∀ x,(Ac (An T i (sx p.key) 2) x).ws=(Ac T x).ws:=fun x=>by
   rcases q4v T i (sx p.key) 2 x with c|⟨rfl,d,⟨s,c⟩|⟨s,c⟩⟩
   ·rw[c]
   ·rw[c]
   ·exact absurd (TA.2 f.2) (by rw[s];simp)
  refine⟨b.gt,fun q a=>?_,fun x o m h=>b.up x o m (h.lock _ _ _),fun x o m h=>?_,fun x=>(b.ws x).trans (j x)⟩
  ·rcases List.mem_cons.1 a with rfl|a
   ·exact b.up _ _ _ (Ns f.1 (TA.2 f.2))
   ·exact b.hd q a
  ·rcases b.src x o m h with d|⟨rfl,q,a,d⟩
   ·rcases UO d with c|⟨rfl,rfl⟩
    ·exact .inl c
    ·exact .inr ⟨rfl,p,VL,rfl⟩
   ·exact .inr ⟨rfl,q,VM _ a,d⟩
end Go.Proofs.YtccahlhdifadfaaGreatDoor
