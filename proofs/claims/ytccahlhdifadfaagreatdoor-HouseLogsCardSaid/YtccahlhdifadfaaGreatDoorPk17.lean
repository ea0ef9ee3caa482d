/- Part 18 of the texts that the claim rests on (of 19): KhA, KhB, KhC, KhD, KhE, KlA, KlB, KlC. -/
import Derived.Test.YtccahlhdifadfaaGreatDoorPk16
namespace Go.Proofs.YtccahlhdifadfaaGreatDoor
open Go.RowKit
set_option maxRecDepth 100000
set_option maxHeartbeats 16000000
section
variable {w w':World} {own own':Own} {P:Ptr} {F:Nat→Prop} {g r o k:Nat} {H:Hs} {T:List TxP} {now:Int} {nodes:Nat} {safe:Bool} {B:Nat}
theorem put_id0 {H:Hs} {T:List TxP} {x:ActX} (_hm:H.m=T.length) (he:(H.put (idT T x.tx) (prX x)).1=0):∃ i:Nat,idT T x.tx=(i:Int)+1∧i<T.length:=by
 have h:=idT_le T x.tx
 by_cases h0:idT T x.tx<1
 ·exfalso
  have e:(H.put (idT T x.tx) (prX x)).1=7:=by
   have hl:=q1o (H:=H) (id:=idT T x.tx) (k:=sx (prX x).key) (mode:=2) (.inl h0)
   unfold Hs.put
   rw[if_neg (by have:=cutV_size x.val;show ¬40<(cutV x.val).size;omega)]
   simp only[hl]
   rfl
  omega
 ·exact⟨(idT T x.tx).toNat-1,by omega,by omega⟩
def PuC (w:World) (own:Own) (P:Ptr) (F:Nat→Prop) (g r o k:Nat) (H:Hs) (T:List TxP) (now:Int) (safe:Bool) (nodes:Int) (B ab kb:Nat) (x:ActX) (W:World):Prop:=
 ∃ F',SyC W own P F' g r o k H T now safe nodes B∧SyZ w own F W own F'∧Blk W ab 34 (actC x)∧own ab=none∧¬F' ab∧Blk W kb 45 #[.string ⟨(keyT x.a).toArray⟩,.string (cutV x.val),.bool (x.what == 3)]∧own kb=none∧¬F' kb
theorem PlC.put0 {nodes:Int} {ab:Nat} {x:ActX} {W:World} (h:PlC w own P F g r o k H T now safe nodes B ab x W) (_h0:w.heap.size≤W.heap.size) {v:ByteArray} (hv:v=cutV x.val):PuC w own P F g r o k H T now safe nodes B ab W.heap.size x (W.alloc (.cells #[.string ⟨(keyT x.a).toArray⟩,.string v,.bool (x.what == 3)] 45)):=by
 subst hv
 obtain⟨F',a,b,c,d,e⟩:=h
 have hb:Below W.heap.size W (W.alloc (.cells #[.string ⟨(keyT x.a).toArray⟩,.string (cutV x.val),.bool (x.what == 3)] 45)):=(Below.refl W.heap.size W).alloc (Nat.le_refl _) _
 obtain⟨a2,b2⟩:=a.below hb
 exact⟨F',a2,b.trans b2,(q06 hb).blk c (fun hs=>by have:=c.lt;omega),d,e,Blk.new W _ _,a.hi.free (Nat.le_refl _),fun e=>Nat.lt_irrefl _ (a.Fl _ e)⟩
theorem PuC.drew {nodes:Int} {ab kb:Nat} {x:ActX} {W:World} (h:PuC w own P F g r o k H T now safe nodes B ab kb x W):PuC w own P F g r o k H T now safe nodes B ab kb x W.drew:=by
 obtain⟨F',a,b,c,d,e,f,d2,e2⟩:=h
 obtain⟨a2,b2⟩:=a.below (Below.refl W.heap.size W).drew
 exact⟨F',a2,b.trans b2,c,d,e,f,d2,e2⟩
section
variable {P:Program} {md:Region.Mode} {ops:Array Oper} {Q:Exit→Act→World→Prop} {N:Nat} {C:World→Prop}
theorem nonlyS (i:Nat) {o:Oper} {fuel:Nat} {listed:Array Bool} {a:Act} {w:World} (hr:Region.ready md ops listed=[i]) (ho:ops[i]? = some o)
  (hw:Region.wanted o (yielded ops a.tmps)=false) (hC:i<N→C w) (h:q0l P md ops Q N C fuel (listed.setIfInBounds i true) (a.put o.dst undef) w):q0l P md ops Q N C (fuel+1) listed a w:=
 ⟨(fun h0=>by rw[hr] at h0;cases h0),fun j hj=>by
  rw[hr] at hj
  obtain rfl:j=i:=by simpa using hj
  exact wpOp_step ho (fun K' hK=>by rw[if_neg (by rw[hw];simp)];exact hK _ _ ⟨hC,h⟩)⟩
end
def PlFr2 (s0 s1 s3 s4 s5:Value) (kb:Nat) (a:Act):Prop:=∃ u:Nat→Value,u 11=.pointer (some ⟨kb,0,none⟩)∧a=frP s0 s1 s3 s4 s5 u
theorem PlFr2.mk' {s0 s1 s3 s4 s5:Value} {kb:Nat} (t:Array Value) (h:({ tmps:=t,defers:=[] } : Act)=frP s0 s1 s3 s4 s5 (fun k=>lkF t.toList k)) (h1:lkF t.toList 11=.pointer (some ⟨kb,0,none⟩)):PlFr2 s0 s1 s3 s4 s5 kb { tmps:=t,defers:=[] }:=⟨_,h1,h⟩
theorem way_put2 {Bd:Int} {ab kb:Nat} {x:ActX} {W:World} {s1:Value} {a0:Act} {Q:Exit→Act→World→Prop} {K:Act→World→Prop} (hKK:∀ a w,Code.wp Tryz.prog (cR (cR (cR (wy pl2)))) Q a w→K a w) (hp:PuC w own P F g r o k H T now safe nodes B ab kb x W) (ha:AllI H Bd) (hx:x.what=2∨x.what=3) (hm:H.m=T.length) (h7:T.length≤7) (hB:B≤1000) (hQP:∀ c a d v W,Q (.panic c) (Act.put a (some d) v) W→Q (.panic c) a W)
  (h0:PlFr2 (pw g) s1 (pw ab) (.int .i64 (idT T x.tx)) (.string ⟨(keyT x.a).toArray⟩) kb a0) (hQ:∀ a' W',PlFr (pw g) s1 (pw ab) (.int .i64 (idT T x.tx)) (.string ⟨(keyT x.a).toArray⟩) a'→PlM w own F g r o k H T now safe nodes B x W'→Q .normal a' W'):Code.wp Tryz.prog (cL (cR (cR (wy pl2)))) (Exit.then K Q) a0 W:=by
 have HYE:=LH (fun he=>put_id0 (H:=H) (T:=T) (x:=x) hm he)
 have HM0:=LH (fun he=>MidR.put (safe:=safe) (nodes:=nodes) (now:=now) (H:=H) (T:=T) (x:=x) hx he)
 have HM1:=LH (fun he=>MidR.putE (safe:=safe) (nodes:=nodes) (now:=now) (H:=H) (T:=T) (x:=x) hx he)
 have HQ:=LH hQ
 obtain⟨F2,hC2,hZ2,hA2,ho2,hF2,hK2,ho3,hF3⟩:=hp.drew
 obtain⟨V2,L2,_,_,_,c0,_,_,_,_,gl⟩:=hC2.cells
 have hA0:=acts _ _ _ hA2
 have HE:=LH (hput_all hC2.hi ha.wf hC2.ns ha.c (idT T x.tx) (keyT x.a) (q2v _) (cutV x.val) (by have:=cutV_size x.val;omega) (x.what == 3))
 rw[show(⟨⟨(keyT x.a).toArray⟩,cutV x.val,x.what == 3⟩:Pr)=prX x from rfl] at HE
 have k0:=hK2.cell 0
 have k1:=hK2.cell 1
 have k2:=hK2.cell 2
 have kl:=hK2.lt
 simp only[List.getElem?_toArray,List.getElem?_cons_zero,List.getElem?_cons_succ] at k0 k1 k2
 have HC2:=LH hC2
 have HZ2:=LH hZ2
 have HAK:=LH (show Blk W.drew ab _ _∧own ab=none∧¬F2 ab∧Blk W.drew kb _ _∧own kb=none∧¬F2 kb from⟨hA2,ho2,hF2,hK2,ho3,hF3⟩)
 obtain⟨u,hu,rfl⟩:=h0
 clear hC2 hZ2 hA2 ho2 hF2 hK2 ho3 hF3 hQ hA0 hp ha gl
 unfold ErP at HE
 unfold pw frP at *
 generalize hgb:(x.what == 3)=gb at *
 generalize idT T x.tx=idv at *
 generalize hres:H.put idv (prX x)=res at *
 have HGB:=LH hgb
 clear hgb hres
 obtain⟨er,H3⟩:=res
 rw[hu]
 simp only[wy,pl2,pl1,pl0,plBlk,plX,plB,cL,cR,cT,cE,cB,Tryz.f10,Option.getD] at hKK ⊢
 go_upto_region 21 with (fail)
 refine wp_region_any (by kernel_rfl) ?_
 change wpAny _ _ _ _ _ _ _ (World.drew _)
 refine q0e (fun W=>W.cell? ⟨g,0,none⟩=some (.pointer (some ⟨P.g,0,none⟩))∧W.cell? ⟨kb,0,none⟩=some (.string ⟨(keyT x.a).toArray⟩)∧W.cell? ⟨kb,1,none⟩=some (.string (cutV x.val))∧W.cell? ⟨kb,2,none⟩=some (.bool gb)∧kb<W.heap.size) 6 hQP (fun HQP=>?_)
 have HCC:(fun W=>W.cell? ⟨g,0,none⟩=some (.pointer (some ⟨P.g,0,none⟩))∧W.cell? ⟨kb,0,none⟩=some (.string ⟨(keyT x.a).toArray⟩)∧W.cell? ⟨kb,1,none⟩=some (.string (cutV x.val))∧W.cell? ⟨kb,2,none⟩=some (.bool gb)∧kb<W.heap.size) W.drew:=⟨c0,k0,k1,k2,kl⟩
 refine nA 0 [1,2,3,6,7,8,9,10,11] rfl rfl HQP HCC (fun w' hw'=>by go_simp;rfl) ?_
 refine nA 1 [2,3,6,7,8,9,10,11] rfl rfl HQP HCC (fun w' hw'=>by go_simp;rfl) ?_
 refine nA 2 [3,6,7,8,9,10,11] rfl rfl HQP HCC (fun w' hw'=>by go_simp;rfl) ?_
 refine nA 3 [6,7,8,9,10,11] rfl rfl HQP HCC (fun w' hw'=>by obtain⟨p0,p1,p2,p3,pl⟩:=hw';go_simp;rfl) ?_
 refine nA 4 [6,7,8,9,10,11] rfl rfl HQP HCC (fun w' hw'=>by go_simp;rfl) ?_
 refine nA 5 [6,7,8,9,10,11] rfl rfl HQP HCC (fun w' hw'=>by obtain⟨p0,p1,p2,p3,pl⟩:=hw';go_simp;rfl) ?_
 clear HCC
 refine nO 6 rfl (fun KK hK=>?_)
 go_simp
 refine HE.out.mono ?_
 rintro e w3 ⟨rfl,hG3⟩
 obtain⟨own3,hC3,hZ3⟩:=HC2.out.gsp hG3
 have HC3:=LH hC3
 have HA3:=LH (hZ3.fr.blk HAK.out.1 (fun e=>e.elim (fun e=>e HAK.out.2.1) HAK.out.2.2.1))
 have HK3:=LH (hZ3.fr.blk HAK.out.2.2.2.1 (fun e=>e.elim (fun e=>e HAK.out.2.2.2.2.1) HAK.out.2.2.2.2.2))
 have HZ3:=LH (HZ2.out.trans hZ3)
 clear hG3 hZ3 HE HC2 HZ2 c0 k0 k1 k2 kl
 by_cases he:er=0
 ·subst he
  obtain⟨i,hi,hil⟩:=HYE.out rfl
  have HMM:=LH (HM0.out rfl)
  subst hi
  have hgt:decide ((0:Int)<(i:Int)+1)=true:=decide_eq_true (by omega)
  simp only[erV,if_pos]
  go_simp
  refine hK _ _ (fun h=>absurd h (by decide)) ?_
  clear hK KK
  refine nO 7 rfl (fun KK hK=>?_)
  go_simp
  refine hK _ _ (fun h=>absurd h (by decide)) ?_
  clear hK KK
  refine nO 8 rfl (fun KK hK=>?_)
  go_simp
  refine hK _ _ (fun h=>absurd h (by decide)) ?_
  clear hK KK
  refine nO 9 rfl (fun KK hK=>?_)
  go_simp
  refine hK _ _ (fun h=>absurd h (by decide)) ?_
  clear hK KK
  refine nO 10 rfl (fun KK hK=>?_)
  go_simp
  refine hK _ _ (fun h=>absurd h (by decide)) ?_
  clear hK KK
  refine nO 11 rfl (fun KK hK=>?_)
  go_simp
  refine hK _ _ (fun h=>absurd h (by decide)) ?_
  clear hK KK
  refine ndone (by kernel_rfl) ?_ _
  obtain⟨V3,L3,hst3,hT3,hF3,_,c1,_,_,_,gl3⟩:=hC3.cells
  have hlen:L3.length=T.length:=by rw[← hT3,List.length_map]
  have hil3:i<L3.length:=by omega
  obtain⟨y,hy⟩:∃ y,L3[i]? = some y:=⟨_,List.getElem?_eq_getElem hil3⟩
  have hym:=List.mem_of_getElem? hy
  obtain⟨gV,cap,hV3,hfz,hgV⟩:=q3x hst3.row (show 0<L3.length by omega)
  obtain⟨A3,k3,hyV,_,_⟩:=q01 (hst3.ops y hym).1
  obtain⟨d0,_⟩:=sx_cell hst3 hy hV3
  rw[hyV] at d0
  rw[hV3] at c1
  have hyn:=(hst3.ops y hym).2.1
  have hrow:=(hst3.ops y hym).1
  rw[hyV] at hrow
  have HROW:=LH hrow
  have HST:=LH hst3
  have HT3:=LH hT3
  have HF3:=LH hF3
  have HY:=LH hy
  have HYV:=LH hyV
  have HV3:=LH hV3
  have hw1:IntKind.i64.wrap ((i:Int)+1-1)=i:=by rw[show(i:Int)+1-1=i by omega];exact IntWalk.i64_in _ ⟨by omega,by omega⟩
  have hw2:IntKind.i64.wrap (i:Int)=i:=IntWalk.i64_in _ ⟨by omega,by omega⟩
  obtain⟨w0,_,_,_,al3⟩:=acts _ _ _ HA3.out
  have kl3:=HK3.out.lt
  have q1:w3.cell? ⟨kb,1,none⟩=some (.string (cutV x.val)):=HK3.out.cell 1
  clear hst3 hT3 hF3 hy hyV hV3 hrow hC3 HYE HM0 HM1
  have hii:(i:Int)<L3.length:=by omega
  go_upto_region 22 with (fail)
  refine wp_region_any (by kernel_rfl) ?_
  change wpAny _ _ _ _ _ _ _ (World.drew _)
  refine q0e (fun W=>W.cell? ⟨g,1,none⟩=some (.slice (some ⟨gV,0,none⟩) L3.length cap)∧W.cell? ⟨gV,i*3,none⟩=some (.slice A3 y.t.ops.length k3)∧W.cell? ⟨ab,0,none⟩=some (.int .i64 x.what)∧W.cell? ⟨kb,1,none⟩=some (.string (cutV x.val))) 23 hQP (fun HQP=>?_)
  have HCC:(fun W=>W.cell? ⟨g,1,none⟩=some (.slice (some ⟨gV,0,none⟩) L3.length cap)∧W.cell? ⟨gV,i*3,none⟩=some (.slice A3 y.t.ops.length k3)∧W.cell? ⟨ab,0,none⟩=some (.int .i64 x.what)∧W.cell? ⟨kb,1,none⟩=some (.string (cutV x.val))) w3.drew:=⟨c1,d0,w0,q1⟩
  refine nA 0 [1,2,3,23,24,25] rfl rfl HQP HCC (fun w' hw'=>by go_simp;rfl) ?_
  refine nA 1 [2,3,23,24,25] rfl rfl HQP HCC (fun w' hw'=>by go_simp;rfl) ?_
  refine nA 2 [3,23,24,25] rfl rfl HQP HCC (fun w' hw'=>by go_simp;rfl) ?_
  refine nA 3 [23,24,25] rfl rfl HQP HCC (fun w' hw'=>by obtain⟨p0,p1,p2,p3⟩:=hw';go_simp;rfl) ?_
  refine nA 4 [5,23,24,25] rfl rfl HQP HCC (fun w' hw'=>by go_simp;rfl) ?_
  refine nA 5 [23,24,25] rfl rfl HQP HCC (fun w' hw'=>by go_simp;rfl) ?_
  refine nA 6 [7,8,9,12,13,14,22,23,24,25] rfl rfl HQP HCC (fun w' hw'=>by go_simp;rfl) ?_
  refine nA 7 [8,9,12,13,14,22,23,24,25] rfl rfl HQP HCC (fun w' hw'=>by go_simp;rfl) ?_
  refine nA 8 [9,12,13,14,22,23,24,25] rfl rfl HQP HCC (fun w' hw'=>by go_simp;rfl) ?_
  refine nA 9 [12,13,14,22,23,24,25] rfl rfl HQP HCC (fun w' hw'=>by obtain⟨p0,p1,p2,p3⟩:=hw';go_simp;rfl) ?_
  refine nA 10 [11,12,13,14,22,23,24,25] rfl rfl HQP HCC (fun w' hw'=>by go_simp;rfl) ?_
  refine nA 11 [12,13,14,22,23,24,25] rfl rfl HQP HCC (fun w' hw'=>by go_simp;rfl) ?_
  refine nA 12 [13,14,22,23,24,25] rfl rfl HQP HCC (fun w' hw'=>by go_simp;rfl) ?_
  refine nA 13 [14,22,23,24,25] rfl rfl HQP HCC (fun w' hw'=>by go_simp;rfl) ?_
  refine nA 14 [22,23,24,25] rfl rfl HQP HCC (fun w' hw'=>by obtain⟨p0,p1,p2,p3⟩:=hw';go_simp;rfl) ?_
  refine nA 15 [16,20,21,22,23,24,25] rfl rfl HQP HCC (fun w' hw'=>by go_simp;rfl) ?_
  refine nA 16 [20,21,22,23,24,25] rfl rfl HQP HCC (fun w' hw'=>by obtain⟨p0,p1,p2,p3⟩:=hw';go_simp;rfl) ?_
  refine nA 17 [20,21,22,23,24,25] rfl rfl HQP HCC (fun w' hw'=>by go_simp;rfl) ?_
  refine nA 18 [19,20,21,22,23,24,25] rfl rfl HQP HCC (fun w' hw'=>by go_simp;rfl) ?_
  refine nA 19 [20,21,22,23,24,25] rfl rfl HQP HCC (fun w' hw'=>by obtain⟨p0,p1,p2,p3⟩:=hw';go_simp;rfl) ?_
  refine nA 20 [21,22,23,24,25] rfl rfl HQP HCC (fun w' hw'=>by go_simp;rfl) ?_
  have hkeep:∀ o q p,q<w3.heap.size→(w3.alloc o).cell? ⟨q,p,none⟩=w3.cell? ⟨q,p,none⟩:=fun o q p hq=>World.cell?_alloc_lt w3 o ⟨q,p,none⟩ hq
  refine nO 21 rfl (fun KK hK=>?_)
  go_simp
  refine hK _ _ (fun _=>⟨(hkeep _ _ _ gl3).trans HCC.1,(hkeep _ _ _ hgV).trans HCC.2.1,(hkeep _ _ _ al3).trans HCC.2.2.1,(hkeep _ _ _ kl3).trans HCC.2.2.2⟩) ?_
  clear hK KK HCC hkeep
  refine nO 22 rfl (fun KK hK=>?_)
  refine q1g w3.drew w3.heap.size rfl _ (.tmp 175) (.tmp 182) 50 rfl 0 56 _ 4 48 Tryz.underlying50 so_info rfl (by decide) _ _ _ #[.int .i64 x.what,.string ⟨(keyT x.a).toArray⟩,.string (cutV x.val),.bool false] rfl HROW.out 1 rfl _ rfl rfl (by simp[Value.oneCell']) (by unfold maxLen;omega) (by omega) (Nat.zero_le _) ?_
  intro V6 w6 hrow6 hm6
  have hm6':Moved w3 w6 y.V.ownBlock V6.ownBlock:=by rw[HYV.out];exact⟨⟨hm6.1.os,hm6.1.tape,hm6.1.output,hm6.1.size,hm6.1.block⟩,hm6.2⟩
  obtain⟨F6,hC6,hZ6⟩:=SyC.pushOp (op:=opP x) HC3.out HST.out HT3.out HF3.out HY.out HV3.out trivial hm6' hrow6
  have HX:=LH (show PlM w own F g r o k H T now safe nodes B x (w6.setCell ⟨gV,i*3,none⟩ V6) from⟨own3,P,F6,H3,_,B+1,hC6,HZ3.out.trans hZ6,HMM.out,Nat.le_refl _⟩)
  have hrv:=hm6'.1.own HST.out.row (fun b hb e=>q0i HST.out.row (HST.out.ops y hym).1 (by decide) hb e.symm)
  obtain⟨gV',cap',hV',hfz6,hgV6⟩:=q3x hrv (show 0<L3.length by omega)
  rw[HV3.out] at hV'
  injection hV' with hV' _ _
  injection hV' with hV'
  injection hV' with hV' _ _
  subst hV'
  have hf6:=hfz6 (i*3)
  have HC6:=LH (show(fun W=>W.cell? ⟨g,1,none⟩=some (.slice (some ⟨gV,0,none⟩) L3.length cap)∧W.cell? ⟨gV,i*3,none⟩=some (.slice A3 y.t.ops.length k3)∧W.cell? ⟨ab,0,none⟩=some (.int .i64 x.what)∧W.cell? ⟨kb,1,none⟩=some (.string (cutV x.val))) w6 from⟨(hm6'.1.cell (p:=⟨g,1,none⟩) gl3 (fun e=>q02 (HST.out.ops y hym).1 HST.out.blk (by decide) e.symm)).trans c1,(hm6'.1.cell (p:=⟨gV,i*3,none⟩) hgV (fun e=>q0i HST.out.row (HST.out.ops y hym).1 (by decide) (by rw[HV3.out];rfl) e.symm)).trans d0,(hm6'.1.cell (p:=⟨ab,0,none⟩) al3 (fun e=>q02 (HST.out.ops y hym).1 HA3.out (by decide) e.symm)).trans w0,(hm6'.1.cell (p:=⟨kb,1,none⟩) kl3 (fun e=>q02 (HST.out.ops y hym).1 HK3.out (by decide) e.symm)).trans q1⟩)
  have y0:=HC6.out.2.1
  obtain⟨A7,c7,hV7,_,_⟩:=q01 hrow6
  subst hV7
  clear hm6 hm6' hrow6 hrv hC6 hZ6 hfz6
  go_simp
  refine hK _ _ (fun _=>HC6.out) ?_
  clear hK KK
  refine nO 23 rfl (fun KK hK=>?_)
  go_simp
  refine hK _ _ (fun h=>absurd h (by decide)) ?_
  clear hK KK
  refine nO 24 rfl (fun KK hK=>?_)
  go_simp
  refine hK _ _ (fun h=>absurd h (by decide)) ?_
  clear hK KK
  refine nO 25 rfl (fun KK hK=>?_)
  go_simp
  refine hK _ _ (fun h=>absurd h (by decide)) ?_
  clear hK KK
  refine ndone (by kernel_rfl) ?_ _
  clear HQP
  go_wp2_with fail
  exact HQ.out _ _ (PlFr.mk' _ rfl) HX.out

 ·have HX:=LH (show PlM w own F g r o k H T now safe nodes B x w3 from⟨own3,P,F2,H3,T,B,HC3.out,HZ3.out,HM1.out he,Nat.le_succ _⟩)
  have hev:erV er=.iface 79 (.int .i64 er):=if_neg he
  simp only[hev]
  clear hC3 HYE HM0 HM1
  go_simp
  refine hK _ _ (fun h=>absurd h (by decide)) ?_
  clear hK KK
  refine nO 7 rfl (fun KK hK=>?_)
  go_simp
  refine hK _ _ (fun h=>absurd h (by decide)) ?_
  clear hK KK
  refine nO 8 rfl (fun KK hK=>?_)
  go_simp
  refine hK _ _ (fun h=>absurd h (by decide)) ?_
  clear hK KK
  refine nonlyS 9 (by kernel_rfl) rfl (by kernel_rfl) (fun h=>absurd h (by decide)) ?_
  refine nonlyS 10 (by kernel_rfl) rfl (by kernel_rfl) (fun h=>absurd h (by decide)) ?_
  refine nO 11 rfl (fun KK hK=>?_)
  go_simp
  refine hK _ _ (fun h=>absurd h (by decide)) ?_
  clear hK KK
  refine ndone (by kernel_rfl) ?_ _
  clear HQP
  go_wp2_with fail
  exact HQ.out _ _ (PlFr.mk' _ rfl) HX.out
theorem way_put {Bd:Int} {ab:Nat} {x:ActX} {W:World} {s1 _s5:Value} {a0:Act} {Q:Exit→Act→World→Prop} (hp:PlC w own P F g r o k H T now safe nodes B ab x W) (ha:AllI H Bd) (_hBd:Bd≤999000) (hx:x.what=2∨x.what=3) (hm:H.m=T.length) (h7:T.length≤7) (hB:B≤1000) (hQP:∀ c a d v W,Q (.panic c) (Act.put a (some d) v) W→Q (.panic c) a W)
  (h0:PlFr (pw g) s1 (pw ab) (.int .i64 (idT T x.tx)) (.string ⟨(keyT x.a).toArray⟩) a0) (hQ:∀ a' W',PlFr (pw g) s1 (pw ab) (.int .i64 (idT T x.tx)) (.string ⟨(keyT x.a).toArray⟩) a'→PlM w own F g r o k H T now safe nodes B x W'→Q .normal a' W'):Code.wp Tryz.prog (wy pl2) Q a0 W:=by
 have HP2:=LH hp
 obtain⟨F2,hC2,hZ2,hA2,ho2,hF2⟩:=hp
 obtain⟨V2,L2,hst2,hT2,hF3,c0,c1,c2,_,c4,gl⟩:=hC2.cells
 obtain⟨x0,x1,x2,x3,xl⟩:=acts _ _ _ hA2
 have HC2:=LH hC2
 have HZ2:=LH hZ2
 have HA:=LH ha
 have HQ:=LH hQ
 clear x1 x2 c0 c1 c2 c4
 obtain⟨u,rfl⟩:=h0
 clear hC2 hZ2 hA2 ho2 hF2 hQ ha hst2 hT2 hF3
 unfold pw frP at *
 simp only[wy,pl2,pl1,pl0,plBlk,plX,plB,cL,cR,cT,cE,cB,Tryz.f10,Option.getD]
 by_cases h9:9<x.val.size
 ·have h9i:(9:Int)<x.val.size:=by omega
  have HPU:=LH (HP2.out.put0 HZ2.out.fr.size (v:=x.val.extract 0 9) (by unfold cutV;rw[if_pos h9]))
  go_upto_region 21 with (fail)
  refine way_put2 ?_ HPU.out HA.out hx hm h7 hB hQP ?_ HQ.out
  rotate_left
  ·exact PlFr2.mk' _ rfl rfl
  ·assumption
 ·have h9i:¬(9:Int)<x.val.size:=by omega
  have HPU:=LH (HP2.out.put0 HZ2.out.fr.size (v:=x.val) (by unfold cutV;rw[if_neg h9]))
  go_upto_region 21 with (fail)
  refine way_put2 ?_ HPU.out HA.out hx hm h7 hB hQP ?_ HQ.out
  rotate_left
  ·exact PlFr2.mk' _ rfl rfl
  ·assumption
end
section
variable {w w':World} {own own':Own} {P:Ptr} {F:Nat→Prop} {g r o k:Nat} {H:Hs} {T:List TxP} {now:Int} {nodes:Nat} {safe:Bool} {B:Nat}
theorem way_begin {Bd:Int} {ab:Nat} {x:ActX} {W:World} {s1 s5:Value} {a0:Act} {Q:Exit→Act→World→Prop} (hp:PlC w own P F g r o k H T now safe nodes B ab x W) (ha:AllI H Bd) (_hBd:Bd≤999000) (hx:x.what=0) (hm:H.m=T.length) (h7:T.length<7) (hQP:∀ c a d v W,Q (.panic c) (Act.put a (some d) v) W→Q (.panic c) a W)
  (h0:PlFr (pw g) s1 (pw ab) (.int .i64 (idT T x.tx)) s5 a0) (hQ:∀ a' W',PlFr (pw g) s1 (pw ab) (.int .i64 (idT T x.tx)) s5 a'→PlM w own F g r o k H T now safe nodes B x W'→Q .normal a' W'):Code.wp Tryz.prog (wy pl0) Q a0 W:=by
 have HP2:=LH hp
 obtain⟨F2,hC2,hZ2,hA2,ho2,hF2⟩:=hp
 obtain⟨V2,L2,hst2,hT2,hF3,c0,c1,c2,_,c4,gl⟩:=hC2.cells
 obtain⟨x0,x1,x2,x3,xl⟩:=acts _ _ _ hA2
 have HC2:=LH hC2
 have HZ2:=LH hZ2
 have HA:=LH ha
 have HQ:=LH hQ
 have HE:=LH (q8e hC2.hi (by omega))
 have HMB:=LH (MidR.begin (safe:=safe) (nodes:=nodes) (now:=now) (H:=H) (T:=T) (x:=x) hx h7)
 have hl2:L2.length=T.length:=by rw[← hT2,List.length_map]
 obtain⟨A2,k2,hV2,_,_⟩:=q01 hst2.row
 rw[hV2] at c1
 unfold BegP at HE
 rw[show((H.m+1:Nat):Int)=(L2.length:Int)+1 by omega] at HE
 have HL2:=LH hl2
 clear x0 x1 x2 x3 xl c2 c4 hV2
 obtain⟨u,rfl⟩:=h0
 clear hC2 hZ2 hA2 ho2 hF2 hQ ha hst2 hT2 hF3
 unfold pw frP at *
 simp only[wy,pl0,plBlk,plX,plB,cL,cR,cT,cB,Tryz.f10,Option.getD]
 have hd7:decide ((L2.length:Int)<7)=true:=decide_eq_true (by omega)
 have hlt7:(L2.length:Int)<7:=by omega
 have hw0:IntKind.i64.wrap ((L2.length:Int)+1)=(L2.length:Int)+1:=IntWalk.i64_in _ ⟨by omega,by omega⟩
 go_wp2_with fail
 refine HE.out.mono ?_
 rintro e w3 ⟨rfl,b3,own3,hI3,hZ3⟩
 obtain⟨hC3,hZ4⟩:=HC2.out.house (P':={ P with gt:=upd P.gt (H.m+1) b3 }) hI3 hZ3 rfl
 have HC3:=LH hC3
 have HZ3:=LH (HZ2.out.trans hZ4)
 obtain⟨V3,L3,hst3,hT3,hF3,_,c1',c2',_,_,gl3⟩:=hC3.cells
 have hl3:L3.length=L2.length:=by rw[HL2.out,← hT3,List.length_map]
 obtain⟨A3,k3,hV3,_,_⟩:=q01 hst3.row
 rw[hV3] at c1'
 have hrow:=hst3.row
 rw[hV3] at hrow
 have HROW:=LH hrow
 have HST:=LH hst3
 have HT3:=LH hT3
 have HF3:=LH hF3
 have HV3:=LH hV3
 clear hC3 hZ4 hI3 hZ3 HE HC2 HZ2 c0 c1 hst3 hT3 hF3 hV3 hrow hd7 hlt7 gl
 rw[← hl3] at hw0 ⊢
 have hl37:L3.length≤7:=by omega
 clear hl3 HL2
 go_upto_region 11 with (fail)
 refine wp_region_any (by kernel_rfl) ?_
 change wpAny _ _ _ _ _ _ _ (World.drew _)
 refine q0e (fun W=>W.cell? ⟨g,1,none⟩=some (.slice A3 L3.length k3)∧W.cell? ⟨g,2,none⟩=some (.int .i64 now)) 12 hQP (fun HQP=>?_)
 have HCC:(fun W=>W.cell? ⟨g,1,none⟩=some (.slice A3 L3.length k3)∧W.cell? ⟨g,2,none⟩=some (.int .i64 now)) w3.drew:=⟨c1',c2'⟩
 refine nA 0 [12,13,14] rfl rfl HQP HCC (fun w' hw'=>by go_simp;rfl) ?_
 refine nA 1 [2,3,4,11,12,13,14] rfl rfl HQP HCC (fun w' hw'=>by go_simp;rfl) ?_
 refine nA 2 [3,4,11,12,13,14] rfl rfl HQP HCC (fun w' hw'=>by go_simp;rfl) ?_
 refine nA 3 [4,11,12,13,14] rfl rfl HQP HCC (fun w' hw'=>by go_simp;rfl) ?_
 refine nA 4 [11,12,13,14] rfl rfl HQP HCC (fun w' hw'=>by obtain⟨p0,p1⟩:=hw';go_simp;rfl) ?_
 refine nA 5 [6,7,8,9,10,11,12,13,14] rfl rfl HQP HCC (fun w' hw'=>by go_simp;rfl) ?_
 refine nA 6 [7,8,9,10,11,12,13,14] rfl rfl HQP HCC (fun w' hw'=>by go_simp;rfl) ?_
 refine nA 7 [8,9,10,11,12,13,14] rfl rfl HQP HCC (fun w' hw'=>by go_simp;rfl) ?_
 refine nA 8 [9,10,11,12,13,14] rfl rfl HQP HCC (fun w' hw'=>by obtain⟨p0,p1⟩:=hw';go_simp;rfl) ?_
 refine nA 9 [10,11,12,13,14] rfl rfl HQP HCC (fun w' hw'=>by go_simp;rfl) ?_
 have hkeep:∀ o q p,q<w3.heap.size→(w3.alloc o).cell? ⟨q,p,none⟩=w3.cell? ⟨q,p,none⟩:=fun o q p hq=>World.cell?_alloc_lt w3 o ⟨q,p,none⟩ hq
 refine nO 10 rfl (fun KK hK=>?_)
 go_simp
 refine hK _ _ (fun _=>⟨(hkeep _ _ _ gl3).trans HCC.1,(hkeep _ _ _ gl3).trans HCC.2⟩) ?_
 clear hK KK HCC hkeep
 refine nO 11 rfl (fun KK hK=>?_)
 refine q1g w3.drew w3.heap.size rfl _ (.tmp 79) (.tmp 85) 29 rfl 0 52 _ 3 40 Tryz.underlying29 sx_info rfl (by decide) _ _ _ #[.slice none 0 0,.int .i64 now,.int .i64 (-1)] rfl HROW.out 1 rfl _ rfl rfl (by simp[Value.oneCell']) (by unfold maxLen;omega) (by omega) (Nat.zero_le _) ?_
 intro V6 w6 hrow6 hm6
 have hm6':Moved w3 w6 V3.ownBlock V6.ownBlock:=by rw[HV3.out];exact⟨⟨hm6.1.os,hm6.1.tape,hm6.1.output,hm6.1.size,hm6.1.block⟩,hm6.2⟩
 obtain⟨q1,q2,q3⟩:=HST.out.pushTx hm6' hrow6
 obtain⟨hC6,hZ6⟩:=HC3.out.turn q2 (fun b hb e=>HF3.out b (e.elim (fun e=>.inr (.inl e.symm)) (fun e=>.inl e))) q1 (T':=T++[⟨[],now,-1⟩]) (by rw[List.map_append,HT3.out];rfl) (fun b hb=>(q3 b hb).imp (HF3.out b) id)
 have HX:=LH (show PlM w own F g r o k H T now safe nodes B x (w6.setCell ⟨g,1,none⟩ V6) from⟨own3,_,_,_,_,B,hC6,HZ3.out.trans hZ6,HMB.out,Nat.le_succ _⟩)
 have hne:¬some g=V3.ownBlock:=fun e=>q02 HST.out.row HST.out.blk (by decide) e.symm
 have HC6:=LH (show(fun W=>W.cell? ⟨g,1,none⟩=some (.slice A3 L3.length k3)∧W.cell? ⟨g,2,none⟩=some (.int .i64 now)) w6 from⟨(hm6'.1.cell (p:=⟨g,1,none⟩) gl3 hne).trans c1',(hm6'.1.cell (p:=⟨g,2,none⟩) gl3 hne).trans c2'⟩)
 have hb6:=hm6'.1.blk HST.out.blk hne
 have hf6:=hb6.frozen 1
 have hl6:=hb6.lt
 have y0:=HC6.out.1
 obtain⟨A7,c7,hV7,_,_⟩:=q01 hrow6
 subst hV7
 clear hm6 hm6' hrow6 hC6 hZ6 hb6 q1 q2 q3
 go_simp
 refine hK _ _ (fun _=>HC6.out) ?_
 clear hK KK
 refine nO 12 rfl (fun KK hK=>?_)
 go_simp
 refine hK _ _ (fun h=>absurd h (by decide)) ?_
 clear hK KK
 refine nO 13 rfl (fun KK hK=>?_)
 go_simp
 refine hK _ _ (fun h=>absurd h (by decide)) ?_
 clear hK KK
 refine nO 14 rfl (fun KK hK=>?_)
 go_simp
 refine hK _ _ (fun h=>absurd h (by decide)) ?_
 clear hK KK
 refine ndone (by kernel_rfl) ?_ _
 clear HQP
 go_wp2_with fail
 exact HQ.out _ _ (PlFr.mk' _ rfl) HX.out
theorem way_full {Bd:Int} {ab:Nat} {x:ActX} {W:World} {s1 s5:Value} {a0:Act} {Q:Exit→Act→World→Prop} (hp:PlC w own P F g r o k H T now safe nodes B ab x W) (ha:AllI H Bd) (_hBd:Bd≤999000) (hx:x.what=0) (h7:¬T.length<7) (h8:T.length≤7)
  (h0:PlFr (pw g) s1 (pw ab) (.int .i64 (idT T x.tx)) s5 a0) (hQ:∀ a' W',PlFr (pw g) s1 (pw ab) (.int .i64 (idT T x.tx)) s5 a'→PlM w own F g r o k H T now safe nodes B x W'→Q .normal a' W'):Code.wp Tryz.prog (wy pl0) Q a0 W:=by
 have HP2:=LH hp
 obtain⟨F2,hC2,hZ2,hA2,ho2,hF2⟩:=hp
 obtain⟨V2,L2,hst2,hT2,hF3,c0,c1,c2,_,c4,gl⟩:=hC2.cells
 obtain⟨x0,x1,x2,x3,xl⟩:=acts _ _ _ hA2
 have HC2:=LH hC2
 have HZ2:=LH hZ2
 have HA:=LH ha
 have HQ:=LH hQ
 have hl2:L2.length=T.length:=by rw[← hT2,List.length_map]
 obtain⟨A2,k2,hV2,_,_⟩:=q01 hst2.row
 rw[hV2] at c1
 clear x0 x1 x2 x3 xl c2 c4 hV2
 obtain⟨u,rfl⟩:=h0
 clear hC2 hZ2 hA2 ho2 hF2 hQ ha hst2 hT2 hF3
 unfold pw frP at *
 simp only[wy,pl0,plBlk,plX,plB,cL,cR,cT,cB,Tryz.f10,Option.getD]
 have hd7:decide ((L2.length:Int)<7)=false:=decide_eq_false (by omega)
 have hlt7:¬(L2.length:Int)<7:=by omega
 have HX:=LH (show PlM w own F g r o k H T now safe nodes B x W from⟨own,P,F2,_,T,B,HC2.out,HZ2.out,.full hx h7,Nat.le_succ _⟩)
 go_wp2_with fail
 exact HQ.out _ _ (PlFr.mk' _ rfl) HX.out
end
section
variable {w w':World} {own own':Own} {P:Ptr} {F:Nat→Prop} {g r o k:Nat} {H:Hs} {T:List TxP} {now:Int} {nodes:Nat} {safe:Bool} {B:Nat}
def PlFr3 (s0 s1 s3 s4 s5:Value) (wh:Int) (a:Act):Prop:=∃ u:Nat→Value,u 46=.int .i64 wh∧a=frP s0 s1 s3 s4 s5 u
theorem PlFr3.mk' {s0 s1 s3 s4 s5:Value} {wh:Int} (t:Array Value) (h:({ tmps:=t,defers:=[] } : Act)=frP s0 s1 s3 s4 s5 (fun k=>lkF t.toList k)) (h1:lkF t.toList 46=.int .i64 wh):PlFr3 s0 s1 s3 s4 s5 wh { tmps:=t,defers:=[] }:=⟨_,h1,h⟩
theorem plays_switch {Bd:Int} {ab:Nat} {x:ActX} {W:World} {s1:Value} {a0:Act} {Q:Exit→Act→World→Prop} {K:Act→World→Prop} (hp:PlC w own P F g r o k H T now safe nodes B ab x W) (ha:AllI H Bd) (hBd:Bd≤999000) (hm:H.m=T.length) (h7:T.length≤7) (hB:B≤1000) (hnd:1≤nodes∧nodes≤3) (hQP:∀ c a d v W,Q (.panic c) (Act.put a (some d) v) W→Q (.panic c) a W)
  (h0:PlFr3 (pw g) s1 (pw ab) (.int .i64 (idT T x.tx)) (.string ⟨(keyT x.a).toArray⟩) x.what a0) (hQ:∀ a' W',PlFr (pw g) s1 (pw ab) (.int .i64 (idT T x.tx)) (.string ⟨(keyT x.a).toArray⟩) a'→PlM w own F g r o k H T now safe nodes B x W'→K a' W'):Code.wp Tryz.prog plBlk (Exit.then K Q) a0 W:=by
 obtain⟨u,hu,rfl⟩:=h0
 have HP2:=LH hp
 have HA:=LH ha
 have HQ:=LH hQ
 have HXX:=LH (fun k (h:x.what=k)=>h)
 generalize hwh:x.what=wh at *
 have HWH:=LH hwh
 clear hp ha hQ hwh HXX
 unfold frP
 rw[hu]
 simp only[plBlk,plX,plB,cL,cR,Tryz.f10,Option.getD]
 by_cases e0:wh=0
 ·subst e0
  go_upto_if 47 with (fail)
  refine wp_cond_true rfl ?_
  by_cases h77:T.length<7
  ·refine way_begin HP2.out HA.out hBd HWH.out hm h77 (fun c a d v W h=>hQP c a d v W h) ?_ (fun a' W' h1 h2=>HQ.out a' W' h1 h2)
   exact PlFr.mk' _ rfl
  ·refine way_full HP2.out HA.out hBd HWH.out h77 h7 ?_ (fun a' W' h1 h2=>HQ.out a' W' h1 h2)
   exact PlFr.mk' _ rfl
 by_cases e1:wh=1
 ·subst e1
  go_upto_if 89 with (fail)
  refine wp_cond_true rfl ?_
  refine way_get (_s5:=undef) HP2.out HA.out hBd HWH.out hm h7 hB (fun c a d v W h=>hQP c a d v W h) ?_ (fun a' W' h1 h2=>HQ.out a' W' h1 h2)
  exact PlFr.mk' _ rfl
 by_cases e2:wh=2
 ·subst e2
  go_upto_if 131 with (fail)
  refine wp_cond_true rfl ?_
  go_upto_if 131 with (fail)
  refine wp_cond_true rfl ?_
  refine way_put (_s5:=undef) HP2.out HA.out hBd (.inl HWH.out) hm h7 hB (fun c a d v W h=>hQP c a d v W h) ?_ (fun a' W' h1 h2=>HQ.out a' W' h1 h2)
  exact PlFr.mk' _ rfl
 by_cases e3:wh=3
 ·subst e3
  go_upto_if 131 with (fail)
  refine wp_cond_false rfl ?_
  go_upto_if 131 with (fail)
  refine wp_cond_true rfl ?_
  refine way_put (_s5:=undef) HP2.out HA.out hBd (.inr HWH.out) hm h7 hB (fun c a d v W h=>hQP c a d v W h) ?_ (fun a' W' h1 h2=>HQ.out a' W' h1 h2)
  exact PlFr.mk' _ rfl
 by_cases e4:wh=4
 ·subst e4
  go_upto_if 186 with (fail)
  refine wp_cond_true rfl ?_
  refine way_end HP2.out HA.out hBd HWH.out ?_ (fun a' W' h1 h2=>HQ.out a' W' h1 h2)
  exact PlFr.mk' _ rfl
 by_cases e5:wh=5
 ·subst e5
  go_upto_if 194 with (fail)
  refine wp_cond_true rfl ?_
  by_cases h4:x.a.tmod 4=0
  ·refine way_drop0 HP2.out HA.out hBd HWH.out h4 ?_ (fun a' W' h1 h2=>HQ.out a' W' h1 h2)
   exact PlFr.mk' _ rfl
  ·refine way_drop1 HP2.out HA.out hBd HWH.out h4 ?_ (fun a' W' h1 h2=>HQ.out a' W' h1 h2)
   exact PlFr.mk' _ rfl
 by_cases e6:wh=6
 ·subst e6
  go_upto_if 206 with (fail)
  refine wp_cond_true rfl ?_
  go_upto_if 206 with (fail)
  refine wp_cond_true rfl ?_
  by_cases hn:0<H.net.l.length
  ·refine way_deliver HP2.out HA.out hBd HWH.out hn ?_ (fun a' W' h1 h2=>HQ.out a' W' h1 h2)
   exact PlFr.mk' _ rfl
  ·refine q74 HP2.out HA.out hBd (by rw[HWH.out];omega) hn ?_ (fun a' W' h1 h2=>HQ.out a' W' h1 h2)
   exact PlFr.mk' _ rfl
 by_cases e7:wh=7
 ·subst e7
  go_upto_if 206 with (fail)
  refine wp_cond_false rfl ?_
  go_upto_if 206 with (fail)
  refine wp_cond_true rfl ?_
  go_upto_if 206 with (fail)
  refine wp_cond_true rfl ?_
  by_cases hn:0<H.net.l.length
  ·refine way_lose HP2.out HA.out hBd HWH.out hn ?_ (fun a' W' h1 h2=>HQ.out a' W' h1 h2)
   exact PlFr.mk' _ rfl
  ·refine q74 HP2.out HA.out hBd (by rw[HWH.out];omega) hn ?_ (fun a' W' h1 h2=>HQ.out a' W' h1 h2)
   exact PlFr.mk' _ rfl
 by_cases e8:wh=8
 ·subst e8
  go_upto_if 206 with (fail)
  refine wp_cond_false rfl ?_
  go_upto_if 206 with (fail)
  refine wp_cond_false rfl ?_
  go_upto_if 206 with (fail)
  refine wp_cond_true rfl ?_
  by_cases hn:0<H.net.l.length
  ·refine way_twice HP2.out HA.out hBd HWH.out hn ?_ (fun a' W' h1 h2=>HQ.out a' W' h1 h2)
   exact PlFr.mk' _ rfl
  ·refine q74 HP2.out HA.out hBd (by rw[HWH.out];omega) hn ?_ (fun a' W' h1 h2=>HQ.out a' W' h1 h2)
   exact PlFr.mk' _ rfl
 by_cases e9:wh=9
 ·subst e9
  go_upto_if 245 with (fail)
  refine wp_cond_true rfl ?_
  refine way_tick HP2.out HA.out hBd HWH.out ?_ (fun a' W' h1 h2=>HQ.out a' W' h1 h2)
  exact PlFr.mk' _ rfl
 by_cases e10:wh=10
 ·subst e10
  go_upto_if 252 with (fail)
  refine wp_cond_true rfl ?_
  refine way_fail HP2.out HA.out hBd HWH.out hnd (fun c a d v W h=>hQP c a d v W h) ?_ (fun a' W' h1 h2=>HQ.out a' W' h1 h2)
  exact PlFr.mk' _ rfl
 by_cases e11:wh=11
 ·subst e11
  go_upto_if 266 with (fail)
  refine wp_cond_true rfl ?_
  refine way_fix HP2.out HA.out hBd HWH.out ?_ (fun a' W' h1 h2=>HQ.out a' W' h1 h2)
  exact PlFr.mk' _ rfl
 by_cases e12:wh=12
 ·subst e12
  go_upto_if 273 with (fail)
  refine wp_cond_true rfl ?_
  refine way_calm HP2.out HA.out hBd HWH.out ?_ (fun a' W' h1 h2=>HQ.out a' W' h1 h2)
  exact PlFr.mk' _ rfl
 have b0:(wh == 0)=false:=by simpa using e0
 have b1:(wh == 1)=false:=by simpa using e1
 have b2:(wh == 2)=false:=by simpa using e2
 have b3:(wh == 3)=false:=by simpa using e3
 have b4:(wh == 4)=false:=by simpa using e4
 have b5:(wh == 5)=false:=by simpa using e5
 have b6:(wh == 6)=false:=by simpa using e6
 have b7:(wh == 7)=false:=by simpa using e7
 have b8:(wh == 8)=false:=by simpa using e8
 have b9:(wh == 9)=false:=by simpa using e9
 have b10:(wh == 10)=false:=by simpa using e10
 have b11:(wh == 11)=false:=by simpa using e11
 have b12:(wh == 12)=false:=by simpa using e12
 have HX:=LH (show PlM w own F g r o k H T now safe nodes B x W from by
  obtain⟨F2,hC2,hZ2,_,_,_⟩:=HP2.out
  exact⟨own,P,F2,H,T,B,hC2,hZ2,.other (by rw[HWH.out];omega),Nat.le_succ _⟩)
 go_wp2_with fail
 refine HQ.out _ _ ?_ HX.out
 exact PlFr.mk' _ rfl
end
section
variable {w w':World} {own own':Own} {P:Ptr} {F:Nat→Prop} {g r o k:Nat} {H:Hs} {T:List TxP} {now:Int} {nodes:Nat} {safe:Bool} {B:Nat}
def q2r (H:Hs) (now:Int) (i:Nat) (T:List TxP):List TxP:=T.mapIdx fun j t=>if j<i then late1 H now j t else t
theorem q94 (H:Hs) (now:Int) (i:Nat) (T:List TxP):(q2r H now i T).length=T.length:=by unfold q2r;simp
theorem lateTo_0 (H:Hs) (now:Int) (T:List TxP):q2r H now 0 T=T:=by
 unfold q2r
 apply List.ext_getElem?
 intro j
 rw[List.getElem?_mapIdx]
 cases T[j]? <;> simp
theorem lateTo_all (H:Hs) (now:Int) (T:List TxP):q2r H now T.length T=lateT H now T:=by
 unfold q2r lateT
 apply List.ext_getElem?
 intro j
 rw[List.getElem?_mapIdx,List.getElem?_mapIdx]
 cases hj:T[j]? with
 | none=>rfl
 | some t=>
  obtain⟨hl,_⟩:=List.getElem?_eq_some_iff.1 hj
  simp[hl]
theorem lateTo_at {H:Hs} {now:Int} {i:Nat} {T:List TxP} {t:TxP} (h:(q2r H now i T)[i]? = some t):T[i]? = some t:=by
 unfold q2r at h
 rw[List.getElem?_mapIdx] at h
 cases hi:T[i]? with
 | none=>rw[hi] at h;cases h
 | some u=>rw[hi] at h;simpa using h
theorem lateTo_no {H:Hs} {now:Int} {i:Nat} {T:List TxP} {t:TxP} (h:T[i]? = some t) (hn:¬(t.to_<0∧H.state (i+1)=3)):q2r H now (i+1) T=q2r H now i T:=by
 unfold q2r
 apply List.ext_getElem?
 intro j
 rw[List.getElem?_mapIdx,List.getElem?_mapIdx]
 cases hj:T[j]? with
 | none=>rfl
 | some u=>
  simp only[Option.map_some,Option.some.injEq]
  by_cases e:j=i
  ·subst e
   rw[h] at hj
   injection hj with hj
   subst hj
   rw[if_pos (by omega),if_neg (by omega)]
   exact if_neg hn
  ·by_cases e2:j<i
   ·rw[if_pos (by omega),if_pos e2]
   ·rw[if_neg (by omega),if_neg e2]
theorem lateTo_yes {H:Hs} {now:Int} {i:Nat} {T:List TxP} {t:TxP} (h:T[i]? = some t) (hn:t.to_<0∧H.state (i+1)=3):(q2r H now i T).set i { t with to_:=now } = q2r H now (i+1) T:=by
 obtain⟨hl,_⟩:=List.getElem?_eq_some_iff.1 h
 apply List.ext_getElem?
 intro j
 rw[List.getElem?_set,q94]
 unfold q2r
 rw[List.getElem?_mapIdx,List.getElem?_mapIdx]
 by_cases e:i=j
 ·subst e
  rw[if_pos rfl,if_pos hl,h]
  simp only[Option.map_some]
  rw[if_pos (by omega)]
  exact congrArg some (if_pos hn).symm
 ·rw[if_neg e]
  cases hj:T[j]? with
  | none=>rfl
  | some u=>
   simp only[Option.map_some,Option.some.injEq]
   by_cases e2:j<i
   ·rw[if_pos e2,if_pos (by omega)]
   ·rw[if_neg e2,if_neg (by omega)]
def LtRel (W:World) (own:Own) (P:Ptr) (F:Nat→Prop) (g r o k:Nat) (H:Hs) (T:List TxP) (now:Int) (safe:Bool) (nodes:Nat) (B:Nat) (v:Value) (wr:World):Prop:=
 ∃ (i:Nat) (F':Nat→Prop),v=.int .i64 i∧i≤T.length∧SyC wr own P F' g r o k H (q2r H now i T) now safe nodes B∧SyZ W own F wr own F'
theorem plays_late {W:World} {s1 s3 s4 s5:Value} {a0:Act} {Q:Exit→Act→World→Prop} (c:SyC W own P F g r o k H T now safe nodes B) (hm:H.m≤1000) (h7:T.length≤7) (hQP:∀ c a d v W,Q (.panic c) (Act.put a (some d) v) W→Q (.panic c) a W)
  (h0:PlFr (pw g) s1 s3 s4 s5 a0) (hQ:∀ a' W' F',a'.defers=[]→SyC W' own P F' g r o k H (lateT H now T) now safe nodes B→SyZ W own F W' own F'→Q .normal a' W'):Code.wp Tryz.prog (cR plX) Q a0 W:=by
 obtain⟨u,rfl⟩:=h0
 have HC:=LH c
 have HQ:=LH hQ
 clear c hQ
 unfold frP pw
 simp only[plX,plB,cR,Tryz.f10,Option.getD]
 go_wp2_with fail
 go_loopw [14] (LtRel W own P F g r o k H T now safe nodes B) (fun v _=>7-(intOf v).toNat)
 case atStart=>exact⟨0,F,rfl,Nat.zero_le _,by rw[lateTo_0];exact HC.out,SyZ.refl _ _ _⟩
 case round=>
  obtain⟨i,F1,rfl,hi,hC1,hZ1⟩:=hrel
  obtain⟨V3,L3,hst3,hT3,hF3,c0,c1,c2,_,_,gl3⟩:=hC1.cells
  have hlen:L3.length=T.length:=by rw[← q94 H now i T,← hT3,List.length_map]
  obtain⟨A0,k0,hV0,_,_⟩:=q01 hst3.row
  have HC1:=LH hC1
  have HZ1:=LH hZ1
  by_cases hlt:(i:Int)<L3.length
  ·have hil3:i<L3.length:=by omega
   obtain⟨y,hy⟩:∃ y,L3[i]? = some y:=⟨_,List.getElem?_eq_getElem hil3⟩
   obtain⟨gV,cap,hV3,hfz,hgV⟩:=q3x hst3.row (show 0<L3.length by omega)
   obtain⟨_,d2⟩:=sx_cell hst3 hy hV3
   rw[hV3] at c1
   have hTi:T[i]? = some y.t:=lateTo_at (by rw[← hT3,List.getElem?_map,hy];rfl)
   have HTI:=LH hTi
   have HS:=LH (q51 hC1.hi hm ((i:Int)+1))
   have HST:=LH hst3
   have HT3:=LH hT3
   have HF3:=LH hF3
   have HY:=LH hy
   have HV3:=LH hV3
   have hw1:IntKind.i64.wrap ((i:Int)+1)=(i:Int)+1:=IntWalk.i64_in _ ⟨by omega,by omega⟩
   have hf2:=hfz (i*3+2)
   unfold pw at HS c0
   clear hst3 hT3 hF3 hy hV3 hV0 hC1 hZ1 hTi hfz
   by_cases hto:y.t.to_<0
   ·have hd:decide (y.t.to_<0)=true:=decide_eq_true hto
    by_cases hst:H.state ((i:Int)+1)=3
    ·have HX:=LH (show LtRel W own P F g r o k H T now safe nodes B (.int .i64 ((i+1:Nat):Int)) (wr.setCell ⟨gV,i*3+2,none⟩ (.int .i64 now)).drew from by
      obtain⟨q1,q2,q3⟩:=HST.out.setTo HY.out HV3.out now
      obtain⟨hC2,hZ2⟩:=HC1.out.turn (T':=q2r H now (i+1) T) q2 (fun b hb e=>HF3.out b (.inr (.inl e.symm))) q1 (by rw[List.map_set,HT3.out];exact lateTo_yes HTI.out ⟨hto,hst⟩) (fun b hb=>.inl (HF3.out b (q3 b hb)))
      obtain⟨hC4,hZ4⟩:=hC2.below (Below.refl (wr.setCell ⟨gV,i*3+2,none⟩ (.int .i64 now)).heap.size (wr.setCell ⟨gV,i*3+2,none⟩ (.int .i64 now))).drew
      exact⟨i+1,_,rfl,by omega,hC4,HZ1.out.trans (hZ2.trans hZ4)⟩)
     rw[hst] at HS
     clear hst
     go_wp2_with fail
     refine HS.out.mono ?_
     rintro e w2 ⟨rfl,rfl⟩
     clear HS c0
     go_upto_region 52 with (fail)
     refine wp_region_any (by kernel_rfl) ?_
     change wpAny _ _ _ _ _ _ _ (World.drew _)
     refine q0e (fun W=>W.cell? ⟨g,1,none⟩=some (.slice (some ⟨gV,0,none⟩) L3.length cap)∧W.cell? ⟨g,2,none⟩=some (.int .i64 now)) 9 hQP (fun HQP=>?_)
     have HCC:(fun W=>W.cell? ⟨g,1,none⟩=some (.slice (some ⟨gV,0,none⟩) L3.length cap)∧W.cell? ⟨g,2,none⟩=some (.int .i64 now)) wr.drew:=⟨c1,c2⟩
     refine nA 0 [1,2,3,9,10,11] rfl rfl HQP HCC (fun w' hw'=>by go_simp;rfl) ?_
     refine nA 1 [2,3,9,10,11] rfl rfl HQP HCC (fun w' hw'=>by go_simp;rfl) ?_
     refine nA 2 [3,9,10,11] rfl rfl HQP HCC (fun w' hw'=>by go_simp;rfl) ?_
     refine nA 3 [9,10,11] rfl rfl HQP HCC (fun w' hw'=>by obtain⟨p0,p1⟩:=hw';go_simp;rfl) ?_
     refine nA 4 [9,10,11] rfl rfl HQP HCC (fun w' hw'=>by go_simp;rfl) ?_
     refine nA 5 [6,7,8,9,10,11] rfl rfl HQP HCC (fun w' hw'=>by go_simp;rfl) ?_
     refine nA 6 [7,8,9,10,11] rfl rfl HQP HCC (fun w' hw'=>by go_simp;rfl) ?_
     refine nA 7 [8,9,10,11] rfl rfl HQP HCC (fun w' hw'=>by go_simp;rfl) ?_
     refine nA 8 [9,10,11] rfl rfl HQP HCC (fun w' hw'=>by obtain⟨p0,p1⟩:=hw';go_simp;rfl) ?_
     clear HCC
     refine nO 9 rfl (fun KK hK=>?_)
     go_simp
     refine hK _ _ (fun h=>absurd h (by decide)) ?_
     clear hK KK
     refine nO 10 rfl (fun KK hK=>?_)
     go_simp
     refine hK _ _ (fun h=>absurd h (by decide)) ?_
     clear hK KK
     refine nO 11 rfl (fun KK hK=>?_)
     go_simp
     refine hK _ _ (fun h=>absurd h (by decide)) ?_
     clear hK KK
     refine ndone (by kernel_rfl) ?_ _
     clear HQP
     go_wp2_with fail
     go_roundw
     case rel=>exact HX.out
     case measure=>simp[intOf];omega
    ·have HX:=LH (show LtRel W own P F g r o k H T now safe nodes B (.int .i64 ((i+1:Nat):Int)) wr from⟨i+1,F1,rfl,by omega,by rw[lateTo_no HTI.out (fun e=>hst e.2)];exact HC1.out,HZ1.out⟩)
     have hb3:(H.state ((i:Int)+1) == 3)=false:=by simpa using hst
     go_wp2_with fail
     refine HS.out.mono ?_
     rintro e w2 ⟨rfl,rfl⟩
     clear HS c0
     go_wp2_with fail
     go_roundw
     case rel=>exact HX.out
     case measure=>simp[intOf];omega
   ·have HX:=LH (show LtRel W own P F g r o k H T now safe nodes B (.int .i64 ((i+1:Nat):Int)) wr from⟨i+1,F1,rfl,by omega,by rw[lateTo_no HTI.out (fun e=>hto e.1)];exact HC1.out,HZ1.out⟩)
    have hd:decide (y.t.to_<0)=false:=decide_eq_false hto
    clear HS c0
    go_wp2_with fail
    go_roundw
    case rel=>exact HX.out
    case measure=>simp[intOf];omega
  ·have hiT:i=T.length:=by omega
   have HC9:=LH (show SyC wr own P F1 g r o k H (lateT H now T) now safe nodes B from by rw[← lateTo_all,← hiT];exact HC1.out)
   rw[hV0] at c1
   clear hst3 hT3 hF3 hV0 hC1 hZ1 hiT c0 c2
   go_wp2_with fail
   exact HQ.out _ _ _ rfl HC9.out HZ1.out
end
section
variable {w w':World} {own own':Own} {P:Ptr} {F:Nat→Prop} {g r o k:Nat} {H:Hs} {T:List TxP} {now:Int} {nodes:Nat} {safe:Bool} {B:Nat}
theorem plays_any {Bd:Int} (c:SyC w own P F g r o k H T now safe nodes B) (ha:AllI H Bd) (hBd:Bd≤999000) (hm:H.m=T.length) (h7:T.length≤7) (hn0:0≤now) (hn1:now≤1000000) (hB:B≤1000) (hnd:1≤nodes∧nodes≤3) (x:ActX) (_hx:x.val.size≤maxLen) :
  Calls Tryz.prog 10 #[pw g,actV x] w (SyP w own F g r o k safe nodes fun H' T' now' B'=>now'=now+1∧B'≤B+1∧∃ T1,MidR safe nodes (now+1) x H T H' T1∧T'=lateT H' (now+1) T1):=by
 have HP0:=LH (PlC.start c x (now+1))
 obtain⟨V9,L9,hst,hT,hF,_,_,c2,_,_,gl⟩:=c.cells
 have c2b:(w.alloc (.cells (actC x) 34)).cell? ⟨g,2,none⟩=some (.int .i64 now):=(World.cell?_alloc_lt w _ ⟨g,2,none⟩ gl).trans c2
 have glb:g<(w.alloc (.cells (actC x) 34)).heap.size:=by simp;omega
 have f2:(w.alloc (.cells (actC x) 34)).frozen? ⟨g,2,none⟩=false:=(hst.blk.alloc _).frozen 2
 have hw1:IntKind.i64.wrap (now+1)=now+1:=IntWalk.i64_in _ ⟨by omega,by omega⟩
 have HA:=LH ha
 clear c hst hT hF c2 ha
 unfold actV
 unfold actC at c2b glb f2
 unfold pw at *
 go_enter Tryz.func10,Tryz.ntmps10
 go_upto_region 3 with (fail)
 clear c2b glb f2 hw1
 generalize hW1:World.alloc _ _=W1
 have hpl:PlC w own P F g r o k H T (now+1) safe nodes B w.heap.size x W1:=by rw[← hW1];exact HP0.out
 clear HP0 hW1
 generalize hab:w.heap.size=ab at *
 have HAB:=LH hab
 clear hab
 have HP1:=LH hpl
 obtain⟨F1,hC1,hZ1,hA1,_,_⟩:=hpl
 obtain⟨V,L,hst,hT,hF,c0,c1,c2,c3,c4,gl⟩:=hC1.cells
 obtain⟨A0,k0,hV0,_,_⟩:=q01 hst.row
 have hTL:T.length=L.length:=by rw[← hT,List.length_map]
 have hL7:L.length≤7:=by omega
 rw[hV0] at c1
 have HL:=LH hTL
 obtain⟨a0,a1,a2,a3,al⟩:=acts _ _ _ hA1
 have HK:=LH (acts _ _ _ hA1)
 clear hC1 hZ1 hA1 hst hT hF c0 c2 c3 c4 hV0 a0 a2 a3
 go_upto_if 27 with (fail)
 go_cut [4] (fun s4 wx=>s4=.int .i64 (idT T x.tx)∧PlC w own P F g r o k H T (now+1) safe nodes B ab x wx)
 case first=>
  by_cases hl:L.length=0
  ·have hd2:∀ (inst:Decidable (0<L.length)),@decide (0<L.length) inst=false:=fun _=>decide_eq_false (by omega)
   simp only[hd2]
   have HX:=LH (show PlC w own P F g r o k H T (now+1) safe nodes B ab x W1 from HP1.out)
   have HI0:=LH (idT_0 (tx:=x.tx) (hTL.trans hl))
   clear hl
   go_wp2_with fail
   go_meet
   exact⟨by rw[HI0.out],HX.out⟩
  ·have hd2:∀ (inst:Decidable (0<L.length)),@decide (0<L.length) inst=true:=fun _=>decide_eq_true (by omega)
   simp only[hd2]
   have HID:=LH (idT_1 (tx:=x.tx) (show T.length≠0 by omega))
   have hpn:=q26 x.tx (n:=L.length) (by omega)
   have hw2:IntKind.i64.wrap (1+(pickN x.tx L.length:Int))=1+(pickN x.tx L.length:Int):=IntWalk.i64_in _ ⟨by omega,by omega⟩
   have HPK:=LH (q35 x.tx L.length (by omega) (by omega) W1.drew)
   have HX:=LH (HP1.out.below (Below.refl W1.heap.size W1).drew)
   clear hl hd2
   go_upto_region 4 with (fail)
   refine wp_region_any (by kernel_rfl) ?_
   change wpAny _ _ _ _ _ _ _ (World.drew _)
   refine q0e (fun W=>W.cell? ⟨ab,1,none⟩=some (.int .i64 x.tx)∧W.cell? ⟨g,1,none⟩=some (.slice A0 L.length k0)) 7 (fun _ _ _ _ _ h=>h) (fun HQP=>?_)
   have HCC:W1.drew.cell? ⟨ab,1,none⟩=some (.int .i64 x.tx)∧W1.drew.cell? ⟨g,1,none⟩=some (.slice A0 L.length k0):=⟨a1,c1⟩
   refine nA 0 [1,7,8,9] rfl rfl HQP HCC (fun w' hw'=>by go_simp;rfl) ?_
   refine nA 1 [7,8,9] rfl rfl HQP HCC (fun w' hw'=>by obtain⟨p0,p1⟩:=hw';go_simp;rfl) ?_
   refine nA 2 [3,4,5,6,7,8,9] rfl rfl HQP HCC (fun w' hw'=>by go_simp;rfl) ?_
   refine nA 3 [4,5,6,7,8,9] rfl rfl HQP HCC (fun w' hw'=>by go_simp;rfl) ?_
   refine nA 4 [5,6,7,8,9] rfl rfl HQP HCC (fun w' hw'=>by go_simp;rfl) ?_
   refine nA 5 [6,7,8,9] rfl rfl HQP HCC (fun w' hw'=>by obtain⟨p0,p1⟩:=hw';go_simp;rfl) ?_
   refine nA 6 [7,8,9] rfl rfl HQP HCC (fun w' hw'=>by go_simp;rfl) ?_
   clear HCC
   refine nO 7 rfl (fun KK hK=>?_)
   go_simp
   refine HPK.out.mono ?_
   rintro e w2 ⟨rfl,rfl⟩
   go_simp
   refine hK _ _ (fun h=>absurd h (by decide)) ?_
   clear hK KK
   refine nO 8 rfl (fun KK hK=>?_)
   go_simp
   refine hK _ _ (fun h=>absurd h (by decide)) ?_
   clear hK KK
   refine nO 9 rfl (fun KK hK=>?_)
   go_simp
   refine hK _ _ (fun h=>absurd h (by decide)) ?_
   clear hK KK
   refine ndone (by kernel_rfl) ?_ _
   clear HQP
   go_wp2_with fail
   go_meet
   exact⟨by rw[HID.out,hTL],HX.out⟩
 case rest=>
  obtain⟨rfl,hpl⟩:=hcut
  have HP2:=LH (hpl.below (Below.refl wc.heap.size wc).drew)
  obtain⟨F2,hC2,hZ2,hA2,_,_⟩:=hpl
  obtain⟨b0,b1,b2,b3,bl⟩:=acts _ _ _ hA2
  obtain⟨n0,nq,nl0,nlr⟩:=hC2.nm
  have n1:=nq _ _ (keyT_at x.a)
  have hkn:=q26 x.a (n:=4) (by omega)
  have HKQ:=LH (show Calls Tryz.prog 13 #[.int .i64 x.a,.int .i64 4] wc.drew fun e w'=>e=.returned (.int .i64 (pickN x.a 4))∧wc.drew=w' from q35 x.a 4 (by omega) (by omega) wc.drew)
  clear hC2 hZ2 hA2 b0 b1 b3 nq hTL hL7 HL HK HP1 c1 a1 al gl
  generalize pickN x.a 4=pk at *
  go_upto_region 5 with (fail)
  refine wp_region_any (by kernel_rfl) ?_
  change wpAny _ _ _ _ _ _ _ (World.drew _)
  refine q0e (fun W=>W.cell? ⟨ab,2,none⟩=some (.int .i64 x.a)∧W.cell? ⟨0,0,none⟩=some (.slice (some ⟨r,o,none⟩) 4 k)∧W.cell? ⟨r,o+pk,none⟩=some (.string ⟨(keyT x.a).toArray⟩)) 6 (fun _ _ _ _ _ h=>h) (fun HQP=>?_)
  have HCC:wc.drew.cell? ⟨ab,2,none⟩=some (.int .i64 x.a)∧wc.drew.cell? ⟨0,0,none⟩=some (.slice (some ⟨r,o,none⟩) 4 k)∧wc.drew.cell? ⟨r,o+pk,none⟩=some (.string ⟨(keyT x.a).toArray⟩):=⟨b2,n0,n1⟩
  refine nA 0 [6,7,8] rfl rfl HQP HCC (fun w' hw'=>by obtain⟨p0,p1,p2⟩:=hw';go_simp;rfl) ?_
  refine nA 1 [2,5,6,7,8] rfl rfl HQP HCC (fun w' hw'=>by go_simp;rfl) ?_
  refine nA 2 [5,6,7,8] rfl rfl HQP HCC (fun w' hw'=>by obtain⟨p0,p1,p2⟩:=hw';go_simp;rfl) ?_
  refine nA 3 [4,5,6,7,8] rfl rfl HQP HCC (fun w' hw'=>by obtain⟨p0,p1,p2⟩:=hw';go_simp;rfl) ?_
  refine nA 4 [5,6,7,8] rfl rfl HQP HCC (fun w' hw'=>by go_simp;rfl) ?_
  refine nO 5 rfl (fun KK hK=>?_)
  go_simp
  refine HKQ.out.mono ?_
  rintro e w2 ⟨rfl,rfl⟩
  go_simp
  refine hK _ _ (fun _=>HCC) ?_
  clear hK KK
  obtain⟨p0,p1,p2⟩:=HCC
  refine nO 6 rfl (fun KK hK=>?_)
  go_simp
  rw[if_pos (show(pk:Int)<4 by omega)]
  go_simp
  refine hK _ _ (fun h=>absurd h (by decide)) ?_
  clear hK KK
  refine nO 7 rfl (fun KK hK=>?_)
  go_simp
  refine hK _ _ (fun h=>absurd h (by decide)) ?_
  clear hK KK
  refine nO 8 rfl (fun KK hK=>?_)
  go_simp
  refine hK _ _ (fun h=>absurd h (by decide)) ?_
  clear hK KK
  refine ndone (by kernel_rfl) ?_ _
  clear HQP p0 p1 p2 n0 n1 hkn HKQ nl0 nlr
  have hpl:=HP2.out
  generalize World.drew _=W2 at *
  clear HP2
  have HP2:=LH hpl
  obtain⟨F2,hC2,hZ2,hA2,ho9,hF9⟩:=hpl
  obtain⟨b0,b1,b2,b3,bl⟩:=acts _ _ _ hA2
  clear hC2 hZ2 hA2 b1 b2 b3 ho9 hF9
  go_upto_block 0 with (fail)
  refine plays_switch (s1:=actV x) HP2.out HA.out hBd hm h7 hB hnd ?_ ?_ ?_
  ·exact fun _ _ _ _ _ h=>h
  ·unfold pw actV
   exact PlFr3.mk' _ rfl rfl
  ·rintro a' W' hf ⟨own3,P3,F3,H3,T3,B3,hC3,hZ3,hM3,hB3⟩
   have hcn:=hM3.cnt HA.out hBd hm h7
   apply_assumption
   refine plays_late hC3 (by omega) hcn.2.1 ?_ hf (fun a2 W2 F4 hd2 hC4 hZ4=>?_)
   ·exact fun _ _ _ _ _ h=>h
   have HX:=LH (show SyP w own F g r o k safe nodes (fun H' T' now' B'=>now'=now+1∧B'≤B+1∧∃ T1,MidR safe nodes (now+1) x H T H' T1∧T'=lateT H' (now+1) T1) (.returned (.tuple #[])) W2 from⟨rfl,own3,P3,F4,H3,_,now+1,B3,hC4,hZ3.trans hZ4,rfl,hB3,T3,hM3,rfl⟩)
   clear hC3 hZ3 hM3 hC4 hZ4 hf
   exact bodyPost_end (results_none rfl a2.tmps Tryz.prog W2) hd2 HX.out
end
def q4w (x:ActX):List Value:=[.int .i64 x.what,.int .i64 x.tx,.int .i64 x.a,.string x.val]
theorem flatAc:∀ (l:List ActX) (j:Nat) (x:ActX),l[j]? = some x→∀ i,i<4→(l.flatMap q4w)[j*4+i]? = (q4w x)[i]?
 | [],j,p,h,i,hi=>by simp at h
 | q::l,0,p,h,i,hi=>by
  simp at h
  subst h
  rw[List.flatMap_cons,List.getElem?_append_left (by show _<4;omega)]
  simp
 | q::l,j+1,p,h,i,hi=>by
  have h':l[j]? = some p:=by simpa using h
  have e:(j+1)*4+i=(j*4+i)+4:=by omega
  have e3:(q4w q).length=4:=rfl
  rw[e,List.flatMap_cons,List.getElem?_append_right (by rw[e3];omega),e3,Nat.add_sub_cancel]
  exact flatAc l j p h' i hi
theorem Rd.cellsAc {w:World} {B n j:Nat} {A:Option Addr} {l:List ActX} (h:Rd w B 4 A n (l.flatMap q4w)) (hl:l.length=n) (hj:j<n):∃ g off x,A=some ⟨g,off,none⟩∧g<B∧l[j]? = some x∧
  w.cell? ⟨g,off+j*4,none⟩=some (.int .i64 x.what)∧w.cell? ⟨g,off+j*4+1,none⟩=some (.int .i64 x.tx)∧w.cell? ⟨g,off+j*4+2,none⟩=some (.int .i64 x.a)∧w.cell? ⟨g,off+j*4+3,none⟩=some (.string x.val):=by
 obtain⟨g,off,e,hb,hc⟩:=h.2 (by omega)
 have hx:l[j]? = some l[j]:=List.getElem?_eq_getElem (by omega)
 have hf:=flatAc l j _ hx
 exact⟨g,off,l[j],e,hb,hx,hc (j*4) _ (hf 0 (by omega)),hc (j*4+1) _ (hf 1 (by omega)),hc (j*4+2) _ (hf 2 (by omega)),hc (j*4+3) _ (hf 3 (by omega))⟩
theorem SyC.begin {w w1:World} {own:Own} {P:Ptr} {H:Hs} {r o k n:Nat} {safe:Bool} (K:Keep w w1 own P H) (hn:NmI w r o k) (nodes:Int) {w2:World} (hb:Below w1.heap.size w1 w2) (hblk:Blk w2 w1.heap.size 37 #[pw P.g,.slice none 0 0,.int .i64 0,.bool safe,.int .i64 nodes]) :
  SyC w2 own P (fun b=>b=w1.heap.size) w1.heap.size r o k H [] 0 safe nodes n:=by
 have hK:=K.below hb
 have h0:=hn.lt0
 have hr:=hn.lt
 have hsz:=K.bl.size
 refine⟨hK.hi,hK.ns,⟨.slice none 0 0,[],⟨hblk,World.ownsRow_nil _ _ _ _,fun x hx=>(nomatch hx),fun i j x y h=>by simp at h⟩,rfl,fun b hb=>?_⟩,hn.fr (q06 hK.bl) (fun h=>by omega) (fun h=>by omega),?_,?_,?_,?_⟩
 ·rcases hb with rfl|hb|⟨x,hx,_⟩
  ·rfl
  ·simp[Value.ownBlock] at hb
  ·cases hx
 ·cases e:own 0 with
  | none=>rfl
  | some t=>have:=K.lo 0 (by rw[e];simp);omega
 ·cases e:own r with
  | none=>rfl
  | some t=>have:=K.lo r (by rw[e];simp);omega
 ·rintro b rfl
  exact⟨K.hi.free (Nat.le_refl _),by omega,by omega⟩
 ·rintro b rfl
  exact hblk.lt
def DcV (f:Int→Option Value):Prop:=∀ i v,f i=some v→v=.bool true∧1≤i∧i≤60
def OuV (H:Hs) (f:Int→Option Value):Prop:=∀ i v,f i=some v→((v=.int .i64 3∧stt H i=3)∨(v=.int .i64 4∧stt H i=4))∧1≤i∧i≤H.m
def AllD (H:Hs) (f:Int→Option Value):Prop:=∀ i:Nat,1≤i→i≤H.m→(H.tx i).state=3→f i≠none
def LogD (kind:Int) (f:Int→Option Value) (l:List Cm):Prop:=∀ c∈l,c.kind=kind→f c.tx≠none
def PtD (H:Hs) (f:Int→Option Value) (k j:Nat):Prop:=(k=2→∀ q,q<j→∀ i,((H.sh 2).liveIx H.n)[q]? = some i→LogD 3 f (lg H 2 i))∧(k<2→AllD H f)
theorem DcV.put {f:Int→Option Value} (h:DcV f) {x:Int} (hx:1≤x∧x≤60):DcV (putM f x (some (.bool true))):=fun i v e=>by
 by_cases e2:i=x
 ·subst e2;rw[q3d] at e;injection e with e;exact⟨e.symm,hx⟩
 ·rw[q60 e2] at e;exact h i v e
theorem q31 {f:Int→Option Value} {x i:Int} {v:Value} (h:f i≠none∨i=x):putM f x (some v) i≠none:=by
 by_cases e2:i=x
 ·subst e2;rw[q3d];simp
 ·rw[q60 e2];exact h.resolve_right e2
theorem OuV.put {H:Hs} {f:Int→Option Value} (h:OuV H f) {x m:Int} (hx:1≤x∧x≤H.m) (hm:(m=3∧stt H x=3)∨(m=4∧stt H x=4)):OuV H (putM f x (some (.int .i64 m))):=fun i v e=>by
 by_cases e2:i=x
 ·subst e2;rw[q3d] at e;injection e with e
  refine⟨?_,hx⟩
  rcases hm with ⟨rfl,h2⟩|⟨rfl,h2⟩
  ·exact .inl ⟨e.symm,h2⟩
  ·exact .inr ⟨e.symm,h2⟩
 ·rw[q60 e2] at e;exact h i v e
theorem OuV.mono {H H':Hs} {f:Int→Option Value} (h:OuV H f) (t:TxM H H'):OuV H' f:=fun i v e=>by
 obtain⟨h1,h2,h3⟩:=h i v e
 have e2:((i.toNat:Nat):Int)=i:=by omega
 refine⟨h1.imp (fun⟨a,b⟩=>⟨a,t.s3 _ (by omega) (by omega) b⟩) (fun⟨a,b⟩=>⟨a,t.s4 _ (by omega) (by omega) b⟩),h2,by have:=t.m;omega⟩
theorem AllD.of {H:Hs} {D:Nat→Prop} {f:Int→Option Value} (hd:DcI D H) (hb:∀ i:Nat,D i→f i≠none) (hp:PtD H f 2 ((H.sh 2).liveIx H.n).length):AllD H f:=fun i h1 hi e=>by
 rcases hd i h1 hi e with h|⟨j,hj,c,hc,hk,ht⟩
 ·exact hb i h
 ·obtain⟨q,hq⟩:=List.mem_iff_getElem?.1 (q1i.2 hj)
  have:=hp.1 rfl q (List.getElem?_eq_some_iff.1 hq).1 j hq c hc hk
  rw[ht] at this
  exact this
structure SlI (H:Hs) (D:Nat→Prop) (S:Nat→Prop) (W0:World) (b8 b9:Nat) (f g:Int→Option Value) (wr:World):Prop where
 m8:MapG q05 wr b8 100 f
 m9:MapG q05 wr b9 100 g
 dv:DcV f
 ov:OuV H g
 base:∀ i:Nat,D i→f i≠none
 fr:Fr S W0 wr
 ne:b8≠b9
section
variable {H:Hs} {D:Nat→Prop} {S:Nat→Prop} {W0 wr w':World} {b8 b9:Nat} {f g:Int→Option Value}
theorem SlI.below (h:SlI H D S W0 b8 b9 f g wr) (hb:Below wr.heap.size wr w'):SlI H D S W0 b8 b9 f g w':=
 ⟨h.m8.below hb h.m8.lt,h.m9.below hb h.m9.lt,h.dv,h.ov,h.base,h.fr.trans' (q06 hb) (fun b hb' hs=>by have:=h.fr.size;omega),h.ne⟩
theorem map61 {w:World} {b n:Nat} {f:Int→Option Value} (h:MapG q05 w b n f) (hf:∀ i,f i≠none→1≤i∧i≤60):MapG q05 w b 100 f:=
 (MapG.tight (C:=q05) h kI61 (fun o _ ho=>by have:=hf o ho;exact q1s (by omega) this.2)).mono (by rw[q2h];omega)
theorem DcV.key {f:Int→Option Value} (h:DcV f):∀ i,f i≠none→1≤i∧i≤60:=fun i hi=>by
 cases e:f i with
 | none=>exact absurd e hi
 | some v=>exact(h i v e).2
theorem OuV.key {H:Hs} {f:Int→Option Value} (h:OuV H f) (h60:H.m≤60):∀ i,f i≠none→1≤i∧i≤60:=fun i hi=>by
 cases e:f i with
 | none=>exact absurd e hi
 | some v=>have:=(h i v e).2;omega
theorem SlI.put8 {w1:World} {n:Nat} (h:SlI H D S W0 b8 b9 f g wr) (hb:Below wr.heap.size wr w1) {x:Int} (hx:1≤x∧x≤60) (hm:MapG q05 w' b8 n (putM f x (some (.bool true)))) (hf:Fr (fun b=>b=b8) w1 w') (hS:S b8):SlI H D S W0 b8 b9 (putM f x (some (.bool true))) g w':=by
 have h1:=h.below hb
 exact⟨map61 hm (h.dv.put hx).key,h1.m9.fr hf (fun e=>h.ne e.symm),h.dv.put hx,h.ov,fun i hi=>q31 (.inl (h.base i hi)),h1.fr.trans' hf (fun b _ e=>by rw[e];exact hS),h.ne⟩
theorem SlI.put9 {w1:World} {n:Nat} (h:SlI H D S W0 b8 b9 f g wr) (hb:Below wr.heap.size wr w1) (h60:H.m≤60) {x m:Int} (hx:1≤x∧x≤H.m) (hk:(m=3∧stt H x=3)∨(m=4∧stt H x=4)) (hm:MapG q05 w' b9 n (putM g x (some (.int .i64 m)))) (hf:Fr (fun b=>b=b9) w1 w') (hS:S b9):SlI H D S W0 b8 b9 f (putM g x (some (.int .i64 m))) w':=by
 have h1:=h.below hb
 exact⟨h1.m8.fr hf h.ne,map61 hm ((h.ov.put hx hk).key h60),h.dv,h.ov.put hx hk,h.base,h1.fr.trans' hf (fun b _ e=>by rw[e];exact hS),h.ne⟩
theorem SlI.put15 {w1:World} (h:SlI H D S W0 b8 b9 f g wr) (hb:Below wr.heap.size wr w1) {b15:Nat} (hf:Fr (fun b=>b=b15) w1 w') (hS:S b15) (h8:b8≠b15) (h9:b9≠b15):SlI H D S W0 b8 b9 f g w':=by
 have h1:=h.below hb
 exact⟨h1.m8.fr hf h8,h1.m9.fr hf h9,h.dv,h.ov,h.base,h1.fr.trans' hf (fun b _ e=>by rw[e];exact hS),h.ne⟩
theorem SlI.re {S':Nat→Prop} {W1:World} (h:SlI H D S W0 b8 b9 f g wr) (hf:Fr S' W1 wr):SlI H D S' W1 b8 b9 f g wr:=⟨h.m8,h.m9,h.dv,h.ov,h.base,hf,h.ne⟩
theorem bool_look {w:World} {b n:Nat} {f:Int→Option Value} (h:MapG q05 w b n f) {o:Int} (ho:okI o) (hv:f o≠none→f o=some (.bool true)):(Instr.lookup 60 (.map (some b)) (.int .i64 o) false).run Tryz.prog w=.ok (.bool (f o).isSome) w:=by
 have hz:(zeroValue 4).run Tryz.prog w=.ok (.bool false) w:=by kernel_rfl
 have:=(h.look Tryz.underlying60 hz (x:=o) ho).2
 rw[show q05.val o=Value.int .i64 o from rfl] at this
 rw[this]
 cases e:f o with
 | none=>rfl
 | some v=>
  have h2:=hv (by rw[e];simp)
  rw[e] at h2
  injection h2 with h2
  rw[Option.getD_some,h2];rfl
theorem int_look {w:World} {b n:Nat} {f:Int→Option Value} (h:MapG q05 w b n f) {o v:Int} (ho:okI o) (hv:(f o).getD (.int .i64 0)=.int .i64 v):(Instr.lookup 61 (.map (some b)) (.int .i64 o) false).run Tryz.prog w=.ok (.int .i64 v) w:=by
 have hz:(zeroValue 3).run Tryz.prog w=.ok (.int .i64 0) w:=by kernel_rfl
 have:=(h.look Tryz.underlying61 hz (x:=o) ho).2
 rw[show q05.val o=Value.int .i64 o from rfl,hv] at this
 exact this
theorem OuV.val {H:Hs} {f:Int→Option Value} (h:OuV H f) (o:Int):∃ v,(f o).getD (.int .i64 0)=.int .i64 v∧(stt H o=3→v≠4)∧(stt H o=4→v≠3):=by
 cases e:f o with
 | none=>exact⟨0,rfl,fun _=>by decide,fun _=>by decide⟩
 | some u=>
  rcases(h o u e).1 with ⟨rfl,h2⟩|⟨rfl,h2⟩
  ·exact⟨3,rfl,fun _=>by decide,fun h3=>by omega⟩
  ·exact⟨4,rfl,fun h3=>by omega,fun _=>by decide⟩
end
def S89 (b8 b9 b:Nat):Prop:=b=b8∨b=b9
def D3 (H:Hs) (x:Nat):Prop:=1≤x∧x≤H.m∧(H.tx x).state=3
structure LoI (W:World) (r o k b8 b9 gS:Nat) (nd i:Nat) (own:Own) (P:Ptr) (F:Nat→Prop) (H:Hs) (T:List TxP) (B:Nat) (f g:Int→Option Value) (wr:World):Prop where
 sy:SyC wr own P F gS r o k H T i false nd B
 all:AllI H (4+3*i)
 m:H.m=T.length
 m7:T.length≤7
 B:B≤i
 sl:SlI H (D3 H) (fun b=>W.heap.size≤b) W b8 b9 f g wr
 o8:own b8=none∧¬F b8
 o9:own b9=none∧¬F b9
 lo:∀ b,own b≠none∨F b→W.heap.size≤b
 ge:W.heap.size≤b8∧W.heap.size≤b9∧r<W.heap.size∧0<W.heap.size
def LoRel (W:World) (r o k b8 b9 gS n nd:Nat) (v:Value) (wr:World):Prop:=∃ (i:Nat) (own:Own) (P:Ptr) (F:Nat→Prop) (H:Hs) (T:List TxP) (B:Nat) (f g:Int→Option Value),v=.int .i64 i∧i≤n∧LoI W r o k b8 b9 gS nd i own P F H T B f g wr
def KRel (H:Hs) (D:Nat→Prop) (w1:World) (b8 b9:Nat) (v:Value) (wr:World):Prop:=∃ (kv:Int) (q:Nat) (f g:Int→Option Value),v=.int .i64 kv∧kv=2-q∧q≤3∧SlI H D (S89 b8 b9) w1 b8 b9 f g wr∧(1≤q→AllD H f)
def JRel (H:Hs) (D:Nat→Prop) (w4:World) (b8 b9 k n:Nat) (v:Value) (wr:World):Prop:=∃ (j:Nat) (f g:Int→Option Value),v=.int .i64 j∧j≤n∧SlI H D (S89 b8 b9) w4 b8 b9 f g wr∧PtD H f k j
def PRel (H:Hs) (D:Nat→Prop) (w7:World) (b8 b9 b15 k j:Nat) (l:List Cm) (v:Value) (wr:World):Prop:=∃ (p:Nat) (f g h:Int→Option Value),v=.int .i64 p∧p≤l.length∧SlI H D (fun b=>S89 b8 b9 b∨b=b15) w7 b8 b9 f g wr∧PtD H f k j∧MapG q05 wr b15 100 h∧DcV h∧LogD 2 h (l.take p)∧(k=2→LogD 3 f (l.take p))
theorem LogD.next {kind:Int} {f:Int→Option Value} {l:List Cm} {p:Nat} {c:Cm} (h:LogD kind f (l.take p)) (hc:l[p]? = some c) (hk:c.kind=kind→f c.tx≠none):LogD kind f (l.take (p+1)):=by
 rw[List.take_add_one,hc]
 intro d hd
 rcases List.mem_append.1 hd with hd|hd
 ·exact h d hd
 ·simp at hd;subst hd;exact hk
theorem LogD.put {kind:Int} {f:Int→Option Value} {l:List Cm} {x:Int} {v:Value} (h:LogD kind f l):LogD kind (putM f x (some v)) l:=fun c hc hk=>q31 (.inl (h c hc hk))
theorem PtD.put {H:Hs} {f:Int→Option Value} {k j:Nat} {x:Int} {v:Value} (h:PtD H f k j):PtD H (putM f x (some v)) k j:=⟨fun e q hq i hi=>(h.1 e q hq i hi).put,fun e i h1 hi hs=>q31 (.inl (h.2 e i h1 hi hs))⟩
theorem PtD.next {H:Hs} {f:Int→Option Value} {k j i:Nat} (h:PtD H f k j) (hi:((H.sh k).liveIx H.n)[j]? = some i) (hl:k=2→LogD 3 f (lg H k i)):PtD H f k (j+1):=by
 refine⟨fun e q hq i2 hi2=>?_,h.2⟩
 subst e
 by_cases e2:q<j
 ·exact h.1 rfl q e2 i2 hi2
 ·obtain rfl:q=j:=by omega
  rw[hi] at hi2
  injection hi2 with hi2
  subst hi2
  exact hl rfl
theorem LogOk.reads {w:World} {A:Option Addr} {n k:Nat} {L:List CmR} {l:List Cm} (h:LogOk w (.slice A n k,L) l):n=L.length∧q6n w w.heap.size A L.length L:=by
 have h1:=h.row
 obtain⟨A2,k2,e,_,_⟩:=q01 h1
 have e:Value.slice A n k=.slice A2 L.length k2:=e
 injection e with e1 e2 e3
 subst e1 e2 e3
 exact⟨rfl,rfl,Rd.of_own h1,fun y hy=>⟨(h.own y hy).2.1,Rd.of_own (h.own y hy).1⟩⟩
theorem LoI.act {W:World} {r o k b8 b9 gS nd i:Nat} {own:Own} {P:Ptr} {F:Nat→Prop} {H:Hs} {T:List TxP} {B:Nat} {f g:Int→Option Value} {wr w1:World} {own1:Own} {P1:Ptr} {F1:Nat→Prop} {H1:Hs} {T1:List TxP} {B1:Nat} {x:ActX} (h:LoI W r o k b8 b9 gS nd i own P F H T B f g wr) (hi:i<60)
  (hC:SyC w1 own1 P1 F1 gS r o k H1 (lateT H1 ((i:Int)+1) T1) ((i:Int)+1) false nd B1) (hZ:SyZ wr own F w1 own1 F1) (hB:B1≤B+1) (hM:MidR false nd ((i:Int)+1) x H T H1 T1) :
  AllI H1 (4+3*((i+1:Nat):Int))∧DcI (D3 H) H1∧SlI H1 (D3 H) (S89 b8 b9) w1 b8 b9 f g w1∧
   ∀ (f' g':Int→Option Value) (w2:World),SlI H1 (D3 H) (S89 b8 b9) w1 b8 b9 f' g' w2→AllD H1 f'→LoI W r o k b8 b9 gS nd (i+1) own1 P1 F1 H1 (lateT H1 ((i:Int)+1) T1) B1 f' g' w2:=by
 have hA:=h.all
 have hcn:=hM.cnt hA (by omega) h.m h.m7
 obtain⟨hA1,hT1,hD1⟩:=hA.act (by omega) (hM.act hA.wf hA.c (by have:=h.m;have:=h.m7;omega)) (D:=D3 H) (fun i h1 hi e=>⟨h1,hi,e⟩)
 have h8:=h.sl.m8.lt
 have h9:=h.sl.m9.lt
 have n8:¬(own b8≠none∨F b8):=fun e=>e.elim (fun e=>e h.o8.1) h.o8.2
 have n9:¬(own b9≠none∨F b9):=fun e=>e.elim (fun e=>e h.o9.1) h.o9.2
 have hA1':AllI H1 (4+3*((i+1:Nat):Int)):=hA1.mono (by omega)
 have hS1:SlI H1 (D3 H) (S89 b8 b9) w1 b8 b9 f g w1:=⟨h.sl.m8.fr hZ.fr n8,h.sl.m9.fr hZ.fr n9,h.sl.dv,h.sl.ov.mono hT1,h.sl.base,Fr.refl _ _,h.sl.ne⟩
 refine⟨hA1',hD1,hS1,fun f' g' w2 hS hAD=>?_⟩
 have q8:own1 b8=none∧¬F1 b8:=⟨by rw[hZ.ext b8 h8];exact h.o8.1,fun e=>(hZ.F b8 e).elim h.o8.2 (fun e=>by omega)⟩
 have q9:own1 b9=none∧¬F1 b9:=⟨by rw[hZ.ext b9 h9];exact h.o9.1,fun e=>(hZ.F b9 e).elim h.o9.2 (fun e=>by omega)⟩
 have hsz:=h.sl.fr.size
 have lo8:∀ b,S89 b8 b9 b→own1 b=none∧¬F1 b:=fun b e=>by rcases e with rfl|rfl;exact q8;exact q9
 have hlo1:∀ b,own1 b≠none∨F1 b→W.heap.size≤b:=fun b hb=>by
  by_cases e:b<wr.heap.size
  ·refine h.lo b (hb.imp (fun e2=>by rw[← hZ.ext b e];exact e2) (fun e2=>(hZ.F b e2).elim id (fun e3=>by omega)))
  ·omega
 have hC2:SyC w2 own1 P1 F1 gS r o k H1 (lateT H1 ((i:Int)+1) T1) ((i:Int)+1) false nd B1:=by
  obtain⟨V,L,a1,a2,a3⟩:=hC.st
  refine⟨hC.hi.fr0 hS.fr (fun b hb e=>hb (lo8 b e).1),hC.ns,⟨V,L,a1.fr hS.fr (fun b hb e=>(lo8 b e).2 (a3 b hb)),a2,a3⟩,?_,hC.o0,hC.or_,hC.F0,fun b hb=>Nat.lt_of_lt_of_le (hC.Fl b hb) hS.fr.size⟩
  obtain⟨g1,g2,g3,g4⟩:=h.ge
  exact hC.nm.fr hS.fr (fun e=>by rcases e with e|e <;> omega) (fun e=>by rcases e with e|e <;> omega)
 have hfr:Fr (fun b=>W.heap.size≤b) W w2:=by
  refine(h.sl.fr.trans' hZ.fr (fun b _ e=>h.lo b e)).trans' hS.fr (fun b hb e=>?_)
  obtain⟨g1,g2,g3,g4⟩:=h.ge
  rcases e with rfl|rfl
  ·exact g1
  ·exact g2
 refine⟨by rw[show((i+1:Nat):Int)=(i:Int)+1 by omega];exact hC2,hA1',by rw[lateT_len];exact hcn.1,by rw[lateT_len];exact hcn.2.1,by have:=h.B;omega,⟨hS.m8,hS.m9,hS.dv,hS.ov,fun a ha=>hAD a ha.1 ha.2.1 ha.2.2,hfr,hS.ne⟩,q8,q9,hlo1,h.ge⟩
theorem LogOk.maps {S:Nat→Prop} {w w':World} {x:Value×List CmR} {l:List Cm} (h:LogOk w x l) (hf:Fr S w w') (hS:∀ b,S b→∃ n m,MapG q05 w b n m):LogOk w' x l:=by
 have hn:∀ {base:Nat} {e:TypeId} {size n:Nat} {v:Value} {xs:List Value},w.ownsRow base e size v n xs→∀ b,v.ownBlock=some b→¬S b:=fun ho b hb hs=>by
  obtain⟨n,m,hm⟩:=hS b hs
  exact hm.notOwn ho hb
 exact⟨hf.own h.row (hn h.row),h.log,fun y hy=>⟨hf.own (h.own y hy).1 (hn (h.own y hy).1),(h.own y hy).2⟩,h.few⟩
theorem q2w (L:List CmR):(csOf L).length=L.length:=by unfold csOf;simp
theorem q8j (l:List ActX) (nodes:Int) (n cp:Nat) (A:Option Addr) (W:World) {r o k:Nat} (hr:Rd W W.heap.size 4 A n (l.flatMap q4w)) (hl:l.length=n) (hv:∀ x∈l,x.val.size≤maxLen) (hnm:NmI W r o k) :
  Calls Tryz.prog 6 #[.int .i64 nodes,.slice A n cp] W (TrueP W):=by
 have HR:=LH hr
 have HV:=LH hv
 have HNM:=LH hnm
 have HHO:=LH (fun w=>housed_any w)
 have HPK:=LH (q35 nodes 3 (by omega) (by omega) W)
 have hp3:=q26 nodes (n:=3) (by omega)
 have hmm:=@run_makeMap Tryz.prog
 clear hr hv hnm
 generalize hnd:1+pickN nodes 3=nd
 have hnd2:1≤nd∧nd≤3:=by omega
 have hadd:IntKind.i64.wrap (1+(pickN nodes 3:Int))=nd:=by rw[IntWalk.i64_in _ ⟨by omega,by omega⟩];omega
 go_enter Tryz.func6,Tryz.ntmps6
 by_cases h60:60<n
 ·have hd:decide ((60:Int)<n)=true:=decide_eq_true (by omega)
  clear hmm
  go_wp2_with fail
  go_ret
  exact⟨rfl,Below.refl _ _⟩
 have hd60:decide ((60:Int)<n)=false:=decide_eq_false (by omega)
 have HN:=LH (show Calls Tryz.prog 20 #[.int .i64 2,.int .i64 nd] W (NewP nd W) from new_house (w:=W) nd (by omega) (by omega))
 obtain⟨hA0,hm0,hn0⟩:=all_hs0 (n:=nd) (by omega)
 have HA0:=LH hA0
 have HM0:=LH hm0
 clear hA0 hm0 hn0
 go_wp2_with fail
 refine HPK.out.mono ?_
 rintro e w0 ⟨rfl,rfl⟩
 go_wp2_with fail
 refine HN.out.mono ?_
 rintro e w1 ⟨P,own,rfl,hI,hns,hb,hg,hlo⟩
 have HK:=LH (show Keep W w1 own P (hs0 nd) from⟨hI,hns,hb,hlo⟩)
 have HH:=LH (HHO.out w1)
 unfold HousedP at HH
 clear HN HPK hI hns hb hg hlo
 go_wp2_with fail
 refine HH.out.mono ?_
 rintro e w2 ⟨rfl,hb2⟩
 have HK2:=LH (HK.out.below hb2)
 clear HK HH hb2
 have hlt0:n≤60:=by omega
 unfold pw at *
 obtain⟨w3,hW3⟩:∃ w3:World,w3=w2.alloc (.cells #[.pointer (some ⟨P.g,0,none⟩),.slice none 0 0,.int .i64 0,.bool false,.int .i64 nd] 37):=⟨_,rfl⟩
 have HST:=LH (show LoRel W r o k (w2.heap.size+1) (w2.heap.size+1+1) w2.heap.size n nd (.int .i64 0) ((w3.alloc (.map #[] 0)).alloc (.map #[] 0)) from by
  have hb3:Below w2.heap.size w2 w3:=by rw[hW3];exact(Below.refl _ _).alloc (Nat.le_refl _) _
  have hx3:Blk w3 w2.heap.size 37 #[pw P.g,.slice none 0 0,.int .i64 0,.bool false,.int .i64 nd]:=by rw[hW3];exact Blk.new _ _ _
  have hs3:w3.heap.size=w2.heap.size+1:=by rw[hW3];simp
  have hsy:=SyC.begin (n:=0) HK2.out HNM.out (nd:Int) hb3 hx3
  have hb5:Below w3.heap.size w3 ((w3.alloc (.map #[] 0)).alloc (.map #[] 0)):=((Below.refl _ _).alloc (Nat.le_refl _) _).alloc (by simp) _
  obtain⟨hsy5,_⟩:=hsy.below hb5
  have hm8:MapG q05 ((w3.alloc (.map #[] 0)).alloc (.map #[] 0)) (w2.heap.size+1) 0 (fun _=>none):=by
   have:=(MapG.made q05 w3).alloc (.map #[] 0)
   rw[hs3] at this
   exact this
  have hm9:MapG q05 ((w3.alloc (.map #[] 0)).alloc (.map #[] 0)) (w2.heap.size+1+1) 0 (fun _=>none):=by
   have:=MapG.made q05 (w3.alloc (.map #[] 0))
   rw[show(w3.alloc (.map #[] 0)).heap.size=w2.heap.size+1+1 by simp[hs3]] at this
   exact this
  have hK:=HK2.out
  have hWs:=hK.bl.size
  have hz:=hK.hi.free (b:=w2.heap.size+1) (by omega)
  have hz2:=hK.hi.free (b:=w2.heap.size+1+1) (by omega)
  have hnm:=HNM.out
  have hl0:=hnm.lt0
  have hlr:=hnm.lt
  have hfr:Fr (fun b=>W.heap.size≤b) W ((w3.alloc (.map #[] 0)).alloc (.map #[] 0)):=(q06 ((hK.bl.trans (hb3.mono hWs)).trans (hb5.mono (by omega)))).mono (fun b hb e=>e)
  exact⟨0,own,P,_,hs0 nd,[],0,fun _=>none,fun _=>none,rfl,Nat.zero_le _,hsy5,HA0.out.mono (by omega),HM0.out,by simp,Nat.le_refl _,
   ⟨hm8.mono (by omega),hm9.mono (by omega),fun i v e=>(nomatch e),fun i v e=>(nomatch e),fun i hi=>by have:=hi.1;have:=hi.2.1;rw[HM0.out] at this;omega,hfr,by omega⟩,
   ⟨hz,by omega⟩,⟨hz2,by omega⟩,fun b hb=>by
    rcases hb with hb|hb
    ·exact hK.lo b hb
    ·omega,by omega,by omega,hlr,hl0⟩)
 clear HK2 HA0 HM0 HHO
 go_wp2_with fail
 rw[← hW3]
 clear hW3
 generalize w2.heap.size=gS at *
 go_loopw [10] (LoRel W r o k (gS+1) (gS+1+1) gS n nd) (fun v _=>n-(intOf v).toNat)
 case atStart=>exact HST.out
 case round=>
  clear HST
  have hg8:gS<gS+1∧gS<gS+1+1:=by omega
  generalize gS+1=b8 at *
  generalize b8+1=b9 at *
  have HG8:=LH hg8
  clear hg8
  obtain⟨i,own1,P1,F1,H,T,B,f,g,rfl,hi,hL⟩:=hrel
  by_cases hlt:(i:Int)<n
  ·have hin:i<n:=by omega
   have hWb:Below W.heap.size W wr:=hL.sl.fr.below (fun b hb=>hb) (Nat.le_refl _)
   obtain⟨g0,off,x,hA,hg0,hx,k0,k1,k2,k3⟩:=(HR.out.below hWb).cellsAc hl hin
   have hgw:g0<wr.heap.size:=Nat.lt_of_lt_of_le hg0 hWb.size
   have HPL:=LH (plays_any hL.sy hL.all (by omega) hL.m hL.m7 (by omega) (by omega) (by have:=hL.B;omega) hnd2 x (HV.out x (List.mem_of_getElem? hx)))
   have HL:=LH hL
   subst hA
   unfold actV SyP pw at HPL
   clear hL hWb hx
   go_wp2_with fail
   refine HPL.out.mono ?_
   rintro e w4 ⟨rfl,own4,P4,F4,H4,T4,now4,B4,hC4,hZ4,rfl,hB4,T1,hM4,rfl⟩
   obtain⟨hA4,hD4,hS4,hnx⟩:=HL.out.act (by omega) hC4 hZ4 hB4 hM4
   have hown:own4 b8=none∧own4 b9=none:=⟨by rw[hZ4.ext b8 HL.out.sl.m8.lt];exact HL.out.o8.1,by rw[hZ4.ext b9 HL.out.sl.m9.lt];exact HL.out.o9.1⟩
   have HA4:=LH hA4
   have HNX:=LH hown
   have HNX2:=LH hnx
   have HD4:=LH hD4
   have HC4:=LH hC4
   have HS4:=LH hS4
   have hc0:∀ w',Fr (S89 b8 b9) w4 w'→w'.cell? ⟨gS,0,none⟩=some (.pointer (some ⟨P4.g,0,none⟩))∧gS<w'.heap.size:=fun w' hf=>by
    obtain⟨_,_,_,_,_,c0,_,_,_,_,gl⟩:=hC4.cells
    have e:¬S89 b8 b9 gS:=by have:=HG8.out;rintro (e|e) <;> omega
    exact⟨(hf.cell (p:=⟨gS,0,none⟩) gl e).trans c0,Nat.lt_of_lt_of_le gl hf.size⟩
   have HC0:=LH hc0
   have hw1:IntKind.i64.wrap ((i:Int)+1)=(i:Int)+1:=IntWalk.i64_in _ ⟨by omega,by omega⟩
   clear hown k0 k1 k2 k3 hgw hg0 HPL hA4 hnx hD4 hC4 hS4 hc0 hZ4 hB4 hM4
   go_wp2_with fail
   go_loopw [11] (KRel H4 (D3 H) w4 b8 b9) (fun v _=>(intOf v+1).toNat)
   case atStart=>exact⟨2,0,f,g,rfl,by omega,by omega,HS4.out,fun h=>by omega⟩
   case round=>
    obtain⟨kv,q,f5,g5,rfl,hkv,hq3,hS5,hAD5⟩:=hrel
    by_cases hq:q<3
    ·obtain⟨kk,rfl⟩:∃ kk:Nat,kv=kk:=⟨2-q,by omega⟩
     obtain rfl:q=2-kk:=by omega
     have hkk:kk≤2:=by omega
     clear hkv hq3 hq
     have hk0:(0:Int)≤kk:=by omega
     have hkd:decide ((kk:Int)≥0)=true:=decide_eq_true (by omega)
     have hkw:IntKind.i64.wrap ((kk:Int)-1)=(kk:Int)-1:=IntWalk.i64_in _ ⟨by omega,by omega⟩
     have hI5:=HC4.out.hi.fr0 hS5.fr (fun b hb e=>by
      have:own4 b=none:=by rcases e with rfl|rfl;exact HNX.out.1;exact HNX.out.2
      exact hb this)
     have HL5:=LH (logs_any hI5 HA4.out.wf HA4.out.c (s:=kk) (by omega))
     obtain⟨c0,gl⟩:=HC0.out wr hS5.fr
     have HS5:=LH hS5
     have HAD5:=LH hAD5
     unfold LogsP LogsQ pw at HL5
     clear hI5 hS5 hAD5
     go_wp2_with fail
     refine HL5.out.mono ?_
     rintro e w6 ⟨V6,Ls,rfl,hlen,hso⟩
     obtain⟨A6,c6,rfl,_,_⟩:=q01 hso.1
     have hS6:=(HS5.out.below hso.2.2).re (Fr.refl (S89 b8 b9) w6)
     have HS6:=LH hS6
     have HB6:=LH hso.2.2
     have HROW6:=LH hso.1
     have HOK6:=LH hso.2.1
     have HLEN:=LH hlen
     have hl4:Ls.length≤4:=by have:=q1r (H4.sh kk) H4.n;have:=HA4.out.wf.n4;omega
     have hq1:1≤2-kk→kk<2:=fun h=>by omega
     have HLT6:=LH (show b8<wr.heap.size∧b9<wr.heap.size from⟨HS5.out.m8.lt,HS5.out.m9.lt⟩)
     clear hS6 hso hlen HL5 c0 gl
     go_wp2_with fail
     go_loopw [14] (JRel H4 (D3 H) w6 b8 b9 kk Ls.length) (fun v _=>Ls.length-(intOf v).toNat)
     case atStart=>exact⟨0,f5,g5,rfl,Nat.zero_le _,HS6.out,fun _ q hq=>by omega,fun h=>HAD5.out (by omega)⟩
     case round=>
      rename World=>w7
      obtain⟨j,f7,g7,rfl,hj,hS7,hPT7⟩:=hrel
      by_cases hjl:(j:Int)<Ls.length
      ·have hjn:j<Ls.length:=by omega
       obtain⟨x,hx⟩:∃ x,Ls[j]? = some x:=⟨_,List.getElem?_eq_getElem hjn⟩
       obtain⟨jn,hjl2,hok⟩:=HOK6.out j x hx
       have hmaps:∀ b,S89 b8 b9 b→∃ n m,MapG q05 w6 b n m:=fun b e=>by
        rcases e with rfl|rfl
        ·exact⟨_,_,HS6.out.m8⟩
        ·exact⟨_,_,HS6.out.m9⟩
       have hok7:=hok.maps hS7.fr hmaps
       have hrow7:=hS7.fr.own HROW6.out (fun b hb e=>by have:=(HROW6.out.lt b hb).1;have:=HLT6.out;rcases e with e|e <;> omega)
       obtain⟨r6,o6,u6',hA6,hr6,hu6,hcu⟩:=(Rd.of_own hrow7).at1 (k:=j) hjn
       rw[List.getElem?_map,hx] at hu6
       simp only[Option.map_some,Option.some.injEq] at hu6
       subst hu6
       obtain⟨Ax,cx,hxs,_,_⟩:=q01 hok7.row
       obtain⟨x1,x2⟩:=x
       have hxs:x1=.slice Ax x2.length cx:=hxs
       subst hxs
       have hcu:w7.cell? ⟨r6,o6+j,none⟩=some (.slice Ax x2.length cx):=hcu
       obtain⟨_,hrd7⟩:=hok7.reads
       have hlgj:lg H4 kk jn=csOf x2:=hok7.log.symm
       have hlv:Lv H4 kk jn:=q1i.1 (List.mem_of_getElem? hjl2)
       have HRD7:=LH hrd7
       have HOK7:=LH hok7
       have HX:=LH hx
       have HJL:=LH hjl2
       have HLG:=LH hlgj
       have HLV:=LH hlv
       have HS7:=LH hS7
       have HPT7:=LH hPT7
       have hx5:x2.length≤500:=hok7.few
       have HROW7:=LH hrow7
       clear hok hok7 hrow7 hrd7 hx hjl2 hlgj hlv hS7 hPT7 hmaps
       subst hA6
       go_upto_if 92 with (fail)
       go_cut [92] (fun s92 wx=>s92=.bool false∧Below w7.heap.size w7 wx)
       case first=>
        by_cases h0:j=0
        ·have hd0:∀ (inst:Decidable (0<j)),@decide (0<j) inst=false:=fun _=>decide_eq_false (by omega)
         have HX0:=LH (show Below w7.heap.size w7 w7.drew from(Below.refl _ _).drew)
         clear hcu h0
         go_upto_region 23 with (fail)
         refine wp_region_any (by kernel_rfl) ?_
         change wpAny _ _ _ _ _ _ _ (World.drew _)
         refine q0e (fun _=>True) 15 (fun _ _ _ _ _ h=>h) (fun HQP=>?_)
         have HCC:True:=trivial
         refine nA 0 [1,2,3,4,5,6,7,8,9,10,11,12,13,14] rfl rfl HQP HCC (fun w' hw'=>by go_simp;rfl) ?_
         refine nA 1 [2,3,4,5,6,7,8,9,10,11,12,13,14] rfl rfl HQP HCC (fun w' hw'=>by go_simp;rfl) ?_
         refine nA 2 [3,4,5,6,7,8,9,10,11,12,13,14] rfl rfl HQP HCC (fun w' hw'=>by go_simp;rfl) ?_
         refine nS 3 rfl rfl HQP HCC ?_
         refine nS 4 rfl rfl HQP HCC ?_
         refine nS 5 rfl rfl HQP HCC ?_
         refine nS 6 rfl rfl HQP HCC ?_
         refine nS 7 rfl rfl HQP HCC ?_
         refine nS 8 rfl rfl HQP HCC ?_
         refine nS 9 rfl rfl HQP HCC ?_
         refine nS 10 rfl rfl HQP HCC ?_
         refine nS 11 rfl rfl HQP HCC ?_
         refine nS 12 rfl rfl HQP HCC ?_
         refine nS 13 rfl rfl HQP HCC ?_
         refine nO 14 rfl (fun KK hK=>?_)
         go_simp
         refine hK _ _ (fun _=>trivial) ?_
         clear hK KK
         refine ndone (by kernel_rfl) ?_ _
         clear HQP
         go_wp2_with fail
         go_meet
         exact⟨rfl,HX0.out⟩
        ·have hd0:∀ (inst:Decidable (0<j)),@decide (0<j) inst=true:=fun _=>decide_eq_true (by omega)
         obtain⟨y,hy⟩:∃ y,Ls[j-1]? = some y:=⟨_,List.getElem?_eq_getElem (by omega)⟩
         obtain⟨jp,hjp,hoky⟩:=HOK6.out (j-1) y hy
         have hokz:=hoky.maps HS7.out.fr (fun b e=>by
          rcases e with rfl|rfl
          ·exact⟨_,_,HS6.out.m8⟩
          ·exact⟨_,_,HS6.out.m9⟩)
         obtain⟨r9,o9,u9,hA9,hr9,hu9,hcy⟩:=(Rd.of_own HROW7.out).at1 (k:=j-1) (by omega)
         rw[List.getElem?_map,hy] at hu9
         simp only[Option.map_some,Option.some.injEq] at hu9
         subst hu9
         injection hA9 with hA9
         injection hA9 with hA91 hA92
         subst hA91 hA92
         obtain⟨Ay,cy,hys,_,_⟩:=q01 hokz.row
         obtain⟨y1,y2⟩:=y
         have hys:y1=.slice Ay y2.length cy:=hys
         subst hys
         have hcy:w7.cell? ⟨r6,o6+(j-1),none⟩=some (.slice Ay y2.length cy):=hcy
         obtain⟨_,hrdy⟩:=hokz.reads
         have hlt2:jp<jn:=(q2k (q5b (H4.sh kk) H4.n) hjp HJL.out).1 (by omega)
         have hlvp:Lv H4 kk jp:=q1i.1 (List.mem_of_getElem? hjp)
         have hpre:=HA4.out.ch.pre kk (by rw[HA4.out.c];omega) jp jn (by omega) hlvp HLV.out
         have hcsy:csOf y2=lg H4 kk jp:=hokz.log
         have hwfp:∀ c∈lg H4 kk jp,WfC c:=(HA4.out.wf.nd kk jp (by rw[HA4.out.c];omega) hlvp.1).log
         have hbg:=begins_yes y2 x2 (by rw[hcsy,← HLG.out];have:=List.prefix_iff_eq_take.1 hpre;rw[← q2w x2,← HLG.out];exact this) w7.heap.size w7.heap.size y2.length x2.length cy cx Ay Ax w7.drew (hrdy.below (Below.refl _ _).drew) (HRD7.out.below (Below.refl _ _).drew)
          (by have:=hpre.length_le;rw[HLG.out,← hcsy,q2w,q2w] at this;exact this) (Nat.le_refl _) (Nat.le_refl _) (by have:y2.length≤500:=hoky.few;omega)
          (fun c hc=>by
           have h1:=hwfp c.c (by rw[← hcsy];unfold csOf;exact List.mem_map_of_mem hc)
           have h2:=h1.few
           have h3:=(hokz.own c hc).2.1
           omega)
         have HBG:=LH hbg
         have hj1:((j-1:Nat):Int)=(j:Int)-1:=by omega
         have hwj:IntKind.i64.wrap ((j:Int)-1)=((j-1:Nat):Int):=by rw[IntWalk.i64_in _ ⟨by omega,by omega⟩];omega
         have hjj:j-1<Ls.length:=by omega
         have hji:((j-1:Nat):Int)<Ls.length:=by omega
         clear hbg hwfp hcsy hpre hlvp hlt2 hrdy hokz hoky hjp hy hj1 h0
         generalize hjq:j-1=j1 at *
         have HJQ:=LH hjq
         clear hjq
         go_upto_region 23 with (fail)
         refine wp_region_any (by kernel_rfl) ?_
         change wpAny _ _ _ _ _ _ _ (World.drew _)
         refine q0e (fun W9=>W9.cell? ⟨r6,o6+j1,none⟩=some (.slice Ay y2.length cy)∧W9.cell? ⟨r6,o6+j,none⟩=some (.slice Ax x2.length cx)) 12 (fun _ _ _ _ _ h=>h) (fun HQP=>?_)
         have HCC:w7.drew.cell? ⟨r6,o6+j1,none⟩=some (.slice Ay y2.length cy)∧w7.drew.cell? ⟨r6,o6+j,none⟩=some (.slice Ax x2.length cx):=⟨hcy,hcu⟩
         refine nA 0 [1,2,3,4,5,6,7,8,9,10,11,12,13,14] rfl rfl HQP HCC (fun w' hw'=>by go_simp;rfl) ?_
         refine nA 1 [2,3,4,5,6,7,8,9,10,11,12,13,14] rfl rfl HQP HCC (fun w' hw'=>by go_simp;rfl) ?_
         refine nA 2 [3,4,5,6,7,8,9,10,11,12,13,14] rfl rfl HQP HCC (fun w' hw'=>by go_simp;rfl) ?_
         refine nA 3 [6,7,12,13,14] rfl rfl HQP HCC (fun w' hw'=>by go_simp;rfl) ?_
         refine nA 4 [5,6,7,12,13,14] rfl rfl HQP HCC (fun w' hw'=>by go_simp;rfl) ?_
         refine nA 5 [6,7,12,13,14] rfl rfl HQP HCC (fun w' hw'=>by go_simp;rfl) ?_
         refine nA 6 [7,12,13,14] rfl rfl HQP HCC (fun w' hw'=>by go_simp;rfl) ?_
         refine nA 7 [12,13,14] rfl rfl HQP HCC (fun w' hw'=>by obtain⟨p0,p1⟩:=hw';go_simp;rfl) ?_
         refine nA 8 [10,11,12,13,14] rfl rfl HQP HCC (fun w' hw'=>by go_simp;rfl) ?_
         refine nA 9 [10,11,12,13,14] rfl rfl HQP HCC (fun w' hw'=>by go_simp;rfl) ?_
         refine nA 10 [11,12,13,14] rfl rfl HQP HCC (fun w' hw'=>by go_simp;rfl) ?_
         refine nA 11 [12,13,14] rfl rfl HQP HCC (fun w' hw'=>by obtain⟨p0,p1⟩:=hw';go_simp;rfl) ?_
         clear HCC
         refine nO 12 rfl (fun KK hK=>?_)
         go_simp
         refine HBG.out.mono ?_
         rintro e w9 ⟨rfl,hb9⟩
         have HX9:=LH (show Below w7.heap.size w7 w9 from(Below.refl w7.heap.size w7).drew.trans hb9)
         clear hb9
         go_simp
         refine hK _ _ (fun h=>absurd h (by decide)) ?_
         clear hK KK
         refine nO 13 rfl (fun KK hK=>?_)
         go_simp
         refine hK _ _ (fun h=>absurd h (by decide)) ?_
         clear hK KK
         refine nO 14 rfl (fun KK hK=>?_)
         go_simp
         refine hK _ _ (fun h=>absurd h (by decide)) ?_
         clear hK KK
         refine ndone (by kernel_rfl) ?_ _
         clear HQP
         go_wp2_with fail
         go_meet
         exact⟨rfl,HX9.out⟩
       case rest=>
        obtain⟨rfl,hb8⟩:=hcut
        rename World=>w8
        have hcu8:=(hb8.cell (p:=⟨r6,o6+j,none⟩) hr6).trans hcu
        have hr8:=Nat.lt_of_lt_of_le hr6 hb8.size
        have HB8:=LH hb8
        clear hcu hr6
        obtain⟨wB,hWB⟩:∃ wB:World,wB=w8.alloc (.map #[] 0):=⟨_,rfl⟩
        have hbB:Below w8.heap.size w8 wB:=by rw[hWB];exact(Below.refl _ _).alloc (Nat.le_refl _) _
        have hb7B:Below w7.heap.size w7 wB:=hb8.trans (hbB.mono hb8.size)
        have hSB:=(HS7.out.below hb7B).re (Fr.refl (fun b=>S89 b8 b9 b∨b=w8.heap.size) wB)
        have hm15:MapG q05 wB w8.heap.size 0 (fun _=>none):=by rw[hWB];exact MapG.made q05 w8
        have HPS:=LH (show PRel H4 (D3 H) wB b8 b9 w8.heap.size kk j (csOf x2) (.int .i64 0) wB from⟨0,f7,g7,fun _=>none,rfl,Nat.zero_le _,hSB,HPT7.out,hm15.mono (by omega),fun i v e=>(nomatch e),fun c hc=>by simp at hc,fun _ c hc=>by simp at hc⟩)
        have HSB:=LH hSB
        have HOKB:=LH (HOK7.out.tall hb7B)
        have HB7B:=LH hb7B
        have HM15:=LH hm15
        have hn8:b8≠w8.heap.size∧b9≠w8.heap.size:=by
         have h1:=HS7.out.m8.lt
         have h2:=HS7.out.m9.lt
         have h3:=hb8.size
         omega
        have HN8:=LH (show(b8≠w8.heap.size∧b9≠w8.heap.size)∧w6.heap.size≤w8.heap.size from⟨hn8,by have:=HS7.out.fr.size;have:=hb8.size;omega⟩)
        clear hbB hb7B hSB hm15 hb8 hn8
        go_wp2_with fail
        rw[← hWB]
        clear hWB hcu8 hr8
        generalize w8.heap.size=b15 at *
        go_loopw [99] (PRel H4 (D3 H) wB b8 b9 b15 kk j (csOf x2)) (fun v _=>x2.length-(intOf v).toNat)
        case atStart=>exact HPS.out
        case round=>
         rename World=>wP
         clear HPS
         obtain⟨p,f,g,hh,rfl,hp,hSP,hPT,hmP,hdv,hld2,hld3⟩:=hrel
         rw[q2w] at hp
         by_cases hpl:(p:Int)<x2.length
         ·have hpn:p<x2.length:=by omega
          have hokP:=HOKB.out.maps hSP.fr (fun b e=>by
           rcases e with (rfl|rfl)|rfl
           ·exact⟨_,_,HSB.out.m8⟩
           ·exact⟨_,_,HSB.out.m9⟩
           ·exact⟨_,_,HM15.out⟩)
          obtain⟨g3,o3,c,hA3,hg3,hc,q0,q1,q2,q3,_⟩:=hokP.reads.2.at_ (k:=p) hpn
          have hcl:(csOf x2)[p]? = some c.c:=by unfold csOf;rw[List.getElem?_map,hc];rfl
          have hcg:(lg H4 kk jn)[p]? = some c.c:=by rw[HLG.out];exact hcl
          have hwfc:WfC c.c:=(HA4.out.wf.nd kk jn (by rw[HA4.out.c];omega) HLV.out.1).log c.c (List.mem_of_getElem? hcg)
          have hok:okI c.c.tx:=q0j (by have:=hwfc.tx;omega) (by have:=hwfc.tx;omega)
          have h60:=HA4.out.wf.m60
          have HK1:=LH (fun(h2:kk<2)=>HA4.out.lgi.pl kk h2 jn HLV.out p c.c hcg)
          have HK2:=LH (fun(h2:kk=2)=>HA4.out.lgi.p2 jn (h2▸HLV.out) c.c (h2▸List.mem_of_getElem? hcg))
          have HSP:=LH hSP
          have HPT:=LH hPT
          have HMP:=LH hmP
          have HDV:=LH hdv
          have HLD2:=LH hld2
          have HLD3:=LH hld3
          have HCL:=LH hcl
          have HTX:=LH hwfc.tx
          have hba:Below wP.heap.size wP (wP.alloc (.cells #[.int .i64 c.c.kind,.int .i64 c.c.tx,.int .i64 c.c.time,.slice c.A c.n c.k] 69)):=(Below.refl _ _).alloc (Nat.le_refl _) _
          have hxa:Blk (wP.alloc (.cells #[.int .i64 c.c.kind,.int .i64 c.c.tx,.int .i64 c.c.time,.slice c.A c.n c.k] 69)) wP.heap.size 69 #[.int .i64 c.c.kind,.int .i64 c.c.tx,.int .i64 c.c.time,.slice c.A c.n c.k]:=Blk.new _ _ _
          have HBA:=LH (And.intro hba hxa)
          clear hokP hc hcl hcg hwfc hSP hPT hmP hdv hld2 hld3 hba hxa
          subst hA3
          go_upto_region 29 with (fail)
          clear q0 q1 q2 q3 hg3
          generalize World.alloc _ _=wA at *
          obtain⟨hba,hxa⟩:=HBA.out
          have a0:=hxa.cell 0
          have a1:=hxa.cell 1
          have a2:=hxa.cell 2
          have al:=hxa.lt
          simp only[List.getElem?_toArray,List.getElem?_cons_zero,List.getElem?_cons_succ] at a0 a1 a2
          have HBE:=LH hba
          clear HBA hba hxa
          have hk2:kk<2∨kk=2:=by omega
          have ht1:=HTX.out
          have hwp:IntKind.i64.wrap ((p:Int)+1)=(p:Int)+1:=IntWalk.i64_in _ ⟨by omega,by omega⟩
          have hrng:1≤c.c.tx∧c.c.tx≤H4.m:=by
           rcases hk2 with h2|h2
           ·exact(HK1.out h2).1
           ·exact(HK2.out h2).1
          have HRNG:=LH hrng
          clear hrng
          by_cases h2:kk<2
          ·have hb1:((kk:Int) == 2)=false:=by simp;omega
           have hb2:(kk == 2)=false:=by simp;omega
           have H2:=LH h2
           clear hk2 h2
           obtain⟨_,hkd|⟨hkd,hst3,hte,htm,hasp⟩|⟨hkd,hst4⟩⟩:=HK1.out H2.out
           ·rw[hkd] at a0
            have HKD:=LH hkd
            clear hkd
            go_wp2_with (at_mapUpdate;refine stop ?_)
            refine back ?_
            refine q0k (C:=q05) rfl 60 4 Tryz.underlying60 (.tmp 107) (.tmp 109) _ rfl rfl (HMP.out.below HBE.out HMP.out.lt) (by unfold maxLen;omega) c.c.tx (.bool true) rfl rfl hok ?_
            intro w9 hm9 hf9
            have HX:=LH (show PRel H4 (D3 H) wB b8 b9 b15 kk j (csOf x2) (.int .i64 ((p+1:Nat):Int)) w9 from⟨p+1,f,g,putM hh c.c.tx (some (.bool true)),rfl,by rw[q2w];omega,HSP.out.put15 HBE.out hf9 (.inr rfl) HN8.out.1.1 HN8.out.1.2,HPT.out,map61 hm9 (HDV.out.put ht1).key,HDV.out.put ht1,LogD.next (LogD.put HLD2.out) HCL.out (fun _=>q31 (.inr rfl)),fun e=>by have:=H2.out;omega⟩)
            clear hm9 hf9 a0 a1 a2
            go_wp2_with fail
            go_roundw
            case rel=>exact HX.out
            case measure=>first|(simp[intOf];done)|(simp[intOf];omega)
           ·rw[hkd] at a0
            have HKD:=LH hkd
            have hne15:hh c.c.tx≠none:=by
             obtain⟨d,hd,hdk,hdt⟩:=hasp
             rw[HLG.out] at hd
             have:=HLD2.out d hd hdk
             rw[hdt] at this
             exact this
            have hne8:f c.c.tx≠none:=by
             have:=HPT.out.2 H2.out c.c.tx.toNat (by have:=HRNG.out;omega) (by have:=HRNG.out;omega) hst3
             rw[show((c.c.tx.toNat:Nat):Int)=c.c.tx by have:=HRNG.out;omega] at this
             exact this
            have l15:=bool_look (HMP.out.below HBE.out HMP.out.lt) hok (fun h=>by
             cases e:hh c.c.tx with
             | none=>exact absurd e h
             | some v=>rw[(HDV.out _ v e).1])
            have l8:=bool_look (HSP.out.m8.below HBE.out HSP.out.m8.lt) hok (fun h=>by
             cases e:f c.c.tx with
             | none=>exact absurd e h
             | some v=>rw[(HSP.out.dv _ v e).1])
            rw[Option.isSome_iff_ne_none.2 hne15] at l15
            rw[Option.isSome_iff_ne_none.2 hne8] at l8
            obtain⟨v,hv1,hv2,hv9⟩:=HSP.out.ov.val c.c.tx
            have l9:=int_look (HSP.out.m9.below HBE.out HSP.out.m9.lt) hok hv1
            have hv4:(v == 4)=false:=by have:=hv2 hst3;simpa using this
            have htd:decide (c.c.time<1)=false:=decide_eq_false (by omega)
            have HST3:=LH hst3
            clear hkd hne15 hne8 hv1 hv2 hv9 hst3 hasp htm hte
            go_wp2_with (at_mapUpdate;refine stop ?_)
            refine back ?_
            refine q0k (C:=q05) rfl 61 3 Tryz.underlying61 (.tmp 143) (.tmp 145) _ rfl rfl (HSP.out.m9.below HBE.out HSP.out.m9.lt) (by unfold maxLen;omega) c.c.tx (.int .i64 3) rfl rfl hok ?_
            intro w9 hm9 hf9
            clear l15 l8 l9
            have HX:=LH (show PRel H4 (D3 H) wB b8 b9 b15 kk j (csOf x2) (.int .i64 ((p+1:Nat):Int)) w9 from⟨p+1,f,putM g c.c.tx (some (.int .i64 3)),hh,rfl,by rw[q2w];omega,HSP.out.put9 HBE.out HA4.out.wf.m60 HRNG.out (.inl ⟨rfl,HST3.out⟩) hm9 hf9 (.inl (.inr rfl)),HPT.out,(HMP.out.below HBE.out HMP.out.lt).fr hf9 (fun e=>HN8.out.1.2 e.symm),HDV.out,LogD.next HLD2.out HCL.out (fun e=>by have:=HKD.out;omega),fun e=>by have:=H2.out;omega⟩)
            clear hm9 hf9 a0 a1 a2
            go_wp2_with fail
            go_roundw
            case rel=>exact HX.out
            case measure=>first|(simp[intOf];done)|(simp[intOf];omega)
           ·rw[hkd] at a0
            have HKD:=LH hkd
            obtain⟨v,hv1,hv9,hv2⟩:=HSP.out.ov.val c.c.tx
            have l9:=int_look (HSP.out.m9.below HBE.out HSP.out.m9.lt) hok hv1
            have hv3:(v == 3)=false:=by have:=hv2 hst4;simpa using this
            have HST4:=LH hst4
            clear hkd hv1 hv2 hv9 hst4
            go_wp2_with (at_mapUpdate;refine stop ?_)
            refine back ?_
            refine q0k (C:=q05) rfl 61 3 Tryz.underlying61 (.tmp 157) (.tmp 159) _ rfl rfl (HSP.out.m9.below HBE.out HSP.out.m9.lt) (by unfold maxLen;omega) c.c.tx (.int .i64 4) rfl rfl hok ?_
            intro w9 hm9 hf9
            clear l9
            have HX:=LH (show PRel H4 (D3 H) wB b8 b9 b15 kk j (csOf x2) (.int .i64 ((p+1:Nat):Int)) w9 from⟨p+1,f,putM g c.c.tx (some (.int .i64 4)),hh,rfl,by rw[q2w];omega,HSP.out.put9 HBE.out HA4.out.wf.m60 HRNG.out (.inr ⟨rfl,HST4.out⟩) hm9 hf9 (.inl (.inr rfl)),HPT.out,(HMP.out.below HBE.out HMP.out.lt).fr hf9 (fun e=>HN8.out.1.2 e.symm),HDV.out,LogD.next HLD2.out HCL.out (fun e=>by have:=HKD.out;omega),fun e=>by have:=H2.out;omega⟩)
            clear hm9 hf9 a0 a1 a2
            go_wp2_with fail
            go_roundw
            case rel=>exact HX.out
            case measure=>first|(simp[intOf];done)|(simp[intOf];omega)
          ·have hb1:((kk:Int) == 2)=true:=by simp;omega
           have hb2:(kk == 2)=true:=by simp;omega
           have H2:=LH (show kk=2 by omega)
           obtain⟨_,hkd,_⟩:=HK2.out H2.out
           rw[hkd] at a0
           have HKD:=LH hkd
           clear hkd h2 hk2
           go_wp2_with (at_mapUpdate;refine stop ?_)
           refine back ?_
           refine q0k (C:=q05) rfl 60 4 Tryz.underlying60 (.tmp 116) (.tmp 118) _ rfl rfl (HSP.out.m8.below HBE.out HSP.out.m8.lt) (by unfold maxLen;omega) c.c.tx (.bool true) rfl rfl hok ?_
           intro w9 hm9 hf9
           have HX:=LH (show PRel H4 (D3 H) wB b8 b9 b15 kk j (csOf x2) (.int .i64 ((p+1:Nat):Int)) w9 from⟨p+1,putM f c.c.tx (some (.bool true)),g,hh,rfl,by rw[q2w];omega,HSP.out.put8 HBE.out ht1 hm9 hf9 (.inl (.inl rfl)),HPT.out.put,(HMP.out.below HBE.out HMP.out.lt).fr hf9 (fun e=>HN8.out.1.1 e.symm),HDV.out,LogD.next HLD2.out HCL.out (fun e=>by have:=HKD.out;omega),fun e=>LogD.next (LogD.put (HLD3.out e)) HCL.out (fun _=>q31 (.inr rfl))⟩)
           clear hm9 hf9 a0 a1 a2
           go_wp2_with fail
           go_roundw
           case rel=>exact HX.out
           case measure=>first|(simp[intOf];done)|(simp[intOf];omega)
         ·obtain rfl:p=x2.length:=by omega
          have hfr7:Fr (S89 b8 b9) w6 wP:=(HS7.out.fr.trans' (q06 HB7B.out) (fun b hb e=>by have:=HS7.out.fr.size;omega)).trans' hSP.fr (fun b hb e=>e.elim id (fun e=>by have:=HN8.out.2;omega))
          have HX:=LH (show JRel H4 (D3 H) w6 b8 b9 kk Ls.length (.int .i64 ((j+1:Nat):Int)) wP from⟨j+1,f,g,rfl,by omega,hSP.re hfr7,hPT.next HJL.out (fun e=>by
           have:=hld3 e
           rw[List.take_of_length_le (by rw[q2w];omega)] at this
           rw[HLG.out];exact this)⟩)
          have hwj:IntKind.i64.wrap ((j:Int)+1)=(j:Int)+1:=IntWalk.i64_in _ ⟨by omega,by omega⟩
          clear hSP hPT hmP hdv hld2 hld3 hfr7
          go_wp2_with fail
          go_roundw
          case rel=>exact HX.out
          case measure=>first|(simp[intOf];done)|(simp[intOf];omega)
      ·obtain rfl:j=Ls.length:=by omega
       have hAll:AllD H4 f7:=by
        by_cases h2:kk<2
        ·exact hPT7.2 h2
        ·obtain rfl:kk=2:=by omega
         exact AllD.of HD4.out hS7.base (by rw[← HLEN.out];exact hPT7)
       have hfr4:Fr (S89 b8 b9) w4 w7:=(HS5.out.fr.trans' (q06 HB6.out) (fun b hb e=>by have:=HS5.out.fr.size;omega)).trans' hS7.fr (fun b hb e=>e)
       have HX:=LH (show KRel H4 (D3 H) w4 b8 b9 (.int .i64 ((kk:Int)-1)) w7 from⟨(kk:Int)-1,2-kk+1,f7,g7,rfl,by omega,by omega,hS7.re hfr4,fun _=>hAll⟩)
       clear hS7 hPT7 hAll hfr4
       go_wp2_with fail
       go_roundw
       case rel=>exact HX.out
       case measure=>first|(simp[intOf];done)|(simp[intOf];omega)
    ·obtain rfl:q=3:=by omega
     obtain rfl:kv = -1:=by omega
     have HX:=LH (show LoRel W r o k b8 b9 gS n nd (.int .i64 ((i+1:Nat):Int)) wr from⟨i+1,own4,P4,F4,H4,_,B4,f5,g5,rfl,by omega,HNX2.out f5 g5 wr hS5 (hAD5 (by omega))⟩)
     clear hS5 hAD5
     go_wp2_with fail
     go_roundw
     case rel=>exact HX.out
     case measure=>first|(simp[intOf];done)|(simp[intOf];omega)
  ·have hWb:Below W.heap.size W wr:=hL.sl.fr.below (fun b hb=>hb) (Nat.le_refl _)
   have HF:=LH (show TrueP W (.returned (.bool true)) wr from⟨rfl,hWb⟩)
   clear hL hWb
   go_wp2_with fail
   go_ret
   exact HF.out
end Go.Proofs.YtccahlhdifadfaaGreatDoor
