/- Part 14 of the texts that the claim rests on (of 19): HfT, HfU, HfX, HfY, Pe2, Pf2, Ph1, Ph2, Ph3. -/
import Derived.Test.YtccahlhdifadfaaGreatDoorPk12
import Derived.BigQuiet
import Derived.Deep.QuietTactic
namespace Go.Proofs.YtccahlhdifadfaaGreatDoor
open Go.RowKit
set_option maxRecDepth 100000
set_option maxHeartbeats 16000000
theorem ptx_info:(Tryz.prog.info? 74).map (fun i=>(i.zero,i.size,i.bytes))=some (some (.pointer none),1,8):=by kernel_rfl
def BegP (P:Ptr) (own:Own) (H:Hs) (w:World) (e:Ending) (w':World):Prop:=e=.returned (.tuple #[.int .i64 ((H.m+1:Nat):Int),.nilIface])∧∃ b own',HI w' own' { P with gt:=upd P.gt (H.m+1) b } H.begin∧HZ bgTag w own w' own'
section
variable {w w':World} {own own':Own} {P:Ptr} {H:Hs}
def bgW (w:World) (m:Nat):World:=(((w.alloc (.map #[] 0)).alloc (.map #[] 0)).alloc (.map #[] 0)).alloc (.cells #[.int .i64 ((m:Int)+1),.int .i64 1,.slice none 0 0,.map (some w.heap.size),.map (some (w.heap.size+1)),.int .i64 0,.int .i64 (-1),.map (some (w.heap.size+2)),.slice none 0 0] 78)
def bgV (w:World):TxV:=⟨.slice none 0 0,w.heap.size,w.heap.size+1,.map (some (w.heap.size+2)),.int .i64 (-1),.slice none 0 0⟩
theorem bg_tx (w:World) (own:Own) (m:Nat) (_hm:m<60):TxI (bgW w m) (paint own w.heap.size (w.heap.size+4) (.tx (m+1))) (m+1) (w.heap.size+3) (bgV w) txn0∧Below w.heap.size w (bgW w m)∧(bgW w m).heap.size=w.heap.size+4:=by
 have hsz:(bgW w m).heap.size=w.heap.size+4:=by unfold bgW;simp
 have hb:Below w.heap.size w (bgW w m):=((((Below.refl _ _).alloc (Nat.le_refl _) _).alloc (by simp) _).alloc (by simp;omega) _).alloc (by simp;omega) _
 have ht:∀ b,w.heap.size≤b→b<w.heap.size+4→paint own w.heap.size (w.heap.size+4) (.tx (m+1)) b=some (.tx (m+1)):=fun b h1 h2=>paint_new h1 h2
 refine⟨⟨?_,World.ownsRow_nil _ _ _ _,?_,?_,World.ownsRow_nil _ _ _ _,by show w.heap.size≠w.heap.size+1;omega,ht _ (by omega) (by omega),fun b hb=>(nomatch hb),.inl (ht w.heap.size (Nat.le_refl _) (by omega)),ht (w.heap.size+1) (by omega) (by omega),fun b hb=>(nomatch hb)⟩,hb,hsz⟩
 ·have:=Blk.new (((w.alloc (.map #[] 0)).alloc (.map #[] 0)).alloc (.map #[] 0)) 78 #[.int .i64 ((m:Int)+1),.int .i64 1,.slice none 0 0,.map (some w.heap.size),.map (some (w.heap.size+1)),.int .i64 0,.int .i64 (-1),.map (some (w.heap.size+2)),.slice none 0 0]
  rw[show(((w.alloc (.map #[] 0)).alloc (.map #[] 0)).alloc (.map #[] 0)).heap.size=w.heap.size+3 by simp] at this
  exact this
 ·exact((((MapG.made q05 w).alloc (.map #[] 0)).alloc (.map #[] 0)).alloc _).mono (Nat.zero_le 100)
 ·have:=((MapG.made q05 (w.alloc (.map #[] 0))).alloc (.map #[] 0)).alloc (.cells #[.int .i64 ((m:Int)+1),.int .i64 1,.slice none 0 0,.map (some w.heap.size),.map (some (w.heap.size+1)),.int .i64 0,.int .i64 (-1),.map (some (w.heap.size+2)),.slice none 0 0] 78)
  rw[show(w.alloc (.map #[] 0)).heap.size=w.heap.size+1 by simp] at this
  exact this.mono (Nat.zero_le 100)
theorem q8e (h:HI w own P H) (hm:H.m<60):Calls Tryz.prog 17 #[pw P.g] w (BegP P own H w):=by
 have hmm:=@run_makeMap Tryz.prog
 obtain⟨htx,hbw,hsz⟩:=bg_tx w own H.m hm
 have hI4:=h.grown hbw (paint_ext own w.heap.size (w.heap.size+4) (.tx (H.m+1))) (fun b hb=>by rw[hsz];exact paint_lt (by omega) hb)
 have HI4:=LH hI4
 have HTX:=LH htx
 have HZ4:=LH (show HZ bgTag w own (bgW w H.m) (paint own w.heap.size (w.heap.size+4) (.tx (H.m+1))) from⟨paint_ext _ _ _ _,(q4g own hbw).mono (fun _ _ ⟨t,a,b⟩=>⟨t,a,b.elim⟩),fun b i e=>by unfold paint at e;split at e;exact e;split at e <;> simp at e⟩)
 obtain⟨v0,hv0⟩:=h.hs
 obtain⟨_,_,c4,_,gl⟩:=hv0.cells
 obtain⟨A0,q0,hV0,_,_⟩:=q01 hv0.txr
 rw[hV0] at c4
 have hne:((H.m:Int) == 60)=false:=by simpa using (by omega:¬(H.m:Int)=60)
 have hg4:P.g<(bgW w H.m).heap.size:=by omega
 have hc4:(bgW w H.m).cell? ⟨P.g,4,none⟩=some (.slice A0 H.m q0):=(hbw.cell (p:=⟨P.g,4,none⟩) gl).trans c4
 have ht0:=HTX.out.cells.1
 have htl:=HTX.out.cells.2.2.2.2.2.2.2
 have hf4:(bgW w H.m).frozen? ⟨P.g,4,none⟩=false:=by
  obtain⟨v4,hv4⟩:=hI4.hs
  exact hv4.nt.blk.frozen 4
 have HHS:=LH (show ∃ v4,HsI (bgW w H.m) (paint own w.heap.size (w.heap.size+4) (.tx (H.m+1))) P H.c H.m H.net H.time v4∧v4.Vt=.slice A0 H.m q0 from by
  obtain⟨v4,hv4⟩:=hI4.hs
  refine⟨v4,hv4,?_⟩
  have e:=hv4.cells.2.2.1
  rw[hc4] at e
  injection e with e
  exact e.symm)
 unfold bgW at *
 clear h hv0 hV0 htx hI4 hbw
 unfold pw at *
 go_enter Tryz.func17,Tryz.ntmps17
 go_upto_region 4 with (fail)
 clear c4 hmm hne hsz ht0 htl
 generalize World.alloc (World.alloc (World.alloc (World.alloc w _) _) _) _=W4 at *
 obtain⟨v4,hv4,hV4⟩:=HHS.out
 have HV4:=LH hv4
 have hrow4:=hv4.txr
 rw[hV4] at hrow4
 have HROW4:=LH hrow4
 have HVT:=LH hV4
 have hgb:¬some P.g=v4.Vt.ownBlock:=fun e=>by have:=hv4.txrt P.g e.symm;rw[hv4.gt] at this;cases this
 have hgb2:¬some (w.heap.size+3)=v4.Vt.ownBlock:=fun e=>by have:=hv4.txrt _ e.symm;rw[HTX.out.gt] at this;cases this
 clear hv4 hV4 hrow4 HHS
 go_wp2_with (at_builtin;refine stop ?_)
 refine back ?_
 refine q0h W4 _ rfl (.tmp 27) (.tmp 29) 90 rfl 0 74 (.pointer none) 1 8 Tryz.underlying90 ptx_info rfl (by decide) _ _ _ #[.pointer (some ⟨w.heap.size+3,0,none⟩)] rfl HROW4.out 1 rfl _ rfl rfl (by simp[Value.oneCell']) (by unfold maxLen;omega) (by omega) (Nat.zero_le _) ?_
 intro V2 w6 hrow6 hm6
 have hm6':Moved W4 w6 v4.Vt.ownBlock V2.ownBlock:=by rw[HVT.out];exact hm6
 obtain⟨own7,hI7,hZ7⟩:=HI4.out.pushTx HTX.out HV4.out hm6' hrow6
 have hg6:=hm6'.1.blk HV4.out.nt.blk hgb
 have y1:=hg6.frozen 4
 have y0:=hg6.cell 4
 unfold q2e at y0
 simp only[List.getElem?_toArray,List.getElem?_cons_zero,List.getElem?_cons_succ] at y0
 rw[HVT.out] at y0
 have yl:=hg6.lt
 have ht6:=(hm6'.1.blk HTX.out.blk hgb2)
 have ht7:=(Fr.set1 P.g w6 4 V2).blk ht6 (by omega)
 have t0:=ht7.cell 0
 have tl:=ht7.lt
 unfold q28 at t0
 simp only[List.getElem?_toArray,List.getElem?_cons_zero] at t0
 have T0:=LH (show(w6.setCell ⟨P.g,4,none⟩ V2).cell? ⟨w.heap.size+1+1+1,0,none⟩=some (.int .i64 ((H.m:Int)+1)) from t0)
 have TL:=LH (show w.heap.size+1+1+1<(w6.setCell ⟨P.g,4,none⟩ V2).heap.size from tl)
 clear t0 tl ht7
 have HF:=LH (show BegP P own H w (.returned (.tuple #[.int .i64 ((H.m:Int)+1),.nilIface])) (w6.setCell ⟨P.g,4,none⟩ V2) from⟨rfl,w.heap.size+3,own7,hI7,HZ4.out.trans hZ7⟩)
 obtain⟨A7,c7,hV7,_,_⟩:=q01 hrow6
 subst hV7
 clear hm6 hm6' hg6 ht6 hI7 hZ7 hrow6
 go_upto_region 5 with (fail)
 generalize (w6.setCell _ _)=w7 at *
 generalize w.heap.size+1+1+1=tb at *
 have t1:=T0.out
 have t2:=TL.out
 go_wp2_with fail
 go_ret2
 exact HF.out
end
theorem plog_info:(Tryz.prog.info? 66).map (fun i=>(i.zero,i.size,i.bytes))=some (some (.slice none 0 0),1,24):=by kernel_rfl
structure LogOk (w:World) (x:Value×List CmR) (l:List Cm):Prop where
 row:w.ownsRow 0 69 4 x.1 x.2.length (x.2.flatMap q0m)
 log:csOf x.2=l
 own:∀ y∈x.2,OwnC w 0 y
 few:x.2.length≤500
def LgSo (H:Hs) (s:Nat) (l:List Nat) (w wr:World) (V:Value) (Ls:List (Value×List CmR)):Prop:=
 wr.ownsRow w.heap.size 66 1 V Ls.length (Ls.map (·.1))∧(∀ (i:Nat) (x:Value×List CmR),Ls[i]? = some x→∃ j:Nat,l[i]? = some j∧LogOk wr x ((H.sh s).nd j).log)∧Below w.heap.size w wr
def LogsQ (H:Hs) (s:Nat) (l:List Nat) (w:World) (e:Ending) (w':World):Prop:=
 ∃ V Ls,e=.returned (.tuple #[V,.nilIface])∧Ls.length=l.length∧LgSo H s l w w' V Ls
def LogsP (H:Hs) (s:Nat) (w:World) (e:Ending) (w':World):Prop:=LogsQ H s ((H.sh s).liveIx H.n) w e w'
def LgRel (H:Hs) (s:Nat) (l:List Nat) (w:World) (v6 v30:Value) (wr:World):Prop:=
 ∃ (q:Nat) (Ls:List (Value×List CmR)),v30=.int .i64 q∧q≤l.length∧Ls.length=q∧LgSo H s l w wr v6 Ls
section
variable {w w':World} {own own':Own} {P:Ptr} {H:Hs}
theorem LogOk.below {B:Nat} {x:Value×List CmR} {l:List Cm} (h:LogOk w x l) {V:Value} {n:Nat} {xs:List Value} (hV:w.ownsRow B 66 1 V n xs) (hf:Fr (fun b=>some b=V.ownBlock) w w'):LogOk w' x l:=
 ⟨hf.own h.row (fun b hb e=>q0i h.row hV (by decide) hb e.symm),h.log,fun y hy=>⟨hf.own (h.own y hy).1 (fun b hb e=>q0i (h.own y hy).1 hV (by decide) hb e.symm),(h.own y hy).2⟩,h.few⟩
theorem LogOk.tall {x:Value×List CmR} {l:List Cm} (h:LogOk w x l) (hb:Below w.heap.size w w'):LogOk w' x l:=by
 have hf:=q06 hb
 exact⟨hf.own h.row (fun b hb hs=>by have:=(h.row.lt b hb).2;omega),h.log,fun y hy=>⟨hf.own (h.own y hy).1 (fun b hb hs=>by have:=((h.own y hy).1.lt b hb).2;omega),(h.own y hy).2⟩,h.few⟩
theorem logs_any (h:HI w own P H) (wf:Wf H) (hc:H.c=3) {s:Nat} (hs3:s<3):Calls Tryz.prog 22 #[pw P.g,.int .i64 s] w (LogsP H s w):=by
 have HH:=LH h
 have HWF:=LH wf
 have hn4:=wf.n4
 obtain⟨vh,hvh⟩:=h.hs
 obtain⟨_,c3,_,_,gl⟩:=hvh.cells
 obtain⟨r3,k3,hVr,hr3,hcs⟩:=hvh.shAt (s:=s) (by omega)
 rw[hVr,hc] at c3
 have hsi:(s:Int)<3:=by omega
 have HL:=LH (q43 h wf (s:=s) (by omega))
 have hll:=q1r (H.sh s) H.n
 have HM:=LH (fun j (hj:j∈(H.sh s).liveIx H.n)=>q36 hj)
 unfold LiveP at HL
 rw[show LogsP H s w=LogsQ H s ((H.sh s).liveIx H.n) w from rfl]
 clear h wf hvh hVr
 generalize (H.sh s).liveIx H.n=l at *
 unfold pw at *
 go_enter Tryz.func22,Tryz.ntmps22
 go_wp2_with fail
 refine HL.out.mono ?_
 rintro e w1 ⟨V,rfl,hrow,hb1⟩
 obtain⟨A,c,rfl,_,_⟩:=q01 hrow
 have HROW:=LH hrow
 have HB1:=LH hb1
 have HH1:=LH (HH.out.below hb1)
 clear hrow hb1 HL HH c3 hcs gl hr3
 go_wp2_with fail
 go_loopw [6,30] (LgRel H s l w1) (fun _ v _=>l.length-(intOf v).toNat)
 case atStart=>exact⟨0,[],rfl,Nat.zero_le _,rfl,World.ownsRow_nil _ _ _ _,fun i x hx=>by simp at hx,Below.refl _ _⟩
 case round=>
  obtain⟨q,Ls,rfl,hq,hLs,hro,hok,hbw⟩:=hrel
  by_cases hlt:(q:Int)<l.length
  ·have hin:q<l.length:=by omega
   have hq4:q≤4:=by omega
   obtain⟨r,o,u,hA,hr,hu,hcu⟩:=((Rd.of_own HROW.out).below hbw).at1 (k:=q) hin
   have hx:l[q]? = some l[q]:=List.getElem?_eq_getElem hin
   rw[List.getElem?_map,hx] at hu
   simp only[Option.map_some,Option.some.injEq] at hu
   subst hu hA
   have hrw:r<wr.heap.size:=Nat.lt_of_lt_of_le hr hbw.size
   have hjn:=HM.out l[q] (List.getElem_mem hin)
   have HX:=LH hx
   clear hx
   generalize l[q]=j at *
   obtain⟨C,V,L,hN,_⟩:=(HH1.out.below hbw).nd s j (by omega) hjn
   have HLG:=LH (q7s hN)
   have HN:=LH hN
   obtain⟨A6,c6,rfl,_,_⟩:=q01 hro
   have HRO:=LH hro
   have HOK:=LH hok
   have HBW:=LH hbw
   clear hN hro hok hbw
   go_wp2_with fail
   refine HLG.out.mono ?_
   rintro e w5 ⟨A5,k5,rfl,hrow5,hb5,hfr5⟩
   have hro5:=(q06 hb5).own HRO.out (fun b hb hs=>by have:=(HRO.out.lt b hb).2;omega)
   have hlg5:LogOk w5 (.slice A5 L.length k5,L) ((H.sh s).nd j).log:=⟨hrow5,HN.out.log,fun y hy=>⟨(q06 hb5).own (HN.out.own y hy).1 (fun b hb hs=>by have:=((HN.out.own y hy).1.lt b hb).2;omega),(HN.out.own y hy).2⟩,HN.out.len⟩
   have hsz5:w1.heap.size≤w5.heap.size:=Nat.le_trans HBW.out.size hb5.size
   have HRO5:=LH hro5
   have HLG5:=LH hlg5
   have HB5:=LH hb5
   clear hro5 hlg5 hrow5 hb5 hfr5 HLG hcu hrw
   rw[hLs] at HRO5
   go_wp2_with (at_builtin;refine stop ?_)
   refine back ?_
   refine q0h w5 _ rfl (.tmp 34) (.tmp 37) 62 rfl w1.heap.size 66 (.slice none 0 0) 1 24 Tryz.underlying62 plog_info rfl (by decide) _ _ _ #[.slice A5 L.length k5] rfl HRO5.out 1 rfl _ rfl rfl (by simp[Value.oneCell']) (by unfold maxLen;omega) (by omega) hsz5 ?_
   intro V2 w8 hrow8 hm8
   have hb8:Below w1.heap.size w5 w8:=hm8.below (fun b hb=>(HRO5.out.lt b hb).1) hsz5
   have hR:LgRel H s l w1 V2 (.int .i64 ((q+1:Nat):Int)) w8:=by
    refine⟨q+1,Ls++[(.slice A5 L.length k5,L)],rfl,by omega,by simp[hLs],?_,fun i x hix=>?_,HBW.out.trans ((HB5.out.mono HBW.out.size).trans hb8)⟩
    ·rw[List.length_append,List.map_append,hLs]
     exact hrow8
    ·rcases Nat.lt_or_ge i q with h1|h1
     ·rw[List.getElem?_append_left (by omega)] at hix
      obtain⟨j',e1,e2⟩:=HOK.out i x hix
      exact⟨j',e1,(e2.tall HB5.out).below HRO5.out hm8.1⟩
     ·rw[List.getElem?_append_right (by omega)] at hix
      obtain rfl:i=q:=by
       have:=(List.getElem?_eq_some_iff.1 hix).1
       simp at this;omega
      rw[hLs,Nat.sub_self] at hix
      simp only[List.getElem?_cons_zero,Option.some.injEq] at hix
      subst hix
      exact⟨j,HX.out,HLG5.out.below HRO5.out hm8.1⟩
   have HR:=LH hR
   clear hR hb8 hm8 hrow8
   go_wp2_with fail
   go_roundw
   case rel=>exact HR.out
   case measure=>simp[intOf];omega
  ·obtain rfl:q=l.length:=by omega
   have HF:=LH (show LogsQ H s l w (.returned (.tuple #[u6,.nilIface])) wr from⟨u6,Ls,rfl,hLs,q17 hro HB1.out.size,hok,HB1.out.trans (hbw.mono HB1.out.size)⟩)
   clear hro hok hbw
   go_wp2_with fail
   go_ret2
   exact HF.out
end
theorem below_drewN2 {B:Nat} {w w':World} (h:Below B w w') (n:Nat):Below B w (w'.drewN n):=⟨h.os,h.tape,h.output,h.size,h.block⟩
def TrueP (w:World) (e:Ending) (w':World):Prop:=e=.returned (.bool true)∧Below w.heap.size w w'
def UpRel (n:Nat) (w:World) (v:Value) (wr:World):Prop:=∃ j:Nat,v=.int .i64 j∧j≤n∧Below w.heap.size w wr
theorem sameCmd (c:Cm) (B B' n k k':Nat) (A A':Option Addr) (w:World) (h:q1k w B A n c.writes) (h':q1k w B' A' n c.writes) (hB:B≤w.heap.size) (hB':B'≤w.heap.size) (hn:n≤10000) :
  Calls Tryz.prog 47 #[cmdV c A n k,cmdV c A' n k'] w (TrueP w):=by
 unfold cmdV
 have H:=LH h;clear h
 have H':=LH h';clear h'
 have hb2:Below w.heap.size w ((w.alloc (.cells #[.int .i64 c.kind,.int .i64 c.tx,.int .i64 c.time,.slice A n k] 69)).alloc (.cells #[.int .i64 c.kind,.int .i64 c.tx,.int .i64 c.time,.slice A' n k'] 69)):=((Below.refl _ _).alloc (Nat.le_refl _) _).alloc (by simp) _
 have hx:Blk ((w.alloc (.cells #[.int .i64 c.kind,.int .i64 c.tx,.int .i64 c.time,.slice A n k] 69)).alloc (.cells #[.int .i64 c.kind,.int .i64 c.tx,.int .i64 c.time,.slice A' n k'] 69)) w.heap.size 69 #[.int .i64 c.kind,.int .i64 c.tx,.int .i64 c.time,.slice A n k]:=(Blk.new w _ _).alloc _
 have hy:Blk ((w.alloc (.cells #[.int .i64 c.kind,.int .i64 c.tx,.int .i64 c.time,.slice A n k] 69)).alloc (.cells #[.int .i64 c.kind,.int .i64 c.tx,.int .i64 c.time,.slice A' n k'] 69)) (w.heap.size+1) 69 #[.int .i64 c.kind,.int .i64 c.tx,.int .i64 c.time,.slice A' n k']:=by
  have:=Blk.new (w.alloc (.cells #[.int .i64 c.kind,.int .i64 c.tx,.int .i64 c.time,.slice A n k] 69)) 69 #[.int .i64 c.kind,.int .i64 c.tx,.int .i64 c.time,.slice A' n k']
  simpa using this
 obtain⟨w0,hw0⟩:∃ w0:World,w0=((w.alloc (.cells #[.int .i64 c.kind,.int .i64 c.tx,.int .i64 c.time,.slice A n k] 69)).alloc (.cells #[.int .i64 c.kind,.int .i64 c.tx,.int .i64 c.time,.slice A' n k'] 69)):=⟨_,rfl⟩
 rw[← hw0] at hx hy hb2
 have HX:=LH hx;clear hx
 have HY:=LH hy;clear hy
 have HB2:=LH hb2;clear hb2
 go_enter Tryz.func47,Tryz.ntmps47
 go_wp2_with fail
 rw[← hw0]
 clear hw0
 go_loopw [37] (UpRel n w0) (fun v _=>n-(intOf v).toNat)
 case atStart=>exact⟨0,rfl,Nat.zero_le _,Below.refl _ _⟩
 case round=>
  obtain⟨j,rfl,hj,hbw⟩:=hrel
  have hbb:Below w.heap.size w wr:=HB2.out.trans (hbw.mono HB2.out.size)
  have hsz:=HB2.out.size
  have hgx:=HX.out.lt
  have hgy:=HY.out.lt
  have hwz:=hbw.size
  by_cases hlt:(j:Int)<n
  ·obtain⟨g,off,p,hA,hg,hp,k0,k1,k2⟩:=H.out.at_ (k:=j) (by omega)
   obtain⟨g',off',p',hA',hg',hp',q0,q1,q2⟩:=H'.out.at_ (k:=j) (by omega)
   rw[hp] at hp'
   obtain rfl:p=p':=Option.some.inj hp'
   have a0:=(hbb.cell (p:=⟨g,off+j*3,none⟩) (by show g<_;omega)).trans k0
   have a1:=(hbb.cell (p:=⟨g,off+j*3+1,none⟩) (by show g<_;omega)).trans k1
   have a2:=(hbb.cell (p:=⟨g,off+j*3+2,none⟩) (by show g<_;omega)).trans k2
   have b0:=(hbb.cell (p:=⟨g',off'+j*3,none⟩) (by show g'<_;omega)).trans q0
   have b1:=(hbb.cell (p:=⟨g',off'+j*3+1,none⟩) (by show g'<_;omega)).trans q1
   have b2:=(hbb.cell (p:=⟨g',off'+j*3+2,none⟩) (by show g'<_;omega)).trans q2
   have x3:=(HX.out.below hbw hgx).cell 3
   have y3:=(HY.out.below hbw hgy).cell 3
   have hgl:g<wr.heap.size:=by omega
   have hgl':g'<wr.heap.size:=by omega
   have hgx':w.heap.size<wr.heap.size:=by omega
   have hgy':w.heap.size+1<wr.heap.size:=by omega
   simp only[List.getElem?_toArray,List.getElem?_cons_succ,List.getElem?_cons_zero] at x3 y3
   rw[hA] at x3
   rw[hA'] at y3
   clear k0 k1 k2 q0 q1 q2 hp hp' hA hA'
   go_wp2_with fail
   go_quiet (fail)
   go_wp2_with fail
   go_roundw
   case rel=>exact⟨j+1,rfl,by omega,below_drewN2 hbw _⟩
   case measure=>simp[intOf];omega
  ·go_wp2_with fail
   go_ret
   exact⟨rfl,hbb⟩
theorem begins_yes (L L':List CmR) (hcs:csOf L'=(csOf L).take L'.length) (B B' n n' k k':Nat) (A A':Option Addr) (w:World) (h:q6n w B A n L) (h':q6n w B' A' n' L') (hnn':n'≤n) (hB:B≤w.heap.size) (hB':B'≤w.heap.size) (hn:n≤200000) (hs:∀ x∈L,x.n≤10000) :
  Calls Tryz.prog 23 #[.slice A n k,.slice A' n' k'] w (TrueP w):=by
 have hni:decide ((n':Int) > n)=false:=decide_eq_false (by omega)
 have hnb:decide (n<n')=false:=decide_eq_false (by omega)
 have H:=LH h;clear h
 have H':=LH h';clear h'
 have HS:=LH hs;clear hs
 have HCS:=LH hcs;clear hcs
 go_enter Tryz.func23,Tryz.ntmps23
 go_wp2_with fail
 clear hnb hni
 go_loopw [13] (UpRel n' w) (fun v _=>n'-(intOf v).toNat)
 case atStart=>exact⟨0,rfl,Nat.zero_le _,Below.refl _ _⟩
 case round=>
  obtain⟨j,rfl,hj,hbw⟩:=hrel
  have hwz:=hbw.size
  by_cases hlt:(j:Int)<n'
  ·have hltn:(j:Int)<n:=by omega
   obtain⟨g,off,x,hA,hg,hx,k0,k1,k2,k3,hp⟩:=(H.out.below (hbw.mono hB)).at_ (k:=j) (by omega)
   obtain⟨g',off',x',hA',hg',hx',q0,q1,q2,q3,hp'⟩:=(H'.out.below (hbw.mono hB')).at_ (k:=j) (by omega)
   have hxc:x'.c=x.c:=by
    have e1:(csOf L)[j]? = some x.c:=by unfold csOf;rw[List.getElem?_map,hx];rfl
    have e2:(csOf L')[j]? = some x'.c:=by unfold csOf;rw[List.getElem?_map,hx'];rfl
    rw[HCS.out,List.getElem?_take_of_lt (by have:=H'.out.1;omega),e1] at e2
    exact(Option.some.inj e2).symm
   have hxn:=HS.out x (List.mem_of_getElem? hx)
   have hnn:x'.n=x.n:=by rw[← hp.1,← hp'.1,hxc]
   rw[hxc] at q0 q1 q2 hp'
   rw[hnn] at q3 hp'
   have hgl:g<wr.heap.size:=by omega
   have hgl':g'<wr.heap.size:=by omega
   rw[hA,hA']
   have hcall:∀ w2,Below wr.heap.size wr w2→Calls Tryz.prog 47 #[cmdV x.c x.A x.n x.k,cmdV x.c x'.A x.n x'.k] w2 (TrueP w2):=fun w2 hb2=>
    sameCmd x.c B B' x.n x.k x'.k x.A x'.A w2 ⟨hp.1,hp.2.below (hb2.mono (by omega))⟩ ⟨hp'.1,hp'.2.below (hb2.mono (by omega))⟩ (by have:=hb2.size;omega) (by have:=hb2.size;omega) hxn
   unfold cmdV at hcall
   have HC:=LH hcall;clear hcall hp hp' hx hx' hA hA'
   go_wp2_with fail
   have hS0:Below wr.heap.size wr wr.drew:=(Below.refl _ _).drew
   have hcar:∀ w2,Below wr.heap.size wr w2→(w2.cell? ⟨g,off+j*4,none⟩=some (.int .i64 x.c.kind)∧w2.cell? ⟨g,off+j*4+1,none⟩=some (.int .i64 x.c.tx)∧w2.cell? ⟨g,off+j*4+2,none⟩=some (.int .i64 x.c.time)∧w2.cell? ⟨g,off+j*4+3,none⟩=some (.slice x.A x.n x.k))∧
     (w2.cell? ⟨g',off'+j*4,none⟩=some (.int .i64 x.c.kind)∧w2.cell? ⟨g',off'+j*4+1,none⟩=some (.int .i64 x.c.tx)∧w2.cell? ⟨g',off'+j*4+2,none⟩=some (.int .i64 x.c.time)∧w2.cell? ⟨g',off'+j*4+3,none⟩=some (.slice x'.A x.n x'.k)):=fun w2 hb2=>
    ⟨⟨(hb2.cell (p:=⟨g,off+j*4,none⟩) hgl).trans k0,(hb2.cell (p:=⟨g,off+j*4+1,none⟩) hgl).trans k1,(hb2.cell (p:=⟨g,off+j*4+2,none⟩) hgl).trans k2,(hb2.cell (p:=⟨g,off+j*4+3,none⟩) hgl).trans k3⟩,
     (hb2.cell (p:=⟨g',off'+j*4,none⟩) hgl').trans q0,(hb2.cell (p:=⟨g',off'+j*4+1,none⟩) hgl').trans q1,(hb2.cell (p:=⟨g',off'+j*4+2,none⟩) hgl').trans q2,(hb2.cell (p:=⟨g',off'+j*4+3,none⟩) hgl').trans q3⟩
   have HCAR:=LH hcar;clear hcar k0 k1 k2 k3 q0 q1 q2 q3
   refine wp_region_any (by kernel_rfl) ?_
   change wpAny _ _ _ _ _ _ _ (World.drew _)
   refine rheld (fun w'=>Below wr.heap.size wr w') ?_
   refine q53 0 rfl (by kernel_rfl) (by kernel_rfl) (by kernel_rfl) (fun _ _ _ h=>h) (by kernel_rfl) hS0 (fun w' hw'=>by go_simp;rfl) ?_
   refine q53 1 rfl (by kernel_rfl) (by kernel_rfl) (by kernel_rfl) (fun _ _ _ h=>h) (by kernel_rfl) hS0 (fun w' hw'=>by go_simp;rfl) ?_
   refine q53 2 rfl (by kernel_rfl) (by kernel_rfl) (by kernel_rfl) (fun _ _ _ h=>h) (by kernel_rfl) hS0 (fun w' hw'=>by go_simp;rfl) ?_
   refine q53 3 rfl (by kernel_rfl) (by kernel_rfl) (by kernel_rfl) (fun _ _ _ h=>h) (by kernel_rfl) hS0 (fun w' hw'=>by obtain⟨⟨c0,c1,c2,c3⟩,d0,d1,d2,d3⟩:=HCAR.out w' hw';go_simp;rfl) ?_
   refine q53 4 rfl (by kernel_rfl) (by kernel_rfl) (by kernel_rfl) (fun _ _ _ h=>h) (by kernel_rfl) hS0 (fun w' hw'=>by go_simp;rfl) ?_
   refine q53 5 rfl (by kernel_rfl) (by kernel_rfl) (by kernel_rfl) (fun _ _ _ h=>h) (by kernel_rfl) hS0 (fun w' hw'=>by go_simp;rfl) ?_
   refine q53 6 rfl (by kernel_rfl) (by kernel_rfl) (by kernel_rfl) (fun _ _ _ h=>h) (by kernel_rfl) hS0 (fun w' hw'=>by go_simp;rfl) ?_
   refine q53 7 rfl (by kernel_rfl) (by kernel_rfl) (by kernel_rfl) (fun _ _ _ h=>h) (by kernel_rfl) hS0 (fun w' hw'=>by obtain⟨⟨c0,c1,c2,c3⟩,d0,d1,d2,d3⟩:=HCAR.out w' hw';go_simp;rfl) ?_
   refine ronlyH 8 (by kernel_rfl) rfl (by kernel_rfl) (fun K hK=>?_)
   go_simp
   refine(HC.out wr.drew hS0).mono ?_
   rintro e w9 ⟨rfl,hb9⟩
   have hS9:Below wr.heap.size wr w9:=hS0.trans (hb9.mono hS0.size)
   go_simp
   refine hK _ _ hS9 ?_
   clear hK K
   refine q53 9 rfl (by kernel_rfl) (by kernel_rfl) (by kernel_rfl) (fun _ _ _ h=>h) (by kernel_rfl) hS9 (fun w' hw'=>by go_simp;rfl) ?_
   refine wpAnyH_done (by kernel_rfl) ?_ _
   go_wp2_with fail
   go_roundw
   case rel=>exact⟨j+1,rfl,by omega,hbw.trans (hS9.mono hwz)⟩
   case measure=>simp[intOf];omega
  ·go_wp2_with fail
   go_ret
   exact⟨rfl,hbw⟩
def rfill (w:World) (g o:Nat) (x:Pr):World:=((w.setCell ⟨g,o,none⟩ (.string x.key)).setCell ⟨g,o+1,none⟩ (.string x.val)).setCell ⟨g,o+2,none⟩ (.bool x.gone)
theorem rfill_fr (w:World) (g o:Nat) (x:Pr):Fr (fun i=>i=g) w (rfill w g o x):=
 (((Fr.refl (fun i=>i=g) w).setCell (p:=⟨g,o,none⟩) (.inl rfl) _).setCell (p:=⟨g,o+1,none⟩) (.inl rfl) _).setCell (p:=⟨g,o+2,none⟩) (.inl rfl) _
theorem rset:∀ (M:List Pr) (i:Nat) (x:Pr),i<M.length→((((M.flatMap q0g).set (i*3) (.string x.key)).set (i*3+1) (.string x.val)).set (i*3+2) (.bool x.gone))=(M.set i x).flatMap q0g
 | [],i,x,h=>by simp at h
 | y::M,0,x,_=>by simp[q0g]
 | y::M,i+1,x,h=>by
  have ih:=rset M i x (by simpa using h)
  have e0:(i+1)*3=i*3+3:=by omega
  rw[e0,List.set_cons_succ,List.flatMap_cons,List.flatMap_cons,← ih]
  simp[q0g,Nat.add_right_comm]
theorem rown_fill {w:World} {base g n cap i:Nat} {M:List Pr} (h:w.ownsRow base 45 3 (.slice (some ⟨g,0,none⟩) n cap) n (M.flatMap q0g)) (x:Pr) (hi:i<M.length) :
  (rfill w g (i*3) x).ownsRow base 45 3 (.slice (some ⟨g,0,none⟩) n cap) n ((M.set i x).flatMap q0g):=by
 rw[← rset M i x hi]
 exact(((h.stored _ _).1.stored _ _).1.stored _ _).1
theorem Wf.writes {H:Hs} (h:Wf H) {i:Nat} (h1:1≤i) (hi:i≤H.m) {l:List Pr} (hl:l.length≤20) (hp:∀ p∈l,WfP p):Wf (H.setTx i { H.tx i with writes:=l }):=by
 have hx:=h.tx i h1 hi
 exact h.setTx ⟨hl,hp,hx.sh,hx.pl,hx.wn,hx.wnd⟩ rfl
section
variable {w w':World} {own own':Own} {P:Ptr} {H:Hs}
theorem HI.setWrite (h:HI w own P H) {i:Nat} (_h1:1≤i) (_hi:i≤H.m) {v:TxV} (hv:TxI w own i (P.gt i) v (H.tx i)) {g n cap q:Nat} (hV:v.Vw=.slice (some ⟨g,0,none⟩) n cap) (hq:q<(H.tx i).writes.length) (x:Pr) :
  HI (rfill w g (q*3) x) own P (H.setTx i { H.tx i with writes:=(H.tx i).writes.set q x })∧HStep w own (rfill w g (q*3) x) own:=by
 have hg:own g=some (.tx i):=hv.wt g (by rw[hV];rfl)
 have hf:=rfill_fr w g (q*3) x
 have hfo:Fr (OS own (fun t=>t=.tx i)) w (rfill w g (q*3) x):=hf.mono (fun b _ e=>⟨_,by rw[e];exact hg,rfl⟩)
 obtain⟨n1,n2,n3,n4,n5,n6,n7,n8⟩:=hv.rows_ne
 have hVo:v.Vw.ownBlock=some g:=by rw[hV];rfl
 have hrow:=hv.writes
 rw[hV] at hrow
 have hn:n=(H.tx i).writes.length:=by
  rcases hrow.2 with ⟨e,_⟩|⟨_,_,_,e,_⟩
  ·cases e
  ·injection e
 subst hn
 have hrow2:=rown_fill hrow x hq
 rw[show(H.tx i).writes.length=((H.tx i).writes.set q x).length by rw[List.length_set]] at hrow2
 have hset:((H.tx i).writes.set q x).length=(H.tx i).writes.length:=by rw[List.length_set]
 have hv2:TxI (rfill w g (q*3) x) own i (P.gt i) v { H.tx i with writes:=(H.tx i).writes.set q x }:=
  ⟨hf.blk hv.blk (fun e=>n1 (by rw[hVo,e])),by rw[hV];rw[hset] at hrow2 ⊢;exact hrow2,hv.shards.fr hf (fun e=>n5 (by rw[hVo,e])),hv.places.fr hf (fun e=>n6 (by rw[hVo,e])),hf.own hv.wants (fun b hb e=>q0i hv.wants hv.writes (by decide) hb (by rw[hVo,e])),hv.ne,hv.gt,hv.wt,hv.st,hv.pt,hv.xt⟩
 exact⟨h.setTx' hfo (Ext.refl own _) (fun b hb=>Nat.lt_of_lt_of_le (h.lt b hb) hf.size) ⟨v,hv2⟩,⟨Ext.refl own _,q27 hfo (fun _=>st_tx),fun _ _ h=>h⟩⟩
theorem HI.pushWrite (h:HI w own P H) {i:Nat} {v:TxV} (hv:TxI w own i (P.gt i) v (H.tx i)) {x:Pr} {V':Value} (hm:Moved w w' v.Vw.ownBlock V'.ownBlock)
  (hr:w'.ownsRow 0 45 3 V' ((H.tx i).writes.length+1) ((H.tx i).writes.flatMap q0g++q0g x)):∃ own',HI (w'.setCell ⟨P.gt i,2,none⟩ V') own' P (H.setTx i { H.tx i with writes:=(H.tx i).writes++[x] })∧HStep w own (w'.setCell ⟨P.gt i,2,none⟩ V') own':=by
 have hf1:Fr (fun b=>v.Vw.ownBlock=some b∨w.heap.size≤b) w w':=hm.1.mono (fun b _ e=>.inl e.symm)
 have he:Ext own (q15 own w.heap.size (fun b=>V'.ownBlock=some b) (.tx i)) w.heap.size:=q14
 have hr2:w'.ownsRow 0 45 3 V' ((H.tx i).writes++[x]).length (((H.tx i).writes++[x]).flatMap q0g):=by
  rw[List.length_append,List.flatMap_append]
  simpa using hr
 have hx:∀ b,V'.ownBlock=some b→q15 own w.heap.size (fun b=>V'.ownBlock=some b) (.tx i) b=some (.tx i):=fun b hb=>q1l (by
  rcases hm.2 with e|⟨b',e,hl⟩
  ·exact .inl (hv.wt b (by rw[← e];exact hb))
  ·rw[e] at hb;injection hb with hb;exact .inr (by omega)) hb
 have hv2:=hv.setWrites he hf1 hr2 hx
 have hfo:Fr (OS own (fun t=>t=.tx i)) w (w'.setCell ⟨P.gt i,2,none⟩ V'):=
  (hm.1.mono (T:=OS own (fun t=>t=.tx i)) (fun b _ e=>⟨_,hv.wt b e.symm,rfl⟩)).setCell (p:=⟨P.gt i,2,none⟩) (.inl ⟨_,hv.gt,rfl⟩) _
 exact⟨_,h.setTx' (t':={ H.tx i with writes:=(H.tx i).writes++[x] }) hfo he (q1m hfo.size (fun b hb=>Nat.lt_of_lt_of_le (hr.lt b hb).2 (Fr.set1 (P.gt i) w' 2 V').size)) ⟨{ v with Vw:=V' },hv2⟩,⟨he,q27 hfo (fun _=>st_tx),(by first|exact q1f (by simp)|exact fun _ _ h=>h)⟩⟩
end
section
variable {H H':Hs} {i:Nat}
theorem St1.wf (s:St1 H H') (wf:Wf H) (hc:H.c=3):Wf H':=by
 cases s with
 | abort h1 hi hs=>exact wf.abort hc h1 hi
 | tell h1 hi hk hs=>exact wf.tell1 h1 hi (by omega) _
 | prep b h1 hi hk hh hp hs ht he hpl=>exact wf.add (by have:=q1a hk;omega) (q44 hh) (wf.prepC h1 hi _) b
 | place a h1 hi hk ha hs=>exact wf.putPlace h1 hi (q1a hk) a
 | timed h1 hi hs hp=>exact wf.timed h1 hi
 | decide b h1 hi hh hp hs ht=>exact wf.add (by omega) (q44 hh) (wf.decC h1 hi) b
 | commit h1 hi hs hp=>exact wf.stateTx h1 hi 3
 | came h1 hi hk hs hh he=>exact wf.came h1 hi hk
 | @got i x mode h1 hi hs hx hm hh he hw hf=>exact wf.lkd h1 hi (by have:=q18 x;omega) hx
 | @wait i x mode h1 hi hs hx hm hh he hww hw hf=>exact(wf.lkd h1 hi (s:=q00 x) (by have:=q18 x;omega) hx).wantd h1 hi hx hww
 | tick hs hl=>exact wf.tickNd hc hs hl.1
 | @arrive k m hk=>exact(wf.take1 k).arrive hc (wf.net m (List.mem_of_getElem? hk))
structure ChUp (H H':Hs):Prop where
 lv:∀ k j,Lv H' k j↔Lv H k j
 lg:∀ k j,lg H k j <+: lg H' k j
 ep:∀ k,(H'.sh k).epoch=(H.sh k).epoch
 dead:∀ k,(H'.sh k).dead=(H.sh k).dead
theorem ChUp.refl (H:Hs):ChUp H H:=⟨fun _ _=>Iff.rfl,fun _ _=>List.prefix_refl _,fun _=>rfl,fun _=>rfl⟩
theorem ChUp.trans {A B C:Hs} (h:ChUp A B) (k:ChUp B C):ChUp A C:=⟨fun a b=>(k.lv a b).trans (h.lv a b),fun a b=>(h.lg a b).trans (k.lg a b),fun a=>(k.ep a).trans (h.ep a),fun a=>(k.dead a).trans (h.dead a)⟩
theorem q09.up (h:q09 H H'):ChUp H H':=⟨fun _ _=>h.lv,fun k j=>by rw[h.lg];exact List.prefix_refl _,h.epoch,h.dead⟩
theorem q9p {s j:Nat} {d:Nd} (hid:d.id=((H.sh s).nd j).id) (hl:lg H s j <+: d.log):ChUp H (H.setNd s j d):=
 ⟨fun k a=>q59 hid,fun k a=>by
  rw[q4b];split
  ·rename_i e;obtain⟨rfl,rfl⟩:=e;exact hl
  ·exact List.prefix_refl _,
  fun k=>by
  by_cases e:k=s
  ·subst e;rw[q0t]
  ·rw[q1w H j d e],
  fun k=>by
  by_cases e:k=s
  ·subst e;rw[q0t]
  ·rw[q1w H j d e]⟩
theorem send_up (ms:List Ms):ChUp H (H.send ms):=⟨fun _ _=>Iff.rfl,fun _ _=>List.prefix_refl _,fun _=>rfl,fun _=>rfl⟩
theorem nadd_up (d:Nd) (c:Cm) (b:Bool):d.log <+: (d.add c b).1.1.log:=by
 by_cases he:(d.add c b).2.2=0
 ·rw[(nadd_ok he).1,q3e];exact List.prefix_append _ _
 ·rw[add_err he];exact List.prefix_refl _
theorem add_up (H:Hs) (s j:Nat) (c:Cm) (b:Bool):ChUp H (H.add s j c b).2:=by
 unfold Hs.add
 split
 ·exact ChUp.refl H
 ·exact((q9p (q57 _ c b).2 (nadd_up _ c b)).trans (send_up _)).trans (q09.take _ _).up
theorem tell1_up (H:Hs) (i:Nat) (kind:Int) (k:Nat):ChUp H (H.tell1 i kind k):=by
 cases hh:H.head k with
 | none=>rw[q2a hh];exact ChUp.refl H
 | some j=>
  rw[q29 hh];split
  ·exact add_up _ _ _ _ _
  ·exact ChUp.refl H
theorem telld_up (i:Nat) (kind:Int):∀ (ks:List Nat) (H:Hs),ChUp H (telld H i kind ks)
 | [],H=>ChUp.refl H
 | k::ks,H=>(tell1_up H i kind k).trans (telld_up i kind ks _)
theorem abort_up (H:Hs) (i:Nat):ChUp H (H.abort i):=by
 rw[q3r]
 exact((q09.setTx H i _).trans (q6q i _ _)).up.trans (telld_up i 4 _ _)
theorem nstep_up (d:Nd) (m:Ms):d.log <+: (d.step m).1.log∧(d.step m).1.id=d.id:=by
 have hg:d.log <+: (d.grow m.cmd).1.log∧(d.grow m.cmd).1.id=d.id:=by
  refine⟨by rw[q3e];exact List.prefix_append _ _,?_⟩
  unfold Nd.grow;split
  ·exact(q0n _).1
  ·rfl
 unfold Nd.step
 split
 ·exact⟨List.prefix_refl _,rfl⟩
 ·simp only
  split
  ·exact⟨List.prefix_refl _,rfl⟩
  ·split
   ·exact⟨List.prefix_refl _,rfl⟩
   ·split
    ·exact hg
    ·split <;> exact⟨List.prefix_refl _,rfl⟩
theorem St1.up (s:St1 H H'):ChUp H H':=by
 cases s with
 | abort=>exact abort_up _ _
 | tell=>exact tell1_up _ _ _ _
 | prep=>exact add_up _ _ _ _ _
 | place=>exact(q09.setTx _ _ _).up
 | @timed i h1 hi hs hp=>
  have e:=q11 H i
  exact(q09.up ⟨e.1,e.2.1,e.2.2.2.2,fun s=>by rw[e.2.2.2.1],fun s=>by rw[e.2.2.2.1],fun s=>by rw[e.2.2.2.1]⟩)
 | decide=>exact add_up _ _ _ _ _
 | commit=>exact(q09.setTx _ _ _).up
 | came=>exact(q09.setTx _ _ _).up
 | @got i x mode=>exact(q09.setSh (H:=H) (x:={ H.sh (q00 x) with tab:=lockT (H.sh (q00 x)).tab i x mode }) rfl rfl rfl).up
 | @wait i x mode=>exact((q09.setSh (x:={ H.sh (q00 x) with tab:=lockT (H.sh (q00 x)).tab i x mode }) rfl rfl rfl).trans (q09.setTx _ i _)).up
 | @tick s j hs hl=>exact(q9p (q0n _).1 (by rw[(q0n _).2.1];exact List.prefix_refl _)).trans (send_up _)
 | @arrive k m hk=>
  have h0:ChUp H { H with net:=takeS H.net k }:=⟨fun _ _=>Iff.rfl,fun _ _=>List.prefix_refl _,fun _=>rfl,fun _=>rfl⟩
  cases hn:Hs.node { H with net:=takeS H.net k } m.to_ with
  | none=>rw[q1c hn];exact h0
  | some q=>
   obtain⟨s,j⟩:=q
   rw[q1b hn]
   exact(h0.trans ((q9p (nstep_up _ m).2 (nstep_up _ m).1).trans (send_up _))).trans (q09.take _ _).up
theorem ChI.telld (i:Nat) (kind:Int):∀ (ks:List Nat) {H:Hs},ChI H→(∀ k∈ks,k<H.c)→ChI (Go.Proofs.YtccahlhdifadfaaGreatDoor.telld H i kind ks)
 | [],_,h,_=>h
 | k::ks,H,h,hk=>by
  have e:=q12 H i kind k
  have h1:ChI (H.tell1 i kind k):=by
   cases hh:H.head k with
   | none=>rw[q2a hh];exact h
   | some j=>
    rw[q29 hh];split
    ·exact h.add (hk k List.mem_cons_self) hh _ _
    ·exact h
  exact ChI.telld i kind ks h1 (fun x hx=>by rw[e.2.1];exact hk x (List.mem_cons_of_mem _ hx))
theorem ChI.abort (h:ChI H) (hc:H.c=3) (i:Nat):ChI (H.abort i):=by
 rw[q3r]
 have e2:=q2z i (H.tx i).comes (H.dropTx i)
 exact ChI.telld i 4 _ (h.same ((q09.setTx H i _).trans (q6q i _ _))) (fun k hk=>by rw[e2.1];have:=q1a hk;show k<H.c;omega)
theorem St1.chi (s:St1 H H') (h:ChI H) (hc:H.c=3):ChI H':=by
 cases s with
 | abort=>exact h.abort hc _
 | @tell i k kind h1 hi hk hs=>exact ChI.telld i kind [k] h (fun x hx=>by rw[List.mem_singleton] at hx;omega)
 | prep b h1 hi hk hh hp hs ht he hpl=>exact h.add (by have:=q1a hk;omega) hh _ _
 | place=>exact h.same (q09.setTx _ _ _)
 | @timed i h1 hi hs hp=>
  have e:=q11 H i
  exact h.same ⟨e.1,e.2.1,e.2.2.2.2,fun s=>by rw[e.2.2.2.1],fun s=>by rw[e.2.2.2.1],fun s=>by rw[e.2.2.2.1]⟩
 | decide b h1 hi hh hp hs ht=>exact h.add (by omega) hh _ _
 | commit=>exact h.same (q09.setTx _ _ _)
 | came=>exact h.same (q09.setTx _ _ _)
 | got=>exact h.same (q09.setSh rfl rfl rfl)
 | @wait i x mode=>exact h.same ((q09.setSh (x:={ H.sh (q00 x) with tab:=lockT (H.sh (q00 x)).tab i x mode }) rfl rfl rfl).trans (q09.setTx _ i _))
 | tick hs hl=>exact h.tickNd (by omega) hl
 | arrive hk=>exact h.arrive hc hk
def DcI (D:Nat→Prop) (H:Hs):Prop:=∀ i,1≤i→i≤H.m→(H.tx i).state=3→D i∨∃ j,Lv H 2 j∧HasC (lg H 2 j) 3 i
theorem DcI.mono {D:Nat→Prop} (h:DcI D H) (u:ChUp H H') (n:NoCm H H'):DcI D H':=fun i h1 hi e=>by
 obtain⟨a,b⟩:=n i h1 hi e
 exact(h i h1 a b).imp id (fun⟨j,hj,hc⟩=>⟨j,(u.lv 2 j).2 hj,hc.mono (fun c hc=>(u.lg 2 j).subset hc)⟩)
theorem St1.nocm (s:St1 H H'):NoCm H H'∨∃ i,1≤i∧i≤H.m∧StabC H 2 3 i∧H'=H.stateTx i 3:=by
 have hadd:∀ s j c b,NoCm H (H.add s j c b).2:=fun s j c b=>NoCm.of (q0y H s j c b).2.2.1 (fun i=>((q0y H s j c b).2.2.2.2 i).1)
 cases s with
 | @abort i h1 hi hs=>
  obtain⟨f1,_,f3⟩:=q1d H i
  refine .inl (fun a g1 g2 e=>⟨by rw[f1.m] at g2;exact g2,?_⟩)
  rw[(f3 a).1] at e
  split at e
  ·cases e
  ·exact e
 | @tell i k kind h1 hi hk hs=>exact .inl (NoCm.of (q12 H i kind k).2.2.1 (fun a=>((q12 H i kind k).2.2.2.2 a).1))
 | prep=>exact .inl (hadd _ _ _ _)
 | @place i k a=>exact .inl (NoCm.of rfl (q1v H i k a))
 | @timed i=>exact .inl (NoCm.of (q4m (H:=H) (i:=i)).2 (fun a=>((q4m (H:=H) (i:=i)).1 a).1))
 | decide=>exact .inl (hadd _ _ _ _)
 | commit h1 hi hs hp=>exact .inr ⟨_,h1,hi,hp,rfl⟩
 | @came i k h1 hi hk hs hh he=>
  exact .inl (NoCm.of rfl (fun x=>by
   show(upd H.tx i _ x).state=_
   by_cases e:x=i
   ·subst e;rw[q03]
   ·rw[q07 e]))
 | got=>exact .inl (NoCm.of rfl (fun _=>rfl))
 | @wait i x mode=>
  exact .inl (NoCm.of rfl (fun a=>by
   show(upd H.tx i _ a).state=_
   by_cases e:a=i
   ·subst e;rw[q03];rfl
   ·rw[q07 e]))
 | tick=>exact .inl (NoCm.of rfl (fun _=>rfl))
 | @arrive k m hk=>
  refine .inl ?_
  cases hn:Hs.node { H with net:=takeS H.net k } m.to_ with
  | none=>rw[q1c hn];exact NoCm.of rfl (fun _=>rfl)
  | some r=>
   obtain⟨s,j⟩:=r
   rw[q1b hn]
   have e:=q0b.take ((({ H with net:=takeS H.net k } : Hs).setNd s j (((H.sh s).nd j).step m).1).send (((H.sh s).nd j).step m).2) s
   exact NoCm.of e.m (fun a=>(e.tx a).1)
theorem DcI.step {D:Nat→Prop} (h:DcI D H) (s:St1 H H'):DcI D H':=by
 rcases s.nocm with n|⟨i,h1,hi,⟨j,p,c,q1,q2,q3,q4,_⟩,rfl⟩
 ·exact h.mono s.up n
 ·intro a g1 g2 e
  by_cases e2:a=i
  ·subst e2
   exact .inr ⟨j,(q3f q1).1,c,List.mem_of_getElem? q2,q3,q4⟩
  ·have e:(upd H.tx i _ a).state=3:=e
   rw[q07 e2] at e
   exact h a g1 g2 e
structure AllI (H:Hs) (B:Int):Prop where
 wf:Wf H
 c:H.c=3
 ch:ChI H
 lgi:LgI H
 ep:∀ s,s<3→0≤(H.sh s).epoch∧(H.sh s).epoch≤B
theorem AllI.step {B:Int} (h:AllI H B) (s:St1 H H'):AllI H' B∧TxM H H':=
 ⟨⟨s.wf h.wf h.c,s.sm.c.trans h.c,s.chi h.ch h.c,(h.lgi.step s h.ch h.wf h.c).1,fun k hk=>by rw[s.up.ep];exact h.ep k hk⟩,(h.lgi.step s h.ch h.wf h.c).2⟩
theorem AllI.star {B:Int} (s:Star H H'):AllI H B→AllI H' B∧TxM H H'∧ChUp H H':=by
 induction s with
 | refl=>exact fun h=>⟨h,TxM.refl _,ChUp.refl _⟩
 | step s _ ih=>
  intro h
  obtain⟨h1,h2⟩:=h.step s
  obtain⟨h3,h4,h5⟩:=ih h1
  exact⟨h3,h2.trans h4,s.up.trans h5⟩
theorem DcI.star {D:Nat→Prop} (s:Star H H'):DcI D H→DcI D H':=by
 induction s with
 | refl=>exact id
 | step s _ ih=>exact fun h=>ih (h.step s)
inductive ActR:Hs→Hs→Prop where
 | star {H H':Hs} (h:Star H H'):ActR H H'
 | begin {H:Hs} (h:H.m<60):ActR H H.begin
 | write {H H1:Hs} {i:Nat} {l:List Pr} (s:Star H H1) (h1:1≤i) (hi:i≤H1.m) (hl:l.length≤20) (hp:∀ p∈l,WfP p):ActR H (H1.setTx i { H1.tx i with writes:=l })
 | ends {H H':Hs} {i:Nat} (h1:1≤i) (hi:i≤H.m) (hs:(H.tx i).state=1) (hw:(H.tx i).wants=[]) (s:Star (H.ending i) H'):ActR H H'
 | net {H:Hs} {l:List Ms} (hl:∀ m∈l,m∈H.net.l):ActR H { H with net:=⟨l,H.net.dead⟩ }
 | fail {H:Hs} (id:Int):ActR H (H.fail id)
 | fix {H H':Hs} (s:FixR H H'):ActR H H'
theorem AllI.fix {B:Int} (h:AllI H B) (hB:B≤1000000) {s:Nat} (hs:s<3):AllI (H.fix s) (B+1)∧TxM H (H.fix s)∧NoCm H (H.fix s)∧FixF H (H.fix s) s:=by
 have hf:=ChF.fix (h.ch.toF (s:=s) (by rw[h.c];exact hs) (by have:=h.ep s hs;omega))
 have t:TxM H (H.fix s):=TxM.of hf.m (fun i=>⟨(hf.tx i).1,(hf.tx i).2.2.2.2⟩)
 have n:NoCm H (H.fix s):=NoCm.of hf.m (fun i=>(hf.tx i).1)
 refine⟨⟨h.wf.fix (by rw[h.c];exact hs),hf.c.trans h.c,hf.chi,h.lgi.sub t n (fun k j hk hj=>⟨j,(hf.lv k j (by rw[h.c];exact hk)).1 hj,by rw[hf.lg];exact List.prefix_refl _⟩),fun k hk=>?_⟩,t,n,hf⟩
 have hk2:=h.ep k hk
 by_cases e:k=s
 ·subst e
  rcases hf.epoch with ⟨e,_⟩|e <;> rw[e] <;> omega
 ·rw[hf.sh k e];omega
theorem AllI.mono {B B':Int} (h:AllI H B) (hB:B≤B'):AllI H B':=⟨h.wf,h.c,h.ch,h.lgi,fun s hs=>by have:=h.ep s hs;omega⟩
structure FxU (H H':Hs):Prop where
 lv:∀ k j,k<3→(Lv H' k j↔Lv H k j)
 lg:∀ k j,lg H' k j=lg H k j
 tm:TxM H H'
 nc:NoCm H H'
 tx:∀ i,(H'.tx i).state=(H.tx i).state∧(H'.tx i).writes=(H.tx i).writes∧(H'.tx i).shards=(H.tx i).shards∧(H'.tx i).places=(H.tx i).places∧(H'.tx i).time=(H.tx i).time
 m:H'.m=H.m
theorem FxU.refl (H:Hs):FxU H H:=⟨fun _ _ _=>Iff.rfl,fun _ _=>rfl,TxM.refl H,NoCm.of rfl (fun _=>rfl),fun _=>⟨rfl,rfl,rfl,rfl,rfl⟩,rfl⟩
theorem NoCm.trans {A B C:Hs} (h:NoCm A B) (k:NoCm B C):NoCm A C:=fun i h1 hi e=>by
 obtain⟨a,b⟩:=k i h1 hi e
 exact h i h1 a b
theorem FxU.trans {A B C:Hs} (h:FxU A B) (k:FxU B C):FxU A C:=
 ⟨fun a b c=>(k.lv a b c).trans (h.lv a b c),fun a b=>(k.lg a b).trans (h.lg a b),h.tm.trans k.tm,h.nc.trans k.nc,
  fun i=>⟨(k.tx i).1.trans (h.tx i).1,(k.tx i).2.1.trans (h.tx i).2.1,(k.tx i).2.2.1.trans (h.tx i).2.2.1,(k.tx i).2.2.2.1.trans (h.tx i).2.2.2.1,(k.tx i).2.2.2.2.trans (h.tx i).2.2.2.2⟩,k.m.trans h.m⟩
theorem AllI.fix1 {B:Int} (h:AllI H B) (hB:B≤1000000) {s:Nat} (hs:s<3):AllI (H.fix1 s) (B+1)∧FxU H (H.fix1 s):=by
 unfold Hs.fix1
 split
 ·exact⟨h.mono (by omega),FxU.refl H⟩
 ·obtain⟨h1,h2,h3,h4⟩:=h.fix hB hs
  exact⟨h1,fun k j hk=>h4.lv k j (by rw[h.c];exact hk),h4.lg,h2,h3,h4.tx,h4.m⟩
theorem stale1_star (h1:1≤i) (hi:i≤H.m):Star H (H.stale1 i):=by
 unfold Hs.stale1
 split
 ·rename_i h;exact Star.one (St1.abort h1 hi (.inl h.1))
 ·exact Star.refl H
theorem q78:∀ (l:List Nat) {H:Hs},(∀ i∈l,1≤i∧i≤H.m)→Star H (l.foldl Hs.stale1 H)
 | [],H,_=>Star.refl H
 | i::l,H,hl=>by
  have h1:=stale1_star (H:=H) (hl i List.mem_cons_self).1 (hl i List.mem_cons_self).2
  exact h1.trans (q78 l (fun a ha=>by rw[h1.sm.m];exact hl a (List.mem_cons_of_mem _ ha)))
theorem AllI.fixes {B:Int} (h:AllI H B) (hB:B≤999000):AllI ([0,1,2].foldl Hs.fix1 H) (B+3)∧FxU H ([0,1,2].foldl Hs.fix1 H):=by
 obtain⟨h1,u1⟩:=h.fix1 (by omega) (s:=0) (by omega)
 obtain⟨h2,u2⟩:=h1.fix1 (by omega) (s:=1) (by omega)
 obtain⟨h3,u3⟩:=h2.fix1 (by omega) (s:=2) (by omega)
 exact⟨h3.mono (by omega),(u1.trans u2).trans u3⟩
theorem fixr_star (h:FixR H H') {B:Int} (hA:AllI H B) (hB:B≤999000):Star ([0,1,2].foldl Hs.fix1 H) H':=by
 obtain⟨h1,u1⟩:=hA.fixes hB
 have hs:Star ([0,1,2].foldl Hs.fix1 H) ([0,1,2].foldl Hs.fix1 H).stales:=q78 _ (fun i hi=>by
  rw[List.mem_range'_1] at hi;omega)
 have h2:=(AllI.star hs h1).1
 exact hs.trans (q2y h h2.wf h2.c)
theorem AllI.act {B:Int} (h:AllI H B) (hB:B≤999000) (a:ActR H H') {D:Nat→Prop} (hD:∀ i,1≤i→i≤H.m→(H.tx i).state=3→D i):AllI H' (B+3)∧TxM H H'∧DcI D H':=by
 have hd:DcI D H:=fun i h1 hi e=>.inl (hD i h1 hi e)
 cases a with
 | star s=>exact⟨(AllI.star s h).1.mono (by omega),(AllI.star s h).2.1,DcI.star s hd⟩
 | begin h6=>
  have t:TxM H H.begin:=by
   refine⟨by show H.m≤H.m+1;omega,fun a _ ha e=>?_,fun a _ ha e=>?_,fun a _ ha _=>?_⟩
   ·show(upd H.tx (H.m+1) _ a).state=_;rw[q07 (by omega)];exact e
   ·show(upd H.tx (H.m+1) _ a).state=_;rw[q07 (by omega)];exact e
   ·show(upd H.tx (H.m+1) _ a).time=_;rw[q07 (by omega)]
  have n:NoCm H H.begin:=fun a g1 g2 e=>by
   have e:(upd H.tx (H.m+1) txn0 a).state=3:=e
   have g2:a≤H.m+1:=g2
   by_cases e2:a=H.m+1
   ·rw[e2,q03] at e;cases e
   ·rw[q07 e2] at e;exact⟨by omega,e⟩
  have u:q09 H H.begin:=⟨rfl,rfl,rfl,fun _=>rfl,fun _=>rfl,fun _=>rfl⟩
  exact⟨⟨h.wf.begin h6,h.c,h.ch.same u,h.lgi.sub t n (LgSub.same u),fun s hs=>by have:=h.ep s hs;show 0≤(H.sh s).epoch∧(H.sh s).epoch≤B+3;omega⟩,t,hd.mono u.up n⟩
 | @write H1 i l s h1 hi hl hp=>
  obtain⟨g1,g2,g3⟩:=AllI.star s h
  have hx:∀ a,((H1.setTx i { H1.tx i with writes:=l }).tx a).state=(H1.tx a).state∧((H1.setTx i { H1.tx i with writes:=l }).tx a).time=(H1.tx a).time:=fun a=>by
   show(upd H1.tx i _ a).state=_∧(upd H1.tx i _ a).time=_
   by_cases e:a=i
   ·subst e;rw[q03];exact⟨rfl,rfl⟩
   ·rw[q07 e];exact⟨rfl,rfl⟩
  have t:TxM H1 (H1.setTx i { H1.tx i with writes:=l }):=TxM.of rfl hx
  have n:NoCm H1 (H1.setTx i { H1.tx i with writes:=l }):=NoCm.of rfl (fun a=>(hx a).1)
  have u:=q09.setTx H1 i { H1.tx i with writes:=l }
  exact⟨⟨g1.wf.writes h1 hi hl hp,g1.c,g1.ch.same u,g1.lgi.sub t n (LgSub.same u),fun s hs=>by have:=g1.ep s hs;show 0≤(H1.sh s).epoch∧(H1.sh s).epoch≤B+3;omega⟩,g2.trans t,(DcI.star s hd).mono u.up n⟩
 | @ends _ i h1 hi hs hw s=>
  have hx:∀ a,a≠i→(H.ending i).tx a=H.tx a:=fun a e=>q07 e _
  have hxi:((H.ending i).tx i).state=2∧((H.ending i).tx i).time=(H.tx i).time:=by
   show(upd H.tx i _ i).state=_∧(upd H.tx i _ i).time=_
   rw[q03];exact⟨rfl,rfl⟩
  have t:TxM H (H.ending i):=by
   refine⟨Nat.le_refl _,fun a _ _ e=>?_,fun a _ _ e=>?_,fun a _ _ _=>?_⟩
   ·by_cases e2:a=i
    ·subst e2;rw[e] at hs;cases hs
    ·rw[hx a e2];exact e
   ·by_cases e2:a=i
    ·subst e2;rw[e] at hs;cases hs
    ·rw[hx a e2];exact e
   ·by_cases e2:a=i
    ·subst e2;exact hxi.2
    ·rw[hx a e2]
  have n:NoCm H (H.ending i):=fun a g1 g2 e=>by
   refine⟨g2,?_⟩
   by_cases e2:a=i
   ·subst e2;rw[hxi.1] at e;cases e
   ·rw[hx a e2] at e;exact e
  have u:=q09.setTx H i { H.tx i with state:=2,places:=fun k=>if ((H.tx i).shards k).isSome then some (-1) else(H.tx i).places k }
  have hA:AllI (H.ending i) B:=⟨h.wf.ending h1 hi,h.c,h.ch.same u,h.lgi.sub t n (LgSub.same u),h.ep⟩
  obtain⟨g1,g2,g3⟩:=AllI.star s hA
  exact⟨g1.mono (by omega),t.trans g2,DcI.star s (hd.mono u.up n)⟩
 | @net l hl=>
  have u:ChUp H { H with net:=⟨l,H.net.dead⟩ }:=⟨fun _ _=>Iff.rfl,fun _ _=>List.prefix_refl _,fun _=>rfl,fun _=>rfl⟩
  have t:TxM H { H with net:=⟨l,H.net.dead⟩ }:=TxM.of rfl (fun _=>⟨rfl,rfl⟩)
  have n:NoCm H { H with net:=⟨l,H.net.dead⟩ }:=NoCm.of rfl (fun _=>rfl)
  refine⟨⟨?_,h.c,h.ch.netSub hl,h.lgi.sub t n (fun k j _ hj=>⟨j,hj,List.prefix_refl _⟩),fun s hs=>by have:=h.ep s hs;show 0≤(H.sh s).epoch∧(H.sh s).epoch≤B+3;omega⟩,t,hd.mono u n⟩
  exact⟨h.wf.n4,h.wf.c3,h.wf.m60,h.wf.nd,h.wf.tab,h.wf.sto,h.wf.dead,fun m hm=>h.wf.net m (hl m hm),h.wf.down,h.wf.tx,h.wf.tm,h.wf.tle⟩
 | fail id=>
  have hs:(H.fail id).m=H.m∧(H.fail id).tx=H.tx∧(∀ s,((H.fail id).sh s).epoch=(H.sh s).epoch)∧(H.fail id).c=H.c∧∀ s j,lg (H.fail id) s j=lg H s j∧(Lv (H.fail id) s j→Lv H s j):=by
   cases hn:H.node id with
   | none=>rw[q86 hn];exact⟨rfl,rfl,fun _=>rfl,rfl,fun _ _=>⟨rfl,fun h=>h⟩⟩
   | some q=>
    obtain⟨s,j⟩:=q
    rw[q85 hn]
    have e:∀ k,(((H.deadN s id).downN id).sh k).epoch=(H.sh k).epoch∧(((H.deadN s id).downN id).sh k).nd=(H.sh k).nd∧∀ i,(((H.deadN s id).downN id).sh k).dead i=false→(H.sh k).dead i=false:=fun k=>by
     show((H.deadN s id).sh k).epoch=_∧((H.deadN s id).sh k).nd=_∧∀ i,((H.deadN s id).sh k).dead i=false→_
     by_cases ek:k=s
     ·subst ek
      have:(H.deadN k id).sh k = { H.sh k with dead:=fun i=>decide (i=id) || (H.sh k).dead i }:=q03 _ _ _
      rw[this]
      exact⟨rfl,rfl,fun i hi=>(Bool.or_eq_false_iff.1 hi).2⟩
     ·have:(H.deadN s id).sh k=H.sh k:=q07 ek _
      rw[this]
      exact⟨rfl,rfl,fun i hi=>hi⟩
    refine⟨rfl,rfl,fun k=>(e k).1,rfl,fun k a=>⟨by unfold lg;rw[(e k).2.1],fun hl=>?_⟩⟩
    obtain⟨l1,l2⟩:=hl
    rw[(e k).2.1] at l2
    exact⟨l1,(e k).2.2 _ l2⟩
  have t:TxM H (H.fail id):=TxM.of hs.1 (fun i=>by rw[hs.2.1];exact⟨rfl,rfl⟩)
  have n:NoCm H (H.fail id):=NoCm.of hs.1 (fun i=>by rw[hs.2.1])
  exact⟨⟨h.wf.fail h.c id,hs.2.2.2.1.trans h.c,h.ch.fail h.c id,h.lgi.sub t n (fun k j _ hj=>⟨j,(hs.2.2.2.2 k j).2 hj,by rw[(hs.2.2.2.2 k j).1];exact List.prefix_refl _⟩),fun s hs2=>by rw[hs.2.2.1];have:=h.ep s hs2;omega⟩,t,
   fun i h1 hi e=>.inl (hD i h1 (by rw[← hs.1];exact hi) (by rw[hs.2.1] at e;exact e))⟩
 | fix s=>
  obtain⟨h1,u1⟩:=h.fixes hB
  have s2:=fixr_star s h hB
  obtain⟨g1,g2,g3⟩:=AllI.star s2 h1
  have hd2:DcI D ([0,1,2].foldl Hs.fix1 H):=fun i q1 qi e=>by
   obtain⟨a,b⟩:=u1.nc i q1 qi e
   exact .inl (hD i q1 a b)
  exact⟨g1,u1.tm.trans g2,DcI.star s2 hd2⟩
end
noncomputable def mores (n:Nat):Nat→Hs
 | 0=>hsE n
 | q+1=>(mores n q).more
theorem hs0_eq (n:Nat):hs0 n=mores n 3:=rfl
def Hs.cc (H:Hs):Hs:={ H with c:=H.c+1 }
theorem q64 (H:Hs):H.more=H.cc.fix H.c:=rfl
structure MoreI (n q:Nat) (H:Hs):Prop where
 wf:Wf H
 c:H.c=q
 n:H.n=n
 m:H.m=0
 new:∀ s,q≤s→H.sh s=shd0 s
 ch:ChI H
 lg:∀ s j,lg H s j=[]
 ep:∀ s,s<q→0≤(H.sh s).epoch∧(H.sh s).epoch≤1
theorem Wf.cc {H:Hs} (h:Wf H) (hc:H.c<3) (hn:H.sh H.c=shd0 H.c):Wf H.cc:=by
 have key:∀ s,s<H.c+1→s≠H.c→s<H.c:=fun s h1 h2=>by omega
 refine⟨h.n4,by show H.c+1≤3;omega,h.m60,fun s j hs hj=>?_,fun s hs=>?_,fun s hs=>?_,fun s hs i hi=>?_,h.net,h.down,h.tx,h.tm,h.tle⟩
 ·have hs:s<H.c+1:=hs
  by_cases e:s=H.c
  ·subst e
   show WfNd H.c j ((H.sh H.c).nd j)
   rw[hn]
   exact⟨rfl,fun x hx=>(by cases hx),fun x hx=>(by cases hx)⟩
  ·exact h.nd s j (key s hs e) hj
 ·have hs:s<H.c+1:=hs
  by_cases e:s=H.c
  ·subst e;show WfT (H.sh H.c).tab;rw[hn];exact WfT.none_
  ·exact h.tab s (key s hs e)
 ·have hs:s<H.c+1:=hs
  by_cases e:s=H.c
  ·subst e;show WfS (H.sh H.c).sto;rw[hn];exact WfS.none_
  ·exact h.sto s (key s hs e)
 ·have hs:s<H.c+1:=hs
  have hi:(H.sh s).dead i=true:=hi
  by_cases e:s=H.c
  ·subst e;rw[hn] at hi;cases hi
  ·exact h.dead s (key s hs e) i hi
theorem ChI.cc {H:Hs} (h:ChI H) (hn:H.sh H.c=shd0 H.c) (hd:∀ s j,H.c≤s→j<H.n→H.net.dead (idn s j)=false):ChF H.cc H.c:=by
 have key:∀ s,s<H.c+1→s≠H.c→s<H.c:=fun s h1 h2=>by omega
 have hnd:∀ j,(H.sh H.c).nd j=nd0 (10*H.c+j):=fun j=>by rw[hn];rfl
 have hlg:∀ j,lg H H.c j=[]:=fun j=>by unfold lg;rw[hnd];rfl
 refine⟨Nat.lt_succ_self _,h.n4,fun s j hs hj=>?_,fun a ha hne=>?_,fun s hs i j hij hi hj=>?_,fun s hs i j hi hj=>?_,fun s j hs hj=>?_,fun m hm=>?_,fun j hj=>.inr ⟨hlg j,by show((H.sh H.c).nd j).stable=0;rw[hnd];rfl⟩,by show 0≤(H.sh H.c).epoch∧(H.sh H.c).epoch≤1000000;rw[hn];exact⟨Int.le_refl _,by show(0:Int)≤1000000;omega⟩⟩
 ·have hs:s<H.c+1:=hs
  by_cases e:s=H.c
  ·subst e;show((H.sh H.c).nd j).id=_;rw[hnd];rfl
  ·exact h.ids s j (key s hs e) hj
 ·have ha:a<H.c+1:=ha
  obtain⟨L,g⟩:=h.cfg a (key a ha hne)
  exact⟨L,g.sorted,g.lt,g.mem,g.nd⟩
 ·have hs:s<H.c+1:=hs
  by_cases e:s=H.c
  ·subst e;show lg H H.c j <+: lg H H.c i;rw[hlg,hlg];exact List.prefix_refl _
  ·exact h.pre s (key s hs e) i j hij hi hj
 ·have hs:s<H.c+1:=hs
  by_cases e:s=H.c
  ·subst e
   show((H.sh H.c).nd i).stable≤_
   rw[hnd]
   show(0:Int)≤_
   omega
  ·exact h.st s (key s hs e) i j hi hj
 ·have hs:s<H.c+1:=hs
  by_cases e:s=H.c
  ·subst e
   show H.net.dead _=(H.sh H.c).dead _
   rw[hn,hd H.c j (Nat.le_refl _) hj];rfl
  ·exact h.dn s j (key s hs e) hj
 ·obtain⟨h1,h2,s,j,hs,hj,hf,hI⟩:=h.ms m hm
  exact⟨h1,h2,s,j,Nat.lt_succ_of_lt hs,hj,hf,hI.ep,hI.fwd,hI.st⟩
theorem fix_dead (H:Hs) (s:Nat):(H.fix s).net.dead=H.net.dead:=by
 unfold Hs.fix
 split
 ·rfl
 ·have hj:∀ (ids:List Int) (l:List Nat) (H:Hs),(l.foldl (Hs.joinNd s ids) H).net.dead=H.net.dead:=by
   intro ids l
   induction l with
   | nil=>intro H;rfl
   | cons j l ih=>intro H;exact(ih _).trans (q20 _ _)
  unfold Hs.fixIn
  simp only
  rw[(q0b.take _ s).net]
  exact hj _ _ _
theorem MoreI.more {n q:Nat} {H:Hs} (h:MoreI n q H) (hq:q<3) (hd:∀ i,H.net.dead i=false):MoreI n (q+1) H.more:=by
 have hn:=h.new q (Nat.le_refl _)
 have hc:=h.c
 subst hc
 have hf:=(h.ch.cc hn (fun s j _ _=>hd _)).fix
 have hw:=(h.wf.cc hq hn).fix (s:=H.c) (Nat.lt_succ_self _)
 refine⟨hw,hf.c,hf.n.trans h.n,hf.m.trans h.m,fun s hs=>?_,hf.chi,fun s j=>?_,fun s hs=>?_⟩
 ·rw[q64,hf.sh s (by omega)];exact h.new s (by omega)
 ·rw[q64,hf.lg s j];exact h.lg s j
 ·by_cases e:s=H.c
  ·subst e
   rw[q64]
   have h0:(H.cc.sh H.c).epoch=0:=by show(H.sh H.c).epoch=0;rw[hn];rfl
   rcases hf.epoch with ⟨e,_⟩|e <;> rw[e,h0] <;> omega
  ·rw[q64,hf.sh s e];exact h.ep s (by omega)
theorem moreI_zero {n:Nat} (hn:n≤4):MoreI n 0 (hsE n):=by
 refine⟨⟨hn,Nat.zero_le _,Nat.zero_le _,fun s j hs=>absurd hs (by show ¬s<0;omega),fun s hs=>absurd hs (by show ¬s<0;omega),fun s hs=>absurd hs (by show ¬s<0;omega),fun s hs=>absurd hs (by show ¬s<0;omega),fun m hm=>(by cases hm),fun i hi=>(by cases hi),fun i h1 hi=>absurd hi (by show ¬i≤0;omega),rfl,fun i h1 hi=>absurd hi (by show ¬i≤0;omega)⟩,
  rfl,rfl,rfl,fun _ _=>rfl,⟨hn,fun s j hs=>absurd hs (by show ¬s<0;omega),fun s hs=>absurd hs (by show ¬s<0;omega),fun s hs=>absurd hs (by show ¬s<0;omega),fun s hs=>absurd hs (by show ¬s<0;omega),fun s j hs=>absurd hs (by show ¬s<0;omega),fun m hm=>(by cases hm)⟩,fun _ _=>rfl,fun s hs=>absurd hs (by omega)⟩
theorem q7q {n:Nat} (hn:n≤4):∀ q,q≤3→MoreI n q (mores n q)∧∀ i,(mores n q).net.dead i=false
 | 0,_=>⟨moreI_zero hn,fun _=>rfl⟩
 | q+1,hq=>by
  obtain⟨h1,h2⟩:=q7q hn q (by omega)
  refine⟨h1.more (by omega) h2,fun i=>?_⟩
  show((mores n q).cc.fix _).net.dead i=false
  rw[fix_dead];exact h2 i
theorem all_hs0 {n:Nat} (hn:n≤4):AllI (hs0 n) 1∧(hs0 n).m=0∧(hs0 n).n=n:=by
 obtain⟨h,_⟩:=q7q hn 3 (Nat.le_refl _)
 rw[hs0_eq]
 refine⟨⟨h.wf,h.c,h.ch,⟨fun k _ j _=>?_,fun j _=>?_,fun i h1 hi=>?_⟩,h.ep⟩,h.m,h.n⟩
 ·rw[h.lg];intro p c hp;simp at hp
 ·rw[h.lg];intro c hc;cases hc
 ·have:=h.m;omega
def kA:Sx:=[97]
def prA:Pr:=⟨⟨#[97]⟩,⟨#[120]⟩,false⟩
noncomputable def tabA:Tb:=putT (fun _=>none) kA (some ⟨gainH (fun _=>none) 1 2,[]⟩)
def stoA:Kp:=(putS (fun _=>[]) 0 ⟨kA,[120],false,1⟩).2
structure Cs where
 a0:Nd
 b0:Nd
 a1:Nd
 b1:Nd
 a2:Nd
 b2:Nd
 net:List Ms
 state:Int
 time:Int
 pl:Option Int
 lk:Bool
 st:Bool
 d0:Nat
 d1:Nat
 d2:Nat
def Cs.dn (x:Cs) (s:Nat):Nat:=match s with|0=>x.d0|1=>x.d1|_=>x.d2
def Cs.setDn (x:Cs) (s n:Nat):Cs:=match s with|0=>{ x with d0:=n } | 1=>{ x with d1:=n } | _=>{ x with d2:=n }
def prepC:Cm:=⟨2,1,0,[prA]⟩
def Cs.get (x:Cs) (s j:Nat):Nd:=match s,j with
 | 0,0=>x.a0|0,_=>x.b0|1,0=>x.a1|1,_=>x.b1|_,0=>x.a2|_,_=>x.b2
def Cs.set (x:Cs) (s j:Nat) (d:Nd):Cs:=match s,j with
 | 0,0=>{ x with a0:=d } | 0,_=>{ x with b0:=d } | 1,0=>{ x with a1:=d } | 1,_=>{ x with b1:=d } | _,0=>{ x with a2:=d } | _,_=>{ x with b2:=d }
def Cs.send (x:Cs) (ms:List Ms):Cs:={ x with net:=(q0o ⟨x.net,fun _=>false⟩ ms).l }
structure SimH (x:Cs) (H:Hs):Prop where
 n:H.n=2
 c:H.c=3
 m:H.m=1
 nd:∀ s j,s<3→j<2→(H.sh s).nd j=x.get s j
 dead:∀ s,s<3→(H.sh s).dead=fun _=>false
 epoch:∀ s,s<3→(H.sh s).epoch=1
 tab:∀ s,s<3→(H.sh s).tab=if s=1∧x.lk=true then tabA else fun _=>none
 sto:∀ s,s<3→(H.sh s).sto=if s=1∧x.st=true then stoA else fun _=>[]
 done:∀ s,s<3→(H.sh s).done=x.dn s
 net:H.net=⟨x.net,fun _=>false⟩
 time:H.time=x.time
 tx:H.tx 1=⟨x.state,[prA],setF (fun _=>none) 1 1,fun k=>if k=1 then x.pl else none,x.time,[]⟩
 ids:∀ s j,s<3→j<2→(x.get s j).id=10*s+j
 heads:∀ s,s<3→(x.get s 0).at_=0
 heads1:∀ s,s<3→(x.get s 1).at_=1
 lgp:∀ c∈(x.get 1 0).log,c.kind=2→c=prepC
theorem q9a (x:Cs) {s t i j:Nat} (d:Nd) (hs:s<3) (ht:t<3) (hi:i<2) (hj:j<2):(x.set s j d).get t i=if t=s∧i=j then d else x.get t i:=by
 have h1:s=0∨s=1∨s=2:=by omega
 have h2:t=0∨t=1∨t=2:=by omega
 have h3:i=0∨i=1:=by omega
 have h4:j=0∨j=1:=by omega
 rcases h1 with rfl|rfl|rfl <;> rcases h2 with rfl|rfl|rfl <;> rcases h3 with rfl|rfl <;> rcases h4 with rfl|rfl <;> rfl
theorem q5t (x:Cs) (s j:Nat) (d:Nd):(x.set s j d).net=x.net∧(x.set s j d).state=x.state∧(x.set s j d).time=x.time∧(x.set s j d).pl=x.pl∧(x.set s j d).lk=x.lk∧(x.set s j d).st=x.st:=by
 unfold Cs.set
 split <;> exact⟨rfl,rfl,rfl,rfl,rfl,rfl⟩
section
variable {x:Cs} {H:Hs}
theorem SimH.live (h:SimH x H) {s:Nat} (hs:s<3):(H.sh s).liveIx H.n=[0,1]:=by
 unfold Shd.liveIx
 rw[h.n,h.dead s hs]
 rfl
theorem SimH.head (h:SimH x H) {s:Nat} (hs:s<3):H.head s=some 0:=by
 unfold Hs.head Shd.headIx
 rw[h.live hs,List.find?_cons_of_pos]
 rw[h.nd s 0 hs (by omega)]
 unfold Nd.head
 rw[h.heads s hs];rfl
theorem SimH.take (h:SimH x H) {s:Nat} (hs:s<3) (hd:x.dn s=(x.get s 0).log.length):H.take s=H:=by
 unfold Hs.take
 rw[h.head hs]
 simp only
 rw[h.nd s 0 hs (by omega),h.done s hs,hd,Nat.sub_self]
 rfl
theorem SimH.node (h:SimH x H) {s j:Nat} (hs:s<3) (hj:j<2) {d:Nd} {ms:List Ms} (h1:d.id=(x.get s j).id) (h2:d.at_=(x.get s j).at_) (h3:s=1→j=0→∀ c∈d.log,c.kind=2→c=prepC):SimH ((x.set s j d).send ms) ((H.setNd s j d).send ms):=by
 obtain⟨f1,f2,f3,f4,f5,f6⟩:=q5t x s j d
 have hsh:∀ t,t≠s→((H.setNd s j d).send ms).sh t=H.sh t:=fun t ht=>q1w H j d ht
 have hsm:((H.setNd s j d).send ms).sh s = { H.sh s with nd:=upd (H.sh s).nd j d }:=q0t H s j d
 have hget:∀ t i,((x.set s j d).send ms).get t i=(x.set s j d).get t i:=fun t i=>by unfold Cs.get Cs.send;split <;> rfl
 have key:∀ (t:Nat),((H.setNd s j d).send ms).sh t=if t=s then { H.sh s with nd:=upd (H.sh s).nd j d } else H.sh t:=fun t=>by
  split
  ·rename_i e;subst e;exact hsm
  ·rename_i e;exact hsh t e
 refine⟨h.n,h.c,h.m,fun t i ht hi=>?_,fun t ht=>?_,fun t ht=>?_,fun t ht=>?_,fun t ht=>?_,fun t ht=>?_,?_,h.time.trans f3.symm,?_,fun t i ht hi=>?_,fun t ht=>?_,fun t ht=>?_,?_⟩
 ·rw[hget,q9a x d hs ht hi hj,key]
  by_cases e:t=s
  ·subst e
   rw[if_pos rfl]
   by_cases e2:i=j
   ·subst e2;rw[if_pos ⟨rfl,rfl⟩];exact q03 _ _ _
   ·rw[if_neg (by simp[e2])];exact(q07 e2 _).trans (h.nd t i ht hi)
  ·rw[if_neg e,if_neg (by simp[e])];exact h.nd t i ht hi
 ·rw[key];split
  ·rename_i e;subst e;exact h.dead t ht
  ·exact h.dead t ht
 ·rw[key];split
  ·rename_i e;subst e;exact h.epoch t ht
  ·exact h.epoch t ht
 ·show _=if t=1∧(x.set s j d).lk=true then tabA else _
  rw[f5,key];split
  ·rename_i e;subst e;exact h.tab t ht
  ·exact h.tab t ht
 ·show _=if t=1∧(x.set s j d).st=true then stoA else _
  rw[f6,key];split
  ·rename_i e;subst e;exact h.sto t ht
  ·exact h.sto t ht
 ·have hdn:((x.set s j d).send ms).dn t=x.dn t:=by
   have e1:(x.set s j d).d0=x.d0∧(x.set s j d).d1=x.d1∧(x.set s j d).d2=x.d2:=by unfold Cs.set;split <;> exact⟨rfl,rfl,rfl⟩
   unfold Cs.dn Cs.send
   split
   ·exact e1.1
   ·exact e1.2.1
   ·exact e1.2.2
  rw[hdn,key];split
  ·rename_i e;subst e;exact h.done t ht
  ·exact h.done t ht
 ·show q0o H.net ms=⟨(q0o ⟨(x.set s j d).net,fun _=>false⟩ ms).l,fun _=>false⟩
  rw[h.net,f1]
  have:=q20 ms ⟨x.net,fun _=>false⟩
  cases hq:q0o ⟨x.net,fun _=>false⟩ ms with
  | mk l dd=>rw[hq] at this;simp only at this;rw[this]
 ·show H.tx 1=⟨(x.set s j d).state,_,_,fun k=>if k=1 then(x.set s j d).pl else none,(x.set s j d).time,[]⟩
  rw[f2,f3,f4];exact h.tx
 ·rw[hget,q9a x d hs ht hi hj];split
  ·rename_i e;obtain⟨rfl,rfl⟩:=e;rw[h1];exact h.ids t i ht hi
  ·exact h.ids t i ht hi
 ·rw[hget,q9a x d hs ht (by omega) hj];split
  ·rename_i e;obtain⟨rfl,rfl⟩:=e;rw[h2];exact h.heads t ht
  ·exact h.heads t ht
 ·rw[hget,q9a x d hs ht (by omega) hj];split
  ·rename_i e;obtain⟨rfl,rfl⟩:=e;rw[h2];exact h.heads1 t ht
  ·exact h.heads1 t ht
 ·rw[hget,q9a x d hs (by omega) (by omega) hj];split
  ·rename_i e;exact h3 e.1.symm e.2.symm
  ·exact h.lgp
theorem lock_new:lockT (fun _=>none) 1 kA 2=tabA:=by
 unfold lockT
 rw[show atT (fun _=>none) kA=k0 from rfl,if_neg (by simp[k0,q0w]),if_pos (free_k0 1 2)]
 rfl
theorem tabA_k:tabA kA=some ⟨gainH (fun _=>none) 1 2,[]⟩:=by unfold tabA putT;rw[if_pos rfl]
theorem tabA_ne {y:Sx} (h:y≠kA):tabA y=none:=by unfold tabA putT;rw[if_neg h]
theorem lock_again:lockT tabA 1 kA 2=tabA:=by
 have hat:atT tabA kA=⟨gainH (fun _=>none) 1 2,[]⟩:=by unfold atT;rw[tabA_k];rfl
 have hh:holdK (gainH (fun _=>none) 1 2) 1=2:=by unfold holdK gainH setH;rw[if_pos rfl];rfl
 unfold lockT
 rw[hat,if_neg (by simp[q0w]),if_pos (q4c.2 (.inl (by rw[hh];omega)))]
 have hg:gainH (gainH (fun _=>none) 1 2) 1 2=gainH (fun _=>none) 1 2:=by
  funext o
  show(if o=1 then some (max (holdK (gainH (fun _=>none) 1 2) 1) 2) else gainH (fun _=>none) 1 2 o)=_
  rw[hh]
  split
  ·rename_i e;subst e;unfold gainH setH;rw[if_pos rfl];rfl
  ·rfl
 rw[hg]
 funext y
 unfold putT
 split
 ·rename_i e;rw[e,tabA_k]
 ·rfl
theorem rel_tabA:relT tabA 1=fun _=>none:=by
 funext y
 unfold relT
 by_cases e:y=kA
 ·rw[e,tabA_k]
  show relO _ 1=none
  unfold relO
  rw[if_pos]
  have hs:setH (gainH (fun _=>none) 1 2) 1 none=fun _=>none:=by
   funext o;unfold setH gainH setH;split
   ·rfl
   ·rfl
  unfold relK q9f
  simp[offW,q30,hs]
 ·rw[tabA_ne e];rfl
theorem rel_none (tx:Int):relT (fun _=>none) tx=fun _=>none:=by funext y;rfl
open Classical in
theorem granted_same {T:Tb} {tx:Int} (H:Hs) (h:∀ o y,¬grB T tx o y):H.granted T tx=H:=by
 unfold Hs.granted
 have e:(fun i=>{ H.tx i with wants:=(H.tx i).wants.filter fun w=>!decide (grB T tx i w.1) } : Nat→Txn)=H.tx:=by
  funext i
  have:(H.tx i).wants.filter (fun w=>!decide (grB T tx i w.1))=(H.tx i).wants:=by
   rw[List.filter_eq_self]
   intro w _
   simp[h]
  rw[this]
 rw[e]
theorem grB_none (tx:Int):∀ o y,¬grB (fun _=>none) tx o y:=fun o y=>by rintro ⟨k,_,h,_⟩;cases h
theorem grB_tabA:∀ o y,¬grB tabA 1 o y:=fun o y=>by
 rintro ⟨k,md,h,hm⟩
 by_cases e:y=kA
 ·rw[e,tabA_k] at h
  injection h with h
  subst h
  unfold relK at hm
  simp[offW,q30] at hm
 ·rw[tabA_ne e] at h;cases h
end
def bindO {α β:Type} (f:α→Option (List β)):List α→Option (List β)
 | []=>some []
 | x::l=>match f x,bindO f l with
  | some a,some b=>some (a++b)
  | _,_=>none
theorem q2m {α β:Type} {f:α→Option (List β)} : ∀ {l:List α} {L:List β},bindO f l=some L→∀ {x},x∈l→∃ a,f x=some a∧∀ y∈a,y∈L
 | [],_,_,_,hx=>by cases hx
 | z::l,L,h,x,hx=>by
  unfold bindO at h
  cases h1:f z with
  | none=>rw[h1] at h;simp at h
  | some a=>
   cases h2:bindO f l with
   | none=>rw[h1,h2] at h;simp at h
   | some b=>
    rw[h1,h2] at h
    injection h with h
    rcases List.mem_cons.1 hx with rfl|hx
    ·exact⟨a,h1,fun y hy=>by rw[← h];exact List.mem_append.2 (.inl hy)⟩
    ·obtain⟨a',e1,e2⟩:=q2m h2 hx
     exact⟨a',e1,fun y hy=>by rw[← h];exact List.mem_append.2 (.inr (e2 y hy))⟩
def Cs.grow (x:Cs) (s:Nat) (c:Cm):Cs:=((x.set s 0 ((x.get s 0).grow c).1).send ((x.get s 0).grow c).2).setDn s ((x.get s 0).log.length+1)
def Cs.ok (x:Cs) (s:Nat):Bool:=x.dn s == (x.get s 0).log.length && decide ((x.get s 0).log.length<500)
def Cs.len (x:Cs) (s:Nat):Nat:=(x.get s 0).log.length
def Cs.stb (x:Cs) (s:Nat):Int:=(x.get s 0).stable
def onePrep (l:List Cm):Bool:=match l with
 | [c]=>c.kind == 2
 | _=>false
def ctell (x:Cs):Option Cs:=
 if (place (x.get 1 0).log 3 1).isNone && (place (x.get 1 0).log 2 1).isSome then
  if x.ok 1 && x.lk && !x.st && x.time == 1 && onePrep (x.get 1 0).log then some { x.grow 1 ⟨3,1,x.time,[]⟩ with lk:=false,st:=true } else none
 else some x
def ccommit (x:Cs):Option (List (Cs×Bool)):=(ctell { x with state:=3 }).map fun y=>[(y,true)]
def cdec1 (x:Cs) (at_:Nat):Option (List (Cs×Bool)):=if x.stb 2≤at_ then some [(x,false)] else ccommit x
def cdec (x:Cs) (all:Bool):Option (List (Cs×Bool)):=
 if all then
  match place (x.get 2 0).log 3 1 with
  | some p=>cdec1 x p
  | none=>if x.ok 2 && (x.get 2 0).log.isEmpty && x.time == 0 then
    bindO (fun at_:Nat=>cdec1 (({ x with time:=1 } : Cs).grow 2 ⟨3,1,1,[]⟩) at_) [0,1]
   else none
 else some [(x,false)]
def q4f (x:Cs):Option (List (Cs×Bool)):=
 if x.state=2 then
  match place (x.get 1 0).log 2 1 with
  | some p=>cdec { x with pl:=some (p:Int) } (decide (x.stb 1 > p))
  | none=>if x.time == 0 && x.pl == some (-1) && x.ok 1 && x.lk && (x.get 1 0).log.isEmpty then
    bindO (fun at_:Nat=>cdec { x.grow 1 prepC with pl:=some (at_:Int) } (decide ((x.grow 1 prepC).stb 1 > at_))) [0,1]
   else none
 else if x.state=3 then(ctell x).map fun y=>[(y,false)]
 else none
def q38:Nat→Cs→Option (List Cs)
 | 0,_=>none
 | f+1,x=>match q4f x with
  | none=>none
  | some l=>bindO (fun p=>if p.2 then q38 f p.1 else some [p.1]) l
def cnode (id:Int):Option (Nat×Nat):=if id=0 then some (0,0) else if id=1 then some (0,1) else if id=10 then some (1,0) else if id=11 then some (1,1) else if id=20 then some (2,0) else if id=21 then some (2,1) else none
def q6x (x:Cs):Option (List Cs):=match x.net with
 | []=>some [x]
 | m::net=>match cnode m.to_ with
  | none=>q38 5 { x with net:=net }
  | some (s,j)=>
   if ((({ x with net:=net } : Cs).set s j ((x.get s j).step m).1).send ((x.get s j).step m).2).dn s == ((({ x with net:=net } : Cs).set s j ((x.get s j).step m).1).send ((x.get s j).step m).2).len s
   then q38 5 ((({ x with net:=net } : Cs).set s j ((x.get s j).step m).1).send ((x.get s j).step m).2) else none
def q4j (x:Cs) (s j:Nat):Cs:=(x.set s j (x.get s j).tick.1).send (x.get s j).tick.2
def cticks (x:Cs):Cs:=q4j (q4j (q4j (q4j (q4j (q4j x 0 0) 0 1) 1 0) 1 1) 2 0) 2 1
def q8c:Nat→Cs→Option (List Cs)
 | 0,x=>some [x]
 | f+1,x=>if x.net.isEmpty then some [x] else match q6x x with
  | none=>none
  | some l=>bindO (q8c f) l
def ccalm:Nat→Cs→Option (List Cs)
 | 0,x=>some [x]
 | f+1,x=>match q38 5 (cticks x) with
  | none=>none
  | some l=>match bindO (q8c 5000) l with
   | none=>none
   | some l2=>bindO (ccalm f) l2
section
variable {x:Cs} {H:Hs}
theorem q3v (x:Cs) (s n t j:Nat):(x.setDn s n).get t j=x.get t j:=by
 unfold Cs.setDn
 split <;> (unfold Cs.get;split <;> rfl)
theorem setDn_dn (x:Cs) {s t:Nat} (n:Nat) (hs:s<3) (ht:t<3):(x.setDn s n).dn t=if t=s then n else x.dn t:=by
 have h1:s=0∨s=1∨s=2:=by omega
 have h2:t=0∨t=1∨t=2:=by omega
 rcases h1 with rfl|rfl|rfl <;> rcases h2 with rfl|rfl|rfl <;> rfl
theorem q6i (x:Cs) (s n:Nat):(x.setDn s n).net=x.net∧(x.setDn s n).state=x.state∧(x.setDn s n).time=x.time∧(x.setDn s n).pl=x.pl∧(x.setDn s n).lk=x.lk∧(x.setDn s n).st=x.st:=by
 unfold Cs.setDn
 split <;> exact⟨rfl,rfl,rfl,rfl,rfl,rfl⟩
theorem SimH.setDn (h:SimH x H) {s:Nat} (hs:s<3) (n:Nat):SimH (x.setDn s n) (H.setSh s { H.sh s with done:=n }):=by
 obtain⟨f1,f2,f3,f4,f5,f6⟩:=q6i x s n
 have key:∀ (t:Nat),(H.setSh s { H.sh s with done:=n }).sh t=if t=s then { H.sh s with done:=n } else H.sh t:=fun t=>rfl
 refine⟨h.n,h.c,h.m,fun t i ht hi=>?_,fun t ht=>?_,fun t ht=>?_,fun t ht=>?_,fun t ht=>?_,fun t ht=>?_,by rw[f1];exact h.net,by rw[f3];exact h.time,by rw[f2,f3,f4];exact h.tx,fun t i ht hi=>by rw[q3v];exact h.ids t i ht hi,fun t ht=>by rw[q3v];exact h.heads t ht,fun t ht=>by rw[q3v];exact h.heads1 t ht,by rw[q3v];exact h.lgp⟩
 ·rw[q3v,key];split
  ·rename_i e;subst e;exact h.nd t i ht hi
  ·exact h.nd t i ht hi
 ·rw[key];split
  ·rename_i e;subst e;exact h.dead t ht
  ·exact h.dead t ht
 ·rw[key];split
  ·rename_i e;subst e;exact h.epoch t ht
  ·exact h.epoch t ht
 ·rw[f5,key];split
  ·rename_i e;subst e;exact h.tab t ht
  ·exact h.tab t ht
 ·rw[f6,key];split
  ·rename_i e;subst e;exact h.sto t ht
  ·exact h.sto t ht
 ·rw[setDn_dn x n hs ht,key];split
  ·rfl
  ·exact h.done t ht
theorem SimH.setT (h:SimH x H) (st tm:Int) (pl:Option Int) (t:Txn) (H':Hs) (ht:t=⟨st,[prA],setF (fun _=>none) 1 1,fun k=>if k=1 then pl else none,tm,[]⟩) (hH:H' = { H.setTx 1 t with time:=tm }):SimH { x with state:=st,time:=tm,pl:=pl } H':=by
 subst hH
 exact⟨h.n,h.c,h.m,fun s j hs hj=>(h.nd s j hs hj).trans (by unfold Cs.get;split <;> rfl),h.dead,h.epoch,h.tab,h.sto,fun s hs=>(h.done s hs).trans (by unfold Cs.dn;split <;> rfl),h.net,rfl,(show upd H.tx 1 t 1=_ by rw[q03];exact ht),fun s j hs hj=>(show({ x with state:=st,time:=tm,pl:=pl } : Cs).get s j=x.get s j by unfold Cs.get;split <;> rfl)▸h.ids s j hs hj,fun s hs=>(show({ x with state:=st,time:=tm,pl:=pl } : Cs).get s 0=x.get s 0 by unfold Cs.get;split <;> rfl)▸h.heads s hs,fun s hs=>(show({ x with state:=st,time:=tm,pl:=pl } : Cs).get s 1=x.get s 1 by unfold Cs.get;split <;> rfl)▸h.heads1 s hs,h.lgp⟩
theorem SimH.comes (h:SimH x H):(H.tx 1).comes=[1]:=by
 rw[h.tx]
 unfold Txn.comes setF
 simp
theorem SimH.grow (h:SimH x H) {s:Nat} (hs:s<3) (c:Cm) (b:Bool) (hok:x.ok s=true) (hc:s=1→c.kind=2→c=prepC) :
  ∃ H1,SimH ((x.set s 0 ((x.get s 0).grow c).1).send ((x.get s 0).grow c).2) H1∧H.add s 0 c b=((if b then((x.get s 0).log.length:Int)+1 else(x.get s 0).log.length),H1.taken s ((x.get s 0).log++[c]) (x.get s 0).log.length c):=by
 unfold Cs.ok at hok
 simp only[Bool.and_eq_true,beq_iff_eq,decide_eq_true_eq] at hok
 obtain⟨hd,hl⟩:=hok
 have hnd:=h.nd s 0 hs (by omega)
 have hhd:(x.get s 0).head=true:=by unfold Nd.head;rw[h.heads s hs];rfl
 have hadd:(x.get s 0).add c b=((x.get s 0).grow c,(if b then((x.get s 0).log.length:Int)+1 else(x.get s 0).log.length),0):=by
  unfold Nd.add
  rw[hhd,if_neg (by simp),if_neg (by omega)]
 have hgid:((x.get s 0).grow c).1.id=(x.get s 0).id∧((x.get s 0).grow c).1.at_=(x.get s 0).at_:=by
  unfold Nd.grow
  split
  ·exact⟨(q0n _).1,(q0n _).2.2.2.2⟩
  ·exact⟨rfl,rfl⟩
 have h1:=h.node hs (show 0<2 by omega) (d:=((x.get s 0).grow c).1) (ms:=((x.get s 0).grow c).2) hgid.1 hgid.2 (fun e _ a ha hk=>by
  rw[q3e] at ha
  rcases List.mem_append.1 ha with ha|ha
  ·subst e;exact h.lgp a ha hk
  ·rw[List.mem_singleton] at ha;subst ha;exact hc e hk)
 refine⟨_,h1,?_⟩
 have hge:(((x.set s 0 ((x.get s 0).grow c).1).send ((x.get s 0).grow c).2).get s 0).log=(x.get s 0).log++[c]:=by
  have e:((x.set s 0 ((x.get s 0).grow c).1).send ((x.get s 0).grow c).2).get s 0=(x.set s 0 ((x.get s 0).grow c).1).get s 0:=by unfold Cs.get Cs.send;split <;> rfl
  rw[e,q9a x _ hs hs (by omega) (by omega),if_pos ⟨rfl,rfl⟩,q3e]
 have hdn:(((H.setNd s 0 ((x.get s 0).grow c).1).send ((x.get s 0).grow c).2).sh s).done=(x.get s 0).log.length:=by
  show((H.setNd s 0 _).sh s).done=_
  rw[q0t]
  show(H.sh s).done=_
  rw[h.done s hs,hd]
 unfold Hs.add
 rw[hnd,hadd]
 rw[if_neg (by simp)]
 have htk:((H.setNd s 0 ((x.get s 0).grow c).1).send ((x.get s 0).grow c).2).take s=((H.setNd s 0 ((x.get s 0).grow c).1).send ((x.get s 0).grow c).2).taken s ((x.get s 0).log++[c]) (x.get s 0).log.length c:=by
  unfold Hs.take
  rw[h1.head hs]
  simp only
  rw[h1.nd s 0 hs (by omega),hge,hdn]
  rw[show((x.get s 0).log++[c]).length-(x.get s 0).log.length=0+1 by simp]
  rw[q8s hdn (c:=c) (by simp)]
  rfl
 simp only[htk]
end
section
variable {x y:Cs} {H:Hs}
theorem SimH.time' (h:SimH x H):(H.tx 1).time=x.time:=by rw[h.tx]
theorem SimH.setS (h:SimH x H) {s:Nat} (hs:s<3) {T:Tb} {K:Kp} (n:Nat) (lk st:Bool) (hT:T=if s=1∧lk=true then tabA else fun _=>none) (hK:K=if s=1∧st=true then stoA else fun _=>[]) (ho:s≠1→lk=x.lk∧st=x.st):SimH { x.setDn s n with lk:=lk,st:=st } (H.setSh s { H.sh s with tab:=T,sto:=K,done:=n }):=by
 have h2:=h.setDn hs n
 have key:∀ (t:Nat),(H.setSh s { H.sh s with tab:=T,sto:=K,done:=n }).sh t=if t=s then { H.sh s with tab:=T,sto:=K,done:=n } else H.sh t:=fun t=>rfl
 have key2:∀ (t:Nat),(H.setSh s { H.sh s with done:=n }).sh t=if t=s then { H.sh s with done:=n } else H.sh t:=fun t=>rfl
 have hg:∀ t j,({ x.setDn s n with lk:=lk,st:=st } : Cs).get t j=(x.setDn s n).get t j:=fun t j=>by unfold Cs.get;split <;> rfl
 have hd:∀ t,({ x.setDn s n with lk:=lk,st:=st } : Cs).dn t=(x.setDn s n).dn t:=fun t=>by unfold Cs.dn;split <;> rfl
 obtain⟨f1,f2,f3,f4,f5,f6⟩:=q6i x s n
 refine⟨h2.n,h2.c,h2.m,fun t i ht hi=>?_,fun t ht=>?_,fun t ht=>?_,fun t ht=>?_,fun t ht=>?_,fun t ht=>?_,h2.net,h2.time,h2.tx,fun t i ht hi=>by rw[hg];exact h2.ids t i ht hi,fun t ht=>by rw[hg];exact h2.heads t ht,fun t ht=>by rw[hg];exact h2.heads1 t ht,by rw[hg];exact h2.lgp⟩
 ·rw[hg,key];have:=h2.nd t i ht hi;rw[key2] at this;(by_cases e:t=s <;> simp only[e,if_true,if_false] at this ⊢ <;> exact this)
 ·rw[key];have:=h2.dead t ht;rw[key2] at this;(by_cases e:t=s <;> simp only[e,if_true,if_false] at this ⊢ <;> exact this)
 ·rw[key];have:=h2.epoch t ht;rw[key2] at this;(by_cases e:t=s <;> simp only[e,if_true,if_false] at this ⊢ <;> exact this)
 ·rw[key];split
  ·rename_i e;subst e;exact hT
  ·rename_i e;by_cases e1:s=1
   ·have e2:¬t=1:=fun e3=>e (e3.trans e1.symm)
    have:=h.tab t ht
    rw[if_neg (by simp[e2])] at this ⊢;exact this
   ·rw[(ho e1).1];exact h.tab t ht
 ·rw[key];split
  ·rename_i e;subst e;exact hK
  ·rename_i e;by_cases e1:s=1
   ·have e2:¬t=1:=fun e3=>e (e3.trans e1.symm)
    have:=h.sto t ht
    rw[if_neg (by simp[e2])] at this ⊢;exact this
   ·rw[(ho e1).2];exact h.sto t ht
 ·rw[hd,key];have:=h2.done t ht;rw[key2] at this;(by_cases e:t=s <;> simp only[e,if_true,if_false] at this ⊢ <;> exact this)
theorem taken2 {H:Hs} {s i:Nat} {l:List Cm} {c:Cm} (hk:c.kind=2):H.taken s l i c=H.setSh s { H.sh s with tab:=prepT (H.sh s).tab c.tx c.writes,done:=i+1 }:=by
 unfold Hs.taken Hs.take1
 rw[if_pos hk,q2c,q0d]
theorem taken3 {H:Hs} {s i:Nat} {l:List Cm} {c:Cm} (hk:c.kind=3) (hg:∀ o y,¬grB (H.sh s).tab c.tx o y):H.taken s l i c=H.setSh s { H.sh s with tab:=relT (H.sh s).tab c.tx,sto:=commK (H.sh s).sto (l.take i) c,done:=i+1 }:=by
 unfold Hs.taken Hs.take1
 rw[if_neg (by omega),if_pos hk]
 unfold Hs.rel
 rw[granted_same _ (by rw[q0d];exact hg),q2c,q0d,q2c,q0d]
theorem SimH.tell1 (h:SimH x H) (hc:ctell x=some y):SimH y (Hs.tell1 1 3 H 1):=by
 have hnd:=h.nd 1 0 (by omega) (by omega)
 unfold Hs.tell1
 rw[h.head (by omega)]
 simp only
 rw[hnd]
 unfold ctell at hc
 by_cases e:place (x.get 1 0).log 3 1=none∧place (x.get 1 0).log 2 1≠none
 ·rw[if_pos (by simpa using e)]
  rw[if_pos (by simp[e.1,Option.isSome_iff_ne_none,e.2])] at hc
  split at hc
  ·rename_i g
   simp only[Bool.and_eq_true,Bool.not_eq_true',beq_iff_eq] at g
   obtain⟨⟨⟨⟨g1,g2⟩,g3⟩,g4⟩,g5⟩:=g
   injection hc with hc
   rw[if_pos trivial,h.time',g4]
   rw[g4] at hc
   obtain⟨H1,hs,ha⟩:=h.grow (s:=1) (by omega) ⟨3,1,1,[]⟩ false g1 (fun _ e=>by simp at e)
   rw[show((1:Nat):Int)=1 from rfl,ha]
   obtain⟨c0,hl⟩:∃ c0,(x.get 1 0).log=[c0]∧c0.kind=2:=by
    unfold onePrep at g5
    split at g5
    ·rename_i c0 el;exact⟨c0,el,by simpa using g5⟩
    ·cases g5
   obtain⟨hl,hk⟩:=hl
   have h0:c0=prepC:=h.lgp c0 (by rw[hl];exact List.mem_singleton.2 rfl) hk
   subst h0
   obtain⟨f1,f2,f3,f4,f5,f6⟩:=q5t x 1 0 ((x.get 1 0).grow ⟨3,1,1,[]⟩).1
   have htab:(H1.sh 1).tab=tabA:=by
    rw[hs.tab 1 (by omega),if_pos ⟨rfl,f5.trans g2⟩]
   have hsto:(H1.sh 1).sto=fun _=>[]:=by
    rw[hs.sto 1 (by omega),if_neg]
    rintro ⟨_,e2⟩
    rw[show((x.set 1 0 ((x.get 1 0).grow ⟨3,1,1,[]⟩).1).send ((x.get 1 0).grow ⟨3,1,1,[]⟩).2).st=x.st from f6,g3] at e2
    cases e2
   rw[taken3 (c:=⟨3,1,1,[]⟩) rfl (by rw[htab];exact grB_tabA),htab,hsto]
   subst hc
   refine hs.setS (by omega) _ false true (by rw[if_neg (by simp)];exact rel_tabA) ?_ (fun e=>absurd rfl e)
   rw[if_pos ⟨rfl,rfl⟩,hl]
   rfl
  ·cases hc
 ·rw[if_neg (by simpa using e)]
  rw[if_neg (by simpa [Option.isSome_iff_ne_none] using e)] at hc
  injection hc with hc
  rw[← hc];exact h
theorem SimH.tells (h:SimH x H) (hc:ctell x=some y):SimH y (H.tells 1 3):=by
 unfold Hs.tells
 rw[h.comes]
 exact h.tell1 hc
theorem SimH.setT' (h:SimH x H) (st:Int) (pl:Option Int) (t:Txn) (ht:t=⟨st,[prA],setF (fun _=>none) 1 1,fun k=>if k=1 then pl else none,x.time,[]⟩):SimH { x with state:=st,pl:=pl } (H.setTx 1 t):=by
 have:=h.setT st x.time pl t { H.setTx 1 t with time:=x.time } ht rfl
 have e:({ H.setTx 1 t with time:=x.time } : Hs)=H.setTx 1 t:=by rw[← h.time];rfl
 rw[e] at this
 exact this
theorem SimH.commit (h:SimH x H) {l:List (Cs×Bool)} (hc:ccommit x=some l):∃ p∈l,SimH p.1 (H.commit 1)∧p.2=true:=by
 unfold ccommit at hc
 cases h1:ctell { x with state:=3 } with
 | none=>rw[h1] at hc;cases hc
 | some y=>
  rw[h1] at hc
  injection hc with hc
  subst hc
  refine⟨_,List.mem_singleton.2 rfl,?_,rfl⟩
  have h2:=h.setT' 3 x.pl { H.tx 1 with state:=3 } (by rw[h.tx])
  exact h2.tells h1
theorem SimH.dec1 (h:SimH x H) (at_:Nat) {l:List (Cs×Bool)} (hc:cdec1 x at_=some l):∃ p∈l,SimH p.1 (if H.stable 2 0≤at_ then(H,false) else(H.commit 1,true)).1∧p.2=(if H.stable 2 0≤at_ then(H,false) else(H.commit 1,true)).2:=by
 unfold cdec1 at hc
 have e:H.stable 2 0=x.stb 2:=by unfold Hs.stable Cs.stb;rw[h.nd 2 0 (by omega) (by omega)]
 rw[e]
 split at hc
 ·rename_i g
  rw[if_pos g]
  injection hc with hc
  subst hc
  exact⟨_,List.mem_singleton.2 rfl,h,rfl⟩
 ·rename_i g
  rw[if_neg g]
  exact h.commit hc
theorem SimH.grow2 (h:SimH x H) (hok:x.ok 2=true) (hl:(x.get 2 0).log=[]) (b:Bool):∃ at_∈[0,1],SimH (x.grow 2 ⟨3,1,1,[]⟩) (H.add 2 0 ⟨3,1,1,[]⟩ b).2∧(H.add 2 0 ⟨3,1,1,[]⟩ b).1=((at_:Nat):Int):=by
 obtain⟨H1,hs,ha⟩:=h.grow (s:=2) (by omega) ⟨3,1,1,[]⟩ b hok (fun e _=>by omega)
 have htab:(H1.sh 2).tab=fun _=>none:=by rw[hs.tab 2 (by omega),if_neg (by omega)]
 have hsto:(H1.sh 2).sto=fun _=>[]:=by rw[hs.sto 2 (by omega),if_neg (by omega)]
 refine⟨if b then 1 else 0,by split <;> simp,?_,?_⟩
 ·rw[ha]
  rw[taken3 (c:=⟨3,1,1,[]⟩) rfl (by rw[htab];exact grB_none _),htab,hsto,rel_none,show commK (fun _=>[]) (List.take (x.get 2 0).log.length ((x.get 2 0).log++[(⟨3,1,1,[]⟩:Cm)])) ⟨3,1,1,[]⟩=fun _=>[] by rw[hl];rfl]
  exact hs.setS (s:=2) (by omega) ((x.get 2 0).log.length+1) x.lk x.st (by rw[if_neg (by omega)]) (by rw[if_neg (by omega)]) (fun _=>⟨rfl,rfl⟩)
 ·rw[ha,hl]
  cases b <;> rfl
theorem SimH.dec (h:SimH x H) {l:List (Cs×Bool)} (hc:cdec x true=some l) (b:Bool):∃ p∈l,SimH p.1 (H.decides 1 b).1∧p.2=(H.decides 1 b).2:=by
 unfold cdec at hc
 rw[if_pos rfl] at hc
 have hnd:=h.nd 2 0 (by omega) (by omega)
 unfold Hs.decides
 rw[h.head (by omega)]
 simp only
 rw[hnd]
 cases hp:place (x.get 2 0).log 3 1 with
 | some p=>
  rw[hp] at hc
  exact h.dec1 p hc
 | none=>
  rw[hp] at hc
  simp only at hc ⊢
  split at hc
  ·rename_i g
   simp only[Bool.and_eq_true,beq_iff_eq,List.isEmpty_iff] at g
   obtain⟨⟨g1,g2⟩,g3⟩:=g
   have ht:H.timed 1 = { H.setTx 1 { H.tx 1 with time:=1 } with time:=1 }:=by
    unfold Hs.timed
    rw[h.time',if_pos g3,h.time,g3,show wrap64 (0+1)=1 by unfold wrap64;decide]
   have h2:SimH { x with time:=1 } (H.timed 1):=h.setT x.state 1 x.pl _ _ (by rw[h.tx]) ht
   have hok:({ x with time:=1 } : Cs).ok 2=true:=g1
   obtain⟨at_,hat,h3,h4⟩:=h2.grow2 hok g2 b
   rw[h2.time',show((1:Nat):Int)=1 from rfl]
   rw[h4,if_neg (by omega)]
   obtain⟨a,ha,hb⟩:=q2m hc hat
   obtain⟨p,hp,hs⟩:=h3.dec1 at_ ha
   refine⟨p,hb p hp,?_⟩
   exact hs
  ·cases hc
theorem SimH.grow1 (h:SimH x H) (hok:x.ok 1=true) (hk:x.lk=true) (hl:(x.get 1 0).log=[]) (b:Bool):∃ at_∈[0,1],SimH (x.grow 1 prepC) (H.add 1 0 prepC b).2∧(H.add 1 0 prepC b).1=((at_:Nat):Int):=by
 obtain⟨H1,hs,ha⟩:=h.grow (s:=1) (by omega) prepC b hok (fun _ _=>rfl)
 obtain⟨f1,f2,f3,f4,f5,f6⟩:=q5t x 1 0 ((x.get 1 0).grow prepC).1
 have htab:(H1.sh 1).tab=tabA:=by rw[hs.tab 1 (by omega),if_pos ⟨rfl,f5.trans hk⟩]
 have hp:prepT tabA prepC.tx prepC.writes=tabA:=lock_again
 refine⟨if b then 1 else 0,by split <;> simp,?_,?_⟩
 ·rw[ha,taken2 (c:=prepC) rfl,htab,hp]
  have e6:((x.set 1 0 ((x.get 1 0).grow prepC).1).send ((x.get 1 0).grow prepC).2).st=x.st:=f6
  have hS:(H1.sh 1).sto=if 1=1∧x.st=true then stoA else fun _=>[]:=by rw[hs.sto 1 (by omega)];simp only[e6]
  have h2:=hs.setS (s:=1) (by omega) (T:=tabA) (K:=(H1.sh 1).sto) ((x.get 1 0).log.length+1) x.lk x.st (by rw[hk,if_pos ⟨rfl,rfl⟩]) hS (fun e=>absurd rfl e)
  have e:({ ((x.set 1 0 ((x.get 1 0).grow prepC).1).send ((x.get 1 0).grow prepC).2).setDn 1 ((x.get 1 0).log.length+1) with lk:=x.lk,st:=x.st } : Cs)=x.grow 1 prepC:=rfl
  rw[e] at h2
  exact h2
 ·rw[ha,hl]
  cases b <;> rfl
theorem SimH.place (h:SimH x H) (p:Int):SimH { x with pl:=some p } (H.putPlace 1 1 p):=by
 unfold Hs.putPlace
 refine h.setT' x.state (some p) _ ?_
 rw[h.tx]
 have e:setF (fun k=>if k=1 then x.pl else none) 1 p=fun k=>if k=1 then some p else none:=by
  funext k;unfold setF;by_cases e:k=1 <;> simp[e]
 show(⟨_,_,_,setF (fun k=>if k=1 then x.pl else none) 1 p,_,_⟩:Txn)=_
 rw[e]
theorem SimH.settle1 (h:SimH x H) {l:List (Cs×Bool)} (hc:q4f x=some l) (b:Nat→Bool):∃ p∈l,SimH p.1 (H.settle1 1 b).1∧p.2=(H.settle1 1 b).2:=by
 unfold q4f at hc
 have hst:(H.tx 1).state=x.state:=by rw[h.tx]
 unfold Hs.settle1
 rw[hst]
 split at hc
 ·rename_i g
  rw[if_pos g]
  have fin:∀ (y:Cs) (H2:Hs) (a:Bool),SimH y H2→∀ {l:List (Cs×Bool)},cdec y a=some l→∃ p∈l,SimH p.1 (match some (true && a) with|none=>(H2,true)|some false=>(H2,false)|some true=>H2.decides 1 (b 2)).1∧p.2=(match some (true && a) with|none=>(H2,true)|some false=>(H2,false)|some true=>H2.decides 1 (b 2)).2:=fun y H2 a h2 l hc=>by
   cases a with
   | true=>exact h2.dec hc (b 2)
   | false=>
    unfold cdec at hc
    rw[if_neg (by simp)] at hc
    injection hc with hc
    subst hc
    exact⟨_,List.mem_singleton.2 rfl,h2,rfl⟩
  have hnd:=h.nd 1 0 (by omega) (by omega)
  unfold Hs.ends
  rw[h.comes]
  unfold Hs.endsL Hs.end1
  rw[h.head (s:=1) (by omega)]
  simp only
  rw[hnd]
  cases hp:Go.Proofs.YtccahlhdifadfaaGreatDoor.place (x.get 1 0).log 2 1 with
  | some p=>
   rw[hp] at hc
   simp only at hc ⊢
   simp only[Hs.endsL]
   have e:H.stable 1 0=x.stb 1:=by unfold Hs.stable Cs.stb;rw[hnd]
   rw[e]
   exact fin _ _ _ (h.place p) hc
  | none=>
   rw[hp] at hc
   simp only at hc ⊢
   split at hc
   ·rename_i g2
    simp only[Bool.and_eq_true,beq_iff_eq,List.isEmpty_iff] at g2
    obtain⟨⟨⟨⟨g3,g4⟩,g5⟩,g6⟩,g7⟩:=g2
    have hc1:¬((H.tx 1).time > 0∨((H.tx 1).shards ((1:Nat):Int)).getD 0≠(H.sh 1).epoch∨((H.tx 1).places ((1:Nat):Int)).getD 0≥0):=by
     rw[h.tx,h.epoch 1 (by omega)]
     simp[g3,g4,setF]
    have hof:(H.tx 1).of 1=[prA]:=by rw[h.tx];rfl
    have hadd:H.add 1 0 ⟨2,((1:Nat):Int),0,(H.tx 1).of 1⟩ (b 1)=H.add 1 0 prepC (b 1):=by rw[hof];rfl
    obtain⟨at_,hat,h3,h4⟩:=h.grow1 g5 g6 g7 (b 1)
    obtain⟨a,ha,hb⟩:=q2m hc hat
    have e:(H.add 1 0 prepC (b 1)).2.stable 1 0=(x.grow 1 prepC).stb 1:=by unfold Hs.stable Cs.stb;rw[h3.nd 1 0 (by omega) (by omega)]
    obtain⟨p,hp,hs⟩:=fin _ _ _ (h3.place at_) ha
    refine⟨p,hb p hp,?_⟩
    simp only[if_neg hc1,hadd,h4,e,show ¬((at_:Int)<0) by omega,if_false]
    simp only[Hs.endsL]
    exact hs
   ·cases hc
 ·rename_i g
  rw[if_neg g]
  split at hc
  ·rename_i g2
   rw[if_pos g2]
   cases h1:ctell x with
   | none=>rw[h1] at hc;cases hc
   | some y=>
    rw[h1] at hc
    injection hc with hc
    subst hc
    exact⟨_,List.mem_singleton.2 rfl,h.tells h1,rfl⟩
  ·cases hc
theorem SimH.round (h:SimH x H) {l:List (Cs×Bool)} (hc:q4f x=some l) (bs:Nat→Nat→Bool):∃ p∈l,SimH p.1 (Hs.round bs H.m 1 (H,false)).1∧p.2=(Hs.round bs H.m 1 (H,false)).2:=by
 rw[h.m]
 unfold Hs.round Hs.round
 simp only[Bool.or_false]
 exact h.settle1 hc (bs 1)
theorem SimH.settle {H':Hs} (r:q10 H H'):∀ {f:Nat} {x:Cs} {L:List Cs},SimH x H→q38 f x=some L→∃ y∈L,SimH y H':=by
 induction r with
 | @stop H bs hf=>
  intro f x L h hc
  cases f with
  | zero=>cases hc
  | succ f=>
   unfold q38 at hc
   cases h1:q4f x with
   | none=>rw[h1] at hc;cases hc
   | some l=>
    rw[h1] at hc
    obtain⟨p,hp,hs,he⟩:=h.round h1 bs
    obtain⟨a,ha,hb⟩:=q2m hc hp
    rw[hf] at he
    rw[he,if_neg (by simp)] at ha
    injection ha with ha
    exact⟨p.1,hb _ (by rw[← ha];exact List.mem_singleton.2 rfl),hs⟩
 | @more H H' bs hf _ ih=>
  intro f x L h hc
  cases f with
  | zero=>cases hc
  | succ f=>
   unfold q38 at hc
   cases h1:q4f x with
   | none=>rw[h1] at hc;cases hc
   | some l=>
    rw[h1] at hc
    obtain⟨p,hp,hs,he⟩:=h.round h1 bs
    obtain⟨a,ha,hb⟩:=q2m hc hp
    rw[hf] at he
    rw[he,if_pos rfl] at ha
    obtain⟨y,hy,hsy⟩:=ih hs ha
    exact⟨y,hb y hy,hsy⟩
end
end Go.Proofs.YtccahlhdifadfaaGreatDoor
