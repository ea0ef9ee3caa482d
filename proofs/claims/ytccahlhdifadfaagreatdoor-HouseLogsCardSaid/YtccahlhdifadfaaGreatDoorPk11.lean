/- Part 12 of the texts that the claim rests on (of 19): HfK, HfL, HfM, HfN, HfP, HfQ, Pd1, Pd2. -/
import Derived.Test.YtccahlhdifadfaaGreatDoorPk10
namespace Go.Proofs.YtccahlhdifadfaaGreatDoor
open Go.RowKit
set_option maxRecDepth 100000
set_option maxHeartbeats 16000000
theorem step_len (d:Nd) (m:Ms) (h:d.log.length≤500):(d.step m).2.length≤100000:=by
 rw[q9m]
 split
 ·simp
 ·split
  ·simp
  ·split
   ·simp;omega
   ·split
    ·unfold Nd.grow Nd.tick
     split
     ·split
      ·simp
      ·split
       ·split <;> simp
       ·simp
     ·simp
    ·split
     ·split <;> simp
     ·simp
theorem q6s {H:Hs} {id:Int} {s j:Nat} (h:H.node id=some (s,j)):s<3∧j<H.n∧(H.sh s).dead ((H.sh s).nd j).id=false∧((H.sh s).nd j).id=id:=by
 rw[node_eq] at h
 have h1:=List.mem_of_find?_eq_some h
 have h2:=List.find?_some h
 unfold q4q at h1
 obtain⟨a,ha,hb⟩:=List.mem_flatMap.1 h1
 obtain⟨b,hb3,e⟩:=List.mem_map.1 hb
 injection e with e1 e2
 subst e1 e2
 unfold Shd.liveIx at hb3
 obtain⟨hb1,hb2⟩:=List.mem_filter.1 hb3
 refine⟨?_,List.mem_range.1 hb1,by simpa using hb2,by simpa [isNd] using h2⟩
 simp at ha;omega
theorem Wf.take1 {H:Hs} (h:Wf H) (k:Nat):Wf ({ H with net:=takeS H.net k } : Hs):=
 h.of rfl rfl rfl rfl h.nd h.tab h.sto (fun _ _=>rfl) (fun m hm=>h.net m (List.mem_of_mem_eraseIdx hm)) rfl h.tx (fun _=>rfl)
theorem q1c {H:Hs} {m:Ms} (h:H.node m.to_=none):H.arrive m=H:=by unfold Hs.arrive;rw[h]
theorem q1b {H:Hs} {m:Ms} {s j:Nat} (h:H.node m.to_=some (s,j)):H.arrive m=((H.setNd s j (((H.sh s).nd j).step m).1).send (((H.sh s).nd j).step m).2).take s:=by unfold Hs.arrive;rw[h]
theorem Wf.stepped {H:Hs} (h:Wf H) (hc:H.c=3) {s j:Nat} (hs:s<3) (hj:j<H.n) {m:Ms} (hm:WfM m):Wf ((H.setNd s j (((H.sh s).nd j).step m).1).send (((H.sh s).nd j).step m).2):=by
 have h4:=h.n4
 obtain⟨h1,h2⟩:=wf_step (h.nd s j (by omega) hj) hs (by omega) hm
 exact(h.setNd h1).send h2
theorem Wf.arrive {H:Hs} (h:Wf H) (hc:H.c=3) {m:Ms} (hm:WfM m):Wf (H.arrive m):=by
 rcases e:H.node m.to_ with _|⟨s,j⟩
 ·rw[q1c e];exact h
 ·rw[q1b e]
  obtain⟨h1,h2,_⟩:=q6s e
  exact(h.stepped hc h1 h2 hm).take (show s<H.c by omega)
theorem arrive_c (H:Hs) (m:Ms):(H.arrive m).c=H.c:=by
 rcases e:H.node m.to_ with _|⟨s,j⟩
 ·rw[q1c e]
 ·rw[q1b e,(q0b.take _ s).c];rfl
def DelvP (P:Ptr) (own:Own) (H:Hs) (k:Nat) (w:World) (e:Ending) (w':World):Prop:=e=.returned .nilIface∧∃ H',q1t H k H'∧GsP P own H' w w'
def MsgAt (W:World) (b:Nat) (x:MsR):Prop:=W.cell? ⟨b,0,none⟩=some (.int .i64 x.m.kind)∧W.cell? ⟨b,1,none⟩=some (.int .i64 x.m.from_)∧W.cell? ⟨b,2,none⟩=some (.int .i64 x.m.to_)∧W.cell? ⟨b,3,none⟩=some (.int .i64 x.m.epoch)∧W.cell? ⟨b,4,none⟩=some (.int .i64 x.m.n)∧W.cell? ⟨b,5,none⟩=some (.int .i64 x.m.cmd.kind)∧W.cell? ⟨b,6,none⟩=some (.int .i64 x.m.cmd.tx)∧W.cell? ⟨b,7,none⟩=some (.int .i64 x.m.cmd.time)∧W.cell? ⟨b,8,none⟩=some (.slice x.A x.n x.k)∧b<W.heap.size
theorem msgAt {W:World} {b:Nat} {x:MsR} (h:Blk W b 116 #[.int .i64 x.m.kind,.int .i64 x.m.from_,.int .i64 x.m.to_,.int .i64 x.m.epoch,.int .i64 x.m.n,.int .i64 x.m.cmd.kind,.int .i64 x.m.cmd.tx,.int .i64 x.m.cmd.time,.slice x.A x.n x.k]):MsgAt W b x:=by
 have q0:=h.cell 0
 have q1:=h.cell 1
 have q2:=h.cell 2
 have q3:=h.cell 3
 have q4:=h.cell 4
 have q5:=h.cell 5
 have q6:=h.cell 6
 have q7:=h.cell 7
 have q8:=h.cell 8
 simp only[List.getElem?_toArray,List.getElem?_cons_zero,List.getElem?_cons_succ] at q0 q1 q2 q3 q4 q5 q6 q7 q8
 exact⟨q0,q1,q2,q3,q4,q5,q6,q7,q8,h.lt⟩
section
variable {w w':World} {own own':Own} {P:Ptr} {H:Hs}
theorem q87 (h:HI w own P H) (wf:Wf H) (hc:H.c=3) {k:Nat} (hk:k<H.net.l.length):Calls Tryz.prog 28 #[pw P.g,.int .i64 k] w (DelvP P own H k w):=by
 have HT:=LH (mtake_any h hk)
 obtain⟨vh,hvh⟩:=h.hs
 have gl:=hvh.cells.2.2.2.2
 have HWF:=LH wf
 clear h hvh hk wf
 unfold pw at *
 go_enter Tryz.func28,Tryz.ntmps28
 go_wp2_with fail
 refine HT.out.mono ?_
 rintro e w1 ⟨x,hx,rfl,hI1,hZ1,hO1,hxn,hxo⟩
 have hwx:WfM x.m:=HWF.out.net _ (List.mem_of_getElem? hx)
 have hwf1:=HWF.out.take1 k
 obtain⟨H1,hH1⟩:∃ H1:Hs,H1 = { H with net:=takeS H.net k }:=⟨_,rfl⟩
 rw[← hH1] at hI1 hwf1
 have hc1:H1.c=3:=by rw[hH1];exact hc
 have HDR:=LH (show ∀ H',q10 (H1.arrive x.m) H'→q1t H k H' from fun H' r=>.some hx (by rw[← hH1];exact r))
 have hbc:=(Below.refl w1.heap.size w1).alloc (Nat.le_refl _) (.cells #[.int .i64 x.m.kind,.int .i64 x.m.from_,.int .i64 x.m.to_,.int .i64 x.m.epoch,.int .i64 x.m.n,.int .i64 x.m.cmd.kind,.int .i64 x.m.cmd.tx,.int .i64 x.m.cmd.time,.slice x.A x.n x.k] 116)
 have hcb:=Blk.new w1 116 #[.int .i64 x.m.kind,.int .i64 x.m.from_,.int .i64 x.m.to_,.int .i64 x.m.epoch,.int .i64 x.m.n,.int .i64 x.m.cmd.kind,.int .i64 x.m.cmd.tx,.int .i64 x.m.cmd.time,.slice x.A x.n x.k]
 have HI2:=LH (hI1.below hbc)
 have HZ2:=LH ((hZ1.mono (fun _=>q6h)).trans (HZ.below own hbc):HStep w own _ own)
 have HND:=LH (node_any HI2.out hwf1 hc1 x.m.to_)
 have HCB:=LH hcb
 have HO2:=LH (show OwnW _ 0 x from⟨(q06 hbc).own hO1.1 (fun b hb (hs:w1.heap.size≤b)=>by have:=(hO1.1.lt b hb).2;omega),hO1.2⟩)
 have HOWN:=LH (show own w1.heap.size=none from by
  rcases e:own w1.heap.size with _|t
  ·rfl
  ·exact absurd (hI1.lt w1.heap.size (by rw[e];simp)) (Nat.lt_irrefl _))
 have HWX:=LH hwx
 have HW1:=LH hwf1
 unfold pw at HND
 unfold mrV msgV
 clear hx hI1 hZ1 hO1 hwx hwf1 hH1 hbc hcb HT hxo
 go_wp2_with fail
 refine HND.out.mono ?_
 rintro e w2 ⟨rfl,hb2⟩
 have HI3:=LH (HI2.out.below hb2)
 have HZ3:=LH (HZ2.out.trans (HZ.below own hb2))
 have HCB2:=LH ((q06 hb2).blk HCB.out (fun hs=>by have:=HCB.out.lt;omega))
 have HO3:=LH ((q06 hb2).own HO2.out.1 (fun b hb hs=>by have:=(HO2.out.1.lt b hb).2;omega))
 have HOL:=LH HO2.out.2
 clear hb2 HND HI2 HZ2 HCB HO2
 rcases hnd:H1.node x.m.to_ with _|⟨s,j⟩
 ·have HST:=LH (q3c HI3.out HW1.out hc1)
  have HDR2:=LH (show ∀ H',q10 H1 H'→q1t H k H' from fun H' r=>HDR.out H' (by rw[q1c hnd];exact r))
  unfold pw at HST
  unfold nodeV
  clear hnd
  go_wp2_with fail
  refine HST.out.mono ?_
  rintro e w3 ⟨rfl,H',hr,own4,hI4,hZ4⟩
  have HF:=LH (show DelvP P own H k w (.returned .nilIface) w3 from⟨rfl,H',HDR2.out H' hr,own4,hI4,HZ3.out.trans hZ4⟩)
  clear hr hI4 hZ4
  go_wp2_with fail
  go_ret
  exact HF.out
 ·obtain⟨hs3,hjn,_,_⟩:=q6s hnd
  have HAR:=LH (q1b hnd)
  have HWS:=LH (HW1.out.stepped hc1 hs3 hjn HWX.out)
  have HSTP:=LH (wf_step (HW1.out.nd s j (by omega) hjn) hs3 (show j<4 by have:=HW1.out.n4;omega) HWX.out)
  have hlog:((H1.sh s).nd j).log.length≤500:=by
   obtain⟨C,V,L,hN,_⟩:=HI3.out.nd s j (by omega) hjn
   rw[← hN.log];unfold csOf;rw[List.length_map];exact hN.len
  have HLEN:=LH (step_len _ x.m hlog)
  have hsc:s<H1.c:=by omega
  have HRD:=LH (show q1k w2.drew w2.drew.heap.size x.A x.n x.m.cmd.writes from⟨HOL.out,(Rd.of_own HO3.out).below (Below.refl _ _).drew⟩)
  have hxk:x.A=none→x.k=0:=own_none HO3.out
  have HSN:=LH (hstep_any (HI3.out.below (Below.refl w2.heap.size w2).drew) hsc hjn x.m x.A x.n x.k HRD.out hxk hxn)
  have HCC:=msgAt (show Blk w2.drew _ _ _ from HCB2.out)
  unfold pw at HSN
  unfold nodeV pw
  clear hnd hlog hxk
  go_upto_region 6 with (fail)
  refine wp_region_any (by kernel_rfl) ?_
  change wpAny _ _ _ _ _ _ _ (World.drew _)
  refine q0e (fun W=>MsgAt W w1.heap.size x) 6 (fun _ _ _ _ _ h=>h) (fun HQP=>?_)
  refine nA 0 [1,2,6] rfl rfl HQP HCC (fun w' hw'=>by go_simp;rfl) ?_
  refine nA 1 [2,6] rfl rfl HQP HCC (fun w' hw'=>by go_simp;rfl) ?_
  refine nA 2 [6] rfl rfl HQP HCC (fun w' hw'=>by go_simp;rfl) ?_
  refine nA 3 [5,6] rfl rfl HQP HCC (fun w' hw'=>by go_simp;rfl) ?_
  refine nA 4 [5,6] rfl rfl HQP HCC (fun w' hw'=>by obtain⟨p0,p1,p2,p3,p4,p5,p6,p7,p8,pl⟩:=hw';go_simp;rfl) ?_
  clear HCC
  refine nO 5 rfl (fun KK hK=>?_)
  go_simp
  refine HSN.out.mono ?_
  rintro e w3 ⟨V,rfl,ho,own3,hI3,hZ3,hnew⟩
  have hblk3:=hZ3.fr.blk (show Blk w2.drew w1.heap.size _ _ from HCB2.out) (fun hs=>hs.owned HOWN.out)
  have hq3:=msgAt hblk3
  have hsd:=q5d hI3 ho (fun q hq=>by rcases hnew q hq with e|e <;> (rw[e];simp)) HSTP.out.2 (HW1.out.setNd HSTP.out.1) HLEN.out
  have HSD:=LH hsd
  have HZ4:=LH (HZ3.out.trans ((HZ.below own (Below.refl w2.heap.size w2).drew).trans (hZ3.mono (fun _=>st_nd))))
  obtain⟨A,kk,M,rfl,_⟩:=ho
  unfold pw at HSD
  clear hsd hnew hI3 hZ3 hblk3 HSN
  go_simp
  refine hK _ _ (fun _=>hq3) ?_
  clear hK KK hq3
  refine nO 6 rfl (fun KK hK=>?_)
  go_simp
  refine HSD.out.mono ?_
  rintro e w4 ⟨d4,own4,rfl,hI4,hZ4⟩
  go_simp
  refine hK _ _ (fun h=>absurd h (by decide)) ?_
  clear hK KK
  refine ndone (by kernel_rfl) ?_ _
  clear HQP
  have HTK:=LH (q7z hI4 HWS.out (show s<_ from hsc))
  have HZ5:=LH (HZ4.out.trans (hZ4.mono (fun _=>q6h)))
  unfold pw at HTK
  clear hI4 hZ4 HSD
  go_wp2_with fail
  refine HTK.out.mono ?_
  rintro e w5 ⟨rfl,own5,hI5,hZ5⟩
  rw[← HAR.out] at hI5
  have HST:=LH (q3c hI5 (HW1.out.arrive hc1 HWX.out) ((arrive_c H1 x.m).trans hc1))
  have HZ6:=LH (HZ5.out.trans (hZ5.mono (fun _=>st_tk)))
  unfold pw at HST
  clear hI5 hZ5 HTK
  go_wp2_with fail
  refine HST.out.mono ?_
  rintro e w6 ⟨rfl,H',hr,own6,hI6,hZ6⟩
  have HF:=LH (show DelvP P own H k w (.returned .nilIface) w6 from⟨rfl,H',HDR.out H' hr,own6,hI6,HZ6.out.trans hZ6⟩)
  clear hr hI6 hZ6
  go_wp2_with fail
  go_ret
  exact HF.out
end
theorem tick_len (d:Nd):d.tick.2.length≤100000:=by
 unfold Nd.tick
 split
 ·simp
 ·split
  ·split <;> simp
  ·simp
theorem Wf.tickNd {H:Hs} (h:Wf H) (hc:H.c=3) {s j:Nat} (hs:s<3) (hj:j<H.n):Wf (H.tickNd s j):=by
 have h4:=h.n4
 obtain⟨h1,h2⟩:=q73 (h.nd s j (by omega) hj) hs (by omega)
 exact(h.setNd h1).send h2
noncomputable def tickds (s:Nat) (H:Hs) (l:List Nat):Hs:=l.foldl (Hs.tickNd s) H
theorem tickds_snoc {s:Nat} {H:Hs} {l:List Nat} {i j:Nat} (h:l[i]? = some j):tickds s H (l.take (i+1))=Hs.tickNd s (tickds s H (l.take i)) j:=by
 unfold tickds;rw[List.take_add_one,h,List.foldl_append];rfl
theorem q3h (s:Nat):∀ (l:List Nat) (H:Hs),(tickds s H l).n=H.n∧(tickds s H l).c=H.c∧(tickds s H l).m=H.m
 | [],_=>⟨rfl,rfl,rfl⟩
 | j::l,H=>q3h s l (Hs.tickNd s H j)
theorem Wf.tickds {s:Nat} (hs:s<3):∀ (l:List Nat) {H:Hs},Wf H→H.c=3→(∀ j∈l,j<H.n)→Wf (tickds s H l)
 | [],_,h,_,_=>h
 | j::l,H,h,hc,hl=>Wf.tickds hs l (H:=Hs.tickNd s H j) (h.tickNd hc hs (hl j (List.mem_cons_self ..))) hc (fun q hq=>hl q (List.mem_cons_of_mem _ hq))
noncomputable def tickd (H:Hs) (ss:List Nat):Hs:=ss.foldl Hs.tickSh H
theorem tickSh_eq (H:Hs) (s:Nat):H.tickSh s=tickds s H ((H.sh s).liveIx H.n):=rfl
theorem tickd_snoc {H:Hs} {ss:List Nat} {i s:Nat} (h:ss[i]? = some s):tickd H (ss.take (i+1))=(tickd H (ss.take i)).tickSh s:=by
 unfold tickd;rw[List.take_add_one,h,List.foldl_append];rfl
theorem q47:∀ (ss:List Nat) (H:Hs),(tickd H ss).n=H.n∧(tickd H ss).c=H.c∧(tickd H ss).m=H.m
 | [],_=>⟨rfl,rfl,rfl⟩
 | s::ss,H=>by
  obtain⟨a1,a2,a3⟩:=q3h s ((H.sh s).liveIx H.n) H
  obtain⟨b1,b2,b3⟩:=q47 ss (H.tickSh s)
  exact⟨b1.trans a1,b2.trans a2,b3.trans a3⟩
theorem Wf.tickd:∀ (ss:List Nat) {H:Hs},Wf H→H.c=3→(∀ s∈ss,s<3)→Wf (tickd H ss)
 | [],_,h,_,_=>h
 | s::ss,H,h,hc,hl=>by
  obtain⟨a1,a2,a3⟩:=q3h s ((H.sh s).liveIx H.n) H
  exact Wf.tickd ss (H:=H.tickSh s) (Wf.tickds (hl s (List.mem_cons_self ..)) _ h hc (fun j hj=>q36 hj)) (a2.trans hc) (fun q hq=>hl q (List.mem_cons_of_mem _ hq))
def TcRel (P:Ptr) (own:Own) (H:Hs) (w:World) (v:Value) (wr:World):Prop:=∃ q:Nat,v=.int .i64 q∧q≤3∧GsP P own (tickd H ([0,1,2].take q)) w wr
def TcIn (P:Ptr) (own:Own) (H:Hs) (s:Nat) (l:List Nat) (w:World) (v:Value) (wr:World):Prop:=∃ i:Nat,v=.int .i64 i∧i≤l.length∧GsP P own (tickds s H (l.take i)) w wr
def HTicksP (P:Ptr) (own:Own) (H:Hs) (w:World) (e:Ending) (w':World):Prop:=e=.returned (.tuple #[])∧∃ H',TickR H H'∧GsP P own H' w w'
section
variable {w w':World} {own own':Own} {P:Ptr} {H:Hs}
theorem HI.shRow (h:HI w own P H) (hc:H.c=3):∃ r k,(∃ v,HsI w own P H.c H.m H.net H.time v∧v.Vr=.slice (some ⟨r,0,none⟩) 3 k)∧∀ W own',HStep w own W own'→∀ s,s<3→W.cell? ⟨r,s,none⟩=some (pw (P.gs s))∧r<W.heap.size:=by
 obtain⟨v,hv⟩:=h.hs
 obtain⟨r,k,e,hr,_⟩:=hv.shAt (s:=0) (by omega)
 rw[hc] at e
 refine⟨r,k,⟨v,hv,e⟩,fun W own' hz s hs=>?_⟩
 have hrow:=hz.fr.own hv.shr (fun b hb hs=>(hs.tag (hv.shrt b hb)).2.1 rfl)
 rw[e,hc] at hrow
 obtain⟨g,c,e2,hg,u,hu,hcu⟩:=q2g hrow hs
 injection e2 with e2 _ _
 injection e2 with e2
 injection e2 with e2 _ _
 subst e2
 rw[List.getElem?_map,List.getElem?_range hs] at hu
 simp only[Option.map_some,Option.some.injEq] at hu
 exact⟨by rw[hcu,← hu],hg⟩
theorem htick_all (h:HI w own P H) (wf:Wf H) (hc:H.c=3):Calls Tryz.prog 31 #[pw P.g] w (HTicksP P own H w):=by
 have HH:=LH h
 have HWF:=LH wf
 have hn4:=wf.n4
 obtain⟨r3,k3,⟨vh,hvh,hVr⟩,hsh⟩:=h.shRow hc
 obtain⟨_,c3,_,_,gl⟩:=hvh.cells
 rw[hVr] at c3
 have HSH:=LH hsh
 clear h wf hvh hVr hsh
 unfold pw at *
 go_enter Tryz.func31,Tryz.ntmps31
 go_wp2_with fail
 clear c3
 go_loopw [11] (TcRel P own H w) (fun v _=>3-(intOf v).toNat)
 case atStart=>exact⟨0,rfl,Nat.zero_le _,own,HH.out,HZ.refl _ _ _⟩
 case round=>
  obtain⟨q,rfl,hq,own2,hI2,hZ2⟩:=hrel
  by_cases hlt:(q:Int)<3
  ·obtain⟨hcs,hrl⟩:=HSH.out wr own2 hZ2 q (by omega)
   have hss:([0,1,2]:List Nat)[q]? = some q:=by
    have:q=0∨q=1∨q=2:=by omega
    rcases this with rfl|rfl|rfl <;> rfl
   have HSN:=LH (tickd_snoc (H:=H) hss)
   have hsm:=q47 ([0,1,2].take q) H
   have hwf2:Wf (tickd H ([0,1,2].take q)):=HWF.out.tickd _ hc (fun s hs=>by have:=List.mem_of_mem_take hs;simp at this;omega)
   have hc2:(tickd H ([0,1,2].take q)).c=3:=hsm.2.1.trans hc
   have hn2:(tickd H ([0,1,2].take q)).n≤4:=by rw[hsm.1];exact hn4
   clear hsm hss
   generalize tickd H ([0,1,2].take q)=H2 at *
   have HL:=LH (q43 hI2 hwf2 (s:=q) (by omega))
   have HTS:=LH (tickSh_eq H2 q)
   have hll:=q1r (H2.sh q) H2.n
   have HM:=LH (fun j (hj:j∈(H2.sh q).liveIx H2.n)=>q36 hj)
   have HI2:=LH hI2
   have HZ2:=LH hZ2
   have HW2:=LH hwf2
   unfold LiveP pw at HL
   clear hI2 hZ2 hwf2
   generalize (H2.sh q).liveIx H2.n=l at *
   go_wp2_with fail
   refine HL.out.mono ?_
   rintro e w1 ⟨V,rfl,hrow,hb1⟩
   obtain⟨A,c,rfl,_,_⟩:=q01 hrow
   have HROW:=LH hrow
   have HH1:=LH (HI2.out.below hb1)
   have HZ1:=LH (HZ2.out.trans (HZ.below own2 hb1))
   have HFREE:=LH (fun b (hb:(Value.slice A l.length c).ownBlock=some b)=>HI2.out.free (hrow.lt b hb).1)
   clear hrow hb1 HL hcs hrl HI2 HZ2
   go_wp2_with fail
   go_loopw [18] (TcIn P own2 H2 q l w1) (fun v _=>l.length-(intOf v).toNat)
   case atStart=>exact⟨0,rfl,Nat.zero_le _,own2,HH1.out,HZ.refl _ _ _⟩
   case round=>
    obtain⟨i,rfl,hi,own3,hI3,hZ3⟩:=hrel
    by_cases hli:(i:Int)<l.length
    ·have hin:i<l.length:=by omega
     have hi4:i≤4:=by omega
     obtain⟨r,c',hV,hr,u,hu,hcu⟩:=q2g (q1x HROW.out HFREE.out hZ3) (k:=i) hin
     injection hV with hA _ hcp
     subst hA hcp
     have hx:l[i]? = some l[i]:=List.getElem?_eq_getElem hin
     rw[List.getElem?_map,hx] at hu
     simp only[Option.map_some,Option.some.injEq] at hu
     subst hu
     have hjn:=HM.out l[i] (List.getElem_mem hin)
     have HS1:=LH (tickds_snoc (s:=q) (H:=H2) hx)
     have hsm:=q3h q (l.take i) H2
     have hwf3:Wf (tickds q H2 (l.take i)):=HW2.out.tickds (by omega) _ hc2 (fun j hj=>HM.out j (List.mem_of_mem_take hj))
     have hc3:(tickds q H2 (l.take i)).c=3:=hsm.2.1.trans hc2
     have hjn3:l[i]<(tickds q H2 (l.take i)).n:=by rw[hsm.1];exact hjn
     clear hsm hx hjn
     generalize l[i]=j at *
     generalize tickds q H2 (l.take i)=H3 at *
     have HT:=LH (htick_any (hI3.below (Below.refl wr.heap.size wr).drew) (show q<H3.c by omega) hjn3)
     have hwt:=q73 (hwf3.nd q j (by omega) hjn3) (show q<3 by omega) (show j<4 by have:=hwf3.n4;omega)
     have HWT:=LH hwt
     have HW3:=LH hwf3
     have HZ3:=LH (hZ3.trans (HZ.below own3 (Below.refl wr.heap.size wr).drew))
     unfold pw at HT
     clear hI3 hZ3 hwt hwf3
     go_upto_region 6 with (fail)
     clear hcu
     refine wp_region_any (by kernel_rfl) ?_
     change wpAny _ _ _ _ _ _ _ (World.drew _)
     refine q0e (fun _=>True) 5 (fun _ _ _ _ _ h=>h) (fun HQP=>?_)
     have HCC:=True.intro
     refine nA 0 [1,2,5] rfl rfl HQP HCC (fun w' hw'=>by go_simp;rfl) ?_
     refine nA 1 [2,5] rfl rfl HQP HCC (fun w' hw'=>by go_simp;rfl) ?_
     refine nA 2 [5] rfl rfl HQP HCC (fun w' hw'=>by go_simp;rfl) ?_
     refine nA 3 [4,5] rfl rfl HQP HCC (fun w' hw'=>by go_simp;rfl) ?_
     clear HCC
     refine nO 4 rfl (fun KK hK=>?_)
     go_simp
     refine HT.out.mono ?_
     rintro e w3 ⟨V,rfl,ho,own4,hI4,hZ4,hnew⟩
     have hsd:=q5d hI4 ho (fun q hq=>by rcases hnew q hq with e|e <;> (rw[e];simp)) HWT.out.2 (HW3.out.setNd HWT.out.1) (tick_len _)
     have HSD:=LH hsd
     have HZ4:=LH (HZ3.out.trans (hZ4.mono (fun _=>st_nd)))
     obtain⟨A,kk,M,rfl,_⟩:=ho
     unfold pw at HSD
     clear hsd hnew hI4 hZ4 HT
     go_simp
     refine hK _ _ (fun _=>True.intro) ?_
     clear hK KK
     refine nO 5 rfl (fun KK hK=>?_)
     go_simp
     refine HSD.out.mono ?_
     rintro e w4 ⟨d4,own5,rfl,hI5,hZ5⟩
     go_simp
     refine hK _ _ (fun h=>absurd h (by decide)) ?_
     clear hK KK
     refine ndone (by kernel_rfl) ?_ _
     clear HQP
     have HR:=LH (show TcIn P own2 H2 q l w1 (.int .i64 ((i+1:Nat):Int)) w4 from⟨i+1,rfl,by omega,own5,by rw[HS1.out];exact hI5,HZ4.out.trans (hZ5.mono (fun _=>q6h))⟩)
     clear hI5 hZ5 HSD
     go_wp2_with fail
     go_roundw
     case rel=>exact HR.out
     case measure=>simp[intOf];omega
    ·obtain rfl:i=l.length:=by omega
     rw[List.take_length,← HTS.out] at hI3
     have HR:=LH (show TcRel P own H w (.int .i64 ((q+1:Nat):Int)) wr from⟨q+1,rfl,by omega,own3,by rw[HSN.out];exact hI3,HZ1.out.trans hZ3⟩)
     clear hI3 hZ3
     go_wp2_with fail
     go_roundw
     case rel=>exact HR.out
     case measure=>simp[intOf];omega
  ·obtain rfl:q=3:=by omega
   have hwf2:Wf H.ticks:=HWF.out.tickd _ hc (fun s hs=>by simp at hs;omega)
   have HST:=LH (q3c (show HI wr own2 P H.ticks from hI2) hwf2 ((q47 _ H).2.1.trans hc))
   have HZ3:=LH hZ2
   unfold pw at HST
   clear hI2 hwf2 hZ2
   go_wp2_with fail
   refine HST.out.mono ?_
   rintro e w3 ⟨rfl,H',hr,own3,hI3,hZ3⟩
   have HF:=LH (show HTicksP P own H w (.returned (.tuple #[])) w3 from⟨rfl,H',hr,own3,hI3,HZ3.out.trans hZ3⟩)
   clear hr hI3 hZ3
   go_wp2_with fail
   go_end0
   exact HF.out
end
structure Sz (H H':Hs):Prop where
 n:H'.n=H.n
 c:H'.c=H.c
 m:H'.m=H.m
theorem Sz.refl (H:Hs):Sz H H:=⟨rfl,rfl,rfl⟩
theorem Sz.trans {a b c:Hs} (h:Sz a b) (k:Sz b c):Sz a c:=⟨k.n.trans h.n,k.c.trans h.c,k.m.trans h.m⟩
theorem Sm.sz {H H':Hs} (h:Sm H H'):Sz H H':=⟨h.n,h.c,h.m⟩
theorem arrive_sz (H:Hs) (m:Ms):Sz H (H.arrive m):=by
 rcases e:H.node m.to_ with _|⟨s,j⟩
 ·rw[q1c e];exact Sz.refl H
 ·rw[q1b e]
  have h:=q0b.take ((H.setNd s j (((H.sh s).nd j).step m).1).send (((H.sh s).nd j).step m).2) s
  exact⟨h.n,h.c,h.m⟩
theorem TickR.wf {H H':Hs} (h:TickR H H') (wf:Wf H) (hc:H.c=3):Wf H'∧Sz H H':=by
 obtain⟨a1,a2,a3⟩:=q47 [0,1,2] H
 have w1:Wf H.ticks:=wf.tickd _ hc (fun s hs=>by simp at hs;omega)
 have c1:H.ticks.c=3:=a2.trans hc
 exact⟨Wf.settle h w1 c1,Sz.trans ⟨a1,a2,a3⟩ (Sm.settle h).sz⟩
theorem q1t.wf {H H':Hs} {k:Nat} (h:q1t H k H') (wf:Wf H) (hc:H.c=3):Wf H'∧Sz H H':=by
 cases h with
 | none h=>exact⟨wf,Sz.refl _⟩
 | @some m hm _ r=>
  have w1:=(wf.take1 k).arrive (show(({ H with net:=takeS H.net k } : Hs)).c=3 from hc) (wf.net _ (List.mem_of_getElem? hm))
  have s1:=arrive_sz ({ H with net:=takeS H.net k } : Hs) m
  exact⟨Wf.settle r w1 (s1.c.trans hc),Sz.trans ⟨s1.n,s1.c,s1.m⟩ (Sm.settle r).sz⟩
def CalmP (P:Ptr) (own:Own) (H:Hs) (w:World) (e:Ending) (w':World):Prop:=e=.returned (.tuple #[])∧∃ H',CalmR 4 H H'∧GsP P own H' w w'∧Wf H'∧Sz H H'
def CaRel (P:Ptr) (own:Own) (H:Hs) (w:World) (v:Value) (wr:World):Prop:=∃ (q:Nat) (H2:Hs),v=.int .i64 q∧q≤4∧GsP P own H2 w wr∧Wf H2∧Sz H H2∧∀ H',CalmR (4-q) H2 H'→CalmR 4 H H'
def CaIn (P:Ptr) (own:Own) (H1:Hs) (w:World) (v:Value) (wr:World):Prop:=∃ (n:Nat) (H3:Hs),v=.int .i64 n∧n≤5000∧GsP P own H3 w wr∧Wf H3∧Sz H1 H3∧∀ H',q4k (5000-n) H3 H'→q4k 5000 H1 H'
section
variable {w w':World} {own own':Own} {P:Ptr} {H:Hs}
theorem mmany_any (h:HI w own P H):Calls Tryz.prog 39 #[pw P.g] w fun e w'=>e=.returned (.int .i64 H.net.l.length)∧w=w':=by
 obtain⟨v,hv⟩:=h.hs
 have hmL:v.L.length=H.net.l.length:=by rw[← hv.msgs];unfold msOf;rw[List.length_map]
 rw[← hmL]
 exact many_any _ _ _ _ _ _ _ _ _ _ _ _ hv.nt
theorem calm_any (h:HI w own P H) (wf:Wf H) (hc:H.c=3):Calls Tryz.prog 15 #[pw P.g] w (CalmP P own H w):=by
 have HH:=LH h
 have HWF:=LH wf
 clear h wf
 unfold pw at *
 go_enter Tryz.func15,Tryz.ntmps15
 go_wp2_with fail
 go_loopw [3] (CaRel P own H w) (fun v _=>4-(intOf v).toNat)
 case atStart=>exact⟨0,H,rfl,Nat.zero_le _,⟨own,HH.out,HZ.refl _ _ _⟩,HWF.out,Sz.refl H,fun _ h=>h⟩
 case round=>
  obtain⟨q,H2,rfl,hq,⟨own2,hI2,hZ2⟩,hW2,hS2,hC2⟩:=hrel
  by_cases hlt:(q:Int)<4
  ·have hc2:H2.c=3:=hS2.c.trans hc
   have HT:=LH (htick_all hI2 hW2 hc2)
   have HZ2:=LH hZ2
   have HW2:=LH hW2
   have HS2:=LH hS2
   have HC2:=LH hC2
   unfold pw at HT
   clear hI2 hZ2 hW2 hS2 hC2
   go_wp2_with fail
   refine HT.out.mono ?_
   rintro e w1 ⟨rfl,H1,htk,own1,hI1,hZ1⟩
   obtain⟨hw1,hs1⟩:=TickR.wf htk HW2.out hc2
   have hc1:H1.c=3:=hs1.c.trans hc2
   have HI1:=LH hI1
   have HZ1:=LH (HZ2.out.trans hZ1)
   have HW1:=LH hw1
   have HS1:=LH (HS2.out.trans hs1)
   have HTK:=LH htk
   clear hI1 hZ1 hw1 hs1 htk HT HZ2
   go_wp2_with fail
   go_loopw [2] (CaIn P own1 H1 w1) (fun v _=>5000-(intOf v).toNat)
   case atStart=>exact⟨0,H1,rfl,Nat.zero_le _,⟨own1,HI1.out,HZ.refl _ _ _⟩,HW1.out,Sz.refl H1,fun _ h=>h⟩
   case round=>
    obtain⟨n,H3,rfl,hn,⟨own3,hI3,hZ3⟩,hW3,hS3,hD3⟩:=hrel
    obtain⟨vh,hvh⟩:=hI3.hs
    have gl:=hvh.cells.2.2.2.2
    have HMN:=LH (mmany_any hI3)
    unfold pw at HMN
    clear hvh
    have hout:(H3.net.l=[]∨n=5000)→CaRel P own H w (.int .i64 ((q+1:Nat):Int)) wr:=fun hend=>by
     refine⟨q+1,H3,rfl,by omega,⟨own3,hI3,HZ1.out.trans hZ3⟩,hW3,HS1.out.trans hS3,fun H' hr=>HC2.out H' ?_⟩
     rw[show 4-q=(4-(q+1))+1 by omega]
     refine CalmR.more HTK.out (hD3 H3 ?_) hr
     rcases hend with h0|h0
     ·exact .none h0
     ·rw[h0];exact .zero H3
    by_cases hz:H3.net.l=[]
    ·have HO:=LH (hout (.inl hz))
     have hl0:H3.net.l.length=0:=by rw[hz];rfl
     rw[hl0] at HMN
     clear hout hI3 hZ3 hW3 hS3 hD3 hz hl0
     go_wp2_with fail
     refine HMN.out.mono ?_
     rintro e w2 ⟨rfl,rfl⟩
     go_wp2_with fail
     go_roundw
     case rel=>exact HO.out
     case measure=>simp[intOf];omega
    ·have hl0:0<H3.net.l.length:=List.length_pos_iff.2 hz
     have hpos:decide ((H3.net.l.length:Int) > 0)=true:=decide_eq_true (by omega)
     by_cases hn5:(n:Int)<5000
     ·have HDL:=LH (q87 hI3 hW3 (hS3.c.trans hc1) hl0)
      have HI3:=LH hI3
      have HZ3:=LH hZ3
      have HW3:=LH hW3
      have HS3:=LH hS3
      have HD3:=LH hD3
      have HNZ:=LH hz
      have hcc3:H3.c=3:=hS3.c.trans hc1
      unfold pw at HDL
      clear hout hI3 hZ3 hW3 hS3 hD3 hz
      go_wp2_with fail
      refine HMN.out.mono ?_
      rintro e w2 ⟨rfl,rfl⟩
      go_wp2_with fail
      refine HDL.out.mono ?_
      rintro e w3 ⟨rfl,H4,hd,own4,hI4,hZ4⟩
      obtain⟨hw4,hs4⟩:=q1t.wf hd HW3.out hcc3
      have HR:=LH (show CaIn P own1 H1 w1 (.int .i64 ((n+1:Nat):Int)) w3 from⟨n+1,H4,rfl,by omega,⟨own4,hI4,HZ3.out.trans hZ4⟩,hw4,HS3.out.trans hs4,fun H' hr=>HD3.out H' (by
       rw[show 5000-n=(5000-(n+1))+1 by omega]
       exact .more HNZ.out hd hr)⟩)
      clear hI4 hZ4 hd hw4 hs4
      go_wp2_with fail
      go_roundw
      case rel=>exact HR.out
      case measure=>simp[intOf];omega
     ·have HO:=LH (hout (.inr (by omega)))
      clear hout hI3 hZ3 hW3 hS3 hD3 hz hl0
      go_wp2_with fail
      refine HMN.out.mono ?_
      rintro e w2 ⟨rfl,rfl⟩
      go_wp2_with fail
      all_goals (go_roundw;(case rel=>exact HO.out);(case measure=>simp[intOf];omega))
  ·obtain rfl:q=4:=by omega
   have HF:=LH (show CalmP P own H w (.returned (.tuple #[])) wr from⟨rfl,H2,hC2 H2 (.zero H2),⟨own2,hI2,hZ2⟩,hW2,hS2⟩)
   clear hI2 hZ2 hW2 hS2 hC2
   go_wp2_with fail
   go_end0
   exact HF.out
end
theorem msOf_kept (id:Int) (L:List MsR):msOf (kept id L)=(msOf L).filter fun m=>!gone id m:=by
 unfold msOf kept
 rw[List.filter_map]
 rfl
theorem ddM_put (dead:Int→Bool) (id:Int):putM (ddM dead) id (some (.bool true))=ddM fun i=>decide (i=id) || dead i:=by
 funext j
 unfold putM ddM
 by_cases e:j=id
 ·subst e;simp
 ·simp[e]
theorem DeadM.tight {w:World} {n:Nat} {D:Option Nat} {dead:Int→Bool} (h:DeadM w n D dead) (hd:∀ i,dead i=true→0≤i∧i≤60):DeadM w 100 D dead:=by
 cases D with
 | none=>exact h
 | some b=>
  refine(MapG.tight (C:=q05) h kI61 (fun o _ ho=>?_)).mono (by rw[q2h];omega)
  cases e:dead o with
  | false=>rw[e] at ho;exact absurd rfl ho
  | true=>have:=hd o e;exact q1s this.1 this.2
def Hs.downN (H:Hs) (id:Int):Hs:={ H with net:=downS H.net id }
def Hs.deadN (H:Hs) (s:Nat) (id:Int):Hs:=H.setSh s { H.sh s with dead:=fun i=>decide (i=id) || (H.sh s).dead i }
theorem q86 {H:Hs} {id:Int} (h:H.node id=none):H.fail id=H:=by unfold Hs.fail;rw[h]
theorem q85 {H:Hs} {id:Int} {s j:Nat} (h:H.node id=some (s,j)):H.fail id=(H.deadN s id).downN id:=by unfold Hs.fail;rw[h];rfl
def failE (H:Hs) (id:Int):Int:=if H.node id=none then 7 else 0
theorem Wf.id60 {H:Hs} (h:Wf H) (hc:H.c=3) {s j:Nat} (hs:s<3) (hj:j<H.n):0≤((H.sh s).nd j).id∧((H.sh s).nd j).id≤60:=by
 have h1:=(h.nd s j (by omega) hj).id
 have h4:=h.n4
 omega
theorem Wf.deadN {H:Hs} (h:Wf H) {s:Nat} {id:Int} (hid:0≤id∧id≤60):Wf (H.deadN s id):=by
 have e:∀ k,((H.deadN s id).sh k).nd=(H.sh k).nd∧((H.deadN s id).sh k).tab=(H.sh k).tab∧((H.deadN s id).sh k).sto=(H.sh k).sto∧∀ i,((H.deadN s id).sh k).dead i=true→0≤i∧i≤60∨(H.sh k).dead i=true:=fun k=>by
  by_cases ek:k=s
  ·subst ek
   have:(H.deadN k id).sh k = { H.sh k with dead:=fun i=>decide (i=id) || (H.sh k).dead i }:=q03 _ _ _
   rw[this]
   refine⟨rfl,rfl,rfl,fun i hi=>?_⟩
   rcases Bool.or_eq_true_iff.1 hi with hi|hi
   ·have:=of_decide_eq_true hi;subst this;exact .inl hid
   ·exact .inr hi
  ·have:(H.deadN s id).sh k=H.sh k:=q07 ek _
   rw[this]
   exact⟨rfl,rfl,rfl,fun i hi=>.inr hi⟩
 exact⟨h.n4,h.c3,h.m60,fun k j hk hj=>by rw[(e k).1];exact h.nd k j hk hj,fun k hk=>by rw[(e k).2.1];exact h.tab k hk,fun k hk=>by rw[(e k).2.2.1];exact h.sto k hk,fun k hk i hi=>((e k).2.2.2 i hi).elim (fun q=>q) (h.dead k hk i),h.net,h.down,h.tx,h.tm,h.tle⟩
theorem Wf.downN {H:Hs} (h:Wf H) {id:Int} (hid:0≤id∧id≤60):Wf (H.downN id):=
 ⟨h.n4,h.c3,h.m60,h.nd,h.tab,h.sto,h.dead,fun m hm=>h.net m (List.mem_filter.1 hm).1,fun i hi=>by
  rcases Bool.or_eq_true_iff.1 hi with hi|hi
  ·have:=of_decide_eq_true hi;subst this;exact hid
  ·exact h.down i hi,h.tx,h.tm,h.tle⟩
theorem Wf.fail {H:Hs} (h:Wf H) (hc:H.c=3) (id:Int):Wf (H.fail id):=by
 rcases e:H.node id with _|⟨s,j⟩
 ·rw[q86 e];exact h
 ·rw[q85 e]
  obtain⟨h1,h2,_,h4⟩:=q6s e
  have hid:=h.id60 hc h1 h2
  rw[h4] at hid
  exact(h.deadN hid).downN hid
section
variable {w w':World} {own own':Own} {P:Ptr} {H:Hs}
theorem ShI.setDead {n s g:Nat} {gn:Nat→Nat} {v:ShV} {x:Shd} (h:ShI w own n s g gn v x) {dead':Int→Bool} (hf:Fr (fun k=>k=v.bd) w w') (hm:MapG q05 w' v.bd 100 (ddM dead')):ShI w' own n s g gn v { x with dead:=dead' }:=by
 have hdd:=h.ddt
 have n0:¬g=v.bd:=fun e=>by have:=h.gt;rw[e,hdd] at this;cases this
 have n1:∀ b,TFoot v.mt v.loct x.tab b→¬b=v.bd:=fun b hb e=>by have:=h.tabt b hb;rw[e,hdd] at this;cases this
 have n2:∀ b,SFoot v.ms v.locs x.sto b→¬b=v.bd:=fun b hb e=>by have:=h.stot b hb;rw[e,hdd] at this;cases this
 have n4:∀ b,v.Vn.ownBlock=some b→¬b=v.bd:=fun b hb e=>by have:=h.rowt b hb;rw[e,hdd] at this;cases this
 have hb:Blk w' g 105 (q13 v { x with dead:=dead' }):=hf.blk h.tab.blk n0
 exact⟨hf.own h.row n4,h.rowt,hm,hdd,h.tab.recs hf n1 hb rfl,h.tabt,h.sto.recs hf n2 hb rfl rfl,h.stot,h.gt⟩
theorem mdown_any (h:HI w own P H) (wf:Wf H) {id:Int} (hid:0≤id∧id≤60):Calls Tryz.prog 83 #[pw P.g,.int .i64 id] w fun e w'=>∃ d own',e=.returned (.int .i64 d)∧HI w' own' P (H.downN id)∧HZ q3z w own w' own':=by
 obtain⟨v,hv⟩:=h.hs
 refine(down_any 0 P.g 0 100 _ _ v.Vn v.D v.L H.net.dead v.lost id w hv.nt (q0j (by omega) (by omega)) (by decide)).mono ?_
 rintro e w' ⟨V',D',d,lost',rfl,_,hN,hF,hV,hD⟩
 have hf:=net_fr hv hF
 have hdn:∀ i,(decide (i=id) || H.net.dead i)=true→0≤i∧i≤60:=(wf.downN hid).down
 have hN2:NetI w' 0 P.g 0 92 (q2e { v with Vn:=V',D:=D',L:=kept id v.L,lost:=lost' } H.time) V' D' 100 (kept id v.L) (fun i=>decide (i=id) || H.net.dead i) lost':=
  ⟨hN.blk,hN.c0,hN.c1,hN.c2,hN.row,hN.own,hN.down.tight hdn,hN.len,hN.ne,hN.bg⟩
 have he:Ext own (q15 own w.heap.size (NetF { v with Vn:=V',D:=D',L:=kept id v.L,lost:=lost' }) .net) w.heap.size:=q14
 have hnt:∀ b,NetF { v with Vn:=V',D:=D',L:=kept id v.L,lost:=lost' } b→own b=some .net∨w.heap.size≤b:=fun b hb=>by
  rcases hb with hb|hb|⟨x,hx,hb⟩
  ·exact .inl (hv.nett b (.inl (by rw[← hV];exact hb)))
  ·have hb':D'=some b:=hb
   rcases hD with h1|⟨q,h1,h2⟩
   ·exact .inl (hv.nett b (.inr (.inl (by rw[← h1];exact hb'))))
   ·rw[h1] at hb';injection hb' with hb';exact .inr (by omega)
  ·exact .inl (hv.nett b (.inr (.inr ⟨x,(List.mem_filter.1 hx).1,hb⟩)))
 have hsi:=hv.renet (net':=downS H.net id) (v':={ v with Vn:=V',D:=D',L:=kept id v.L,lost:=lost' }) hf he rfl rfl hN2 (by show msOf (kept id v.L)=H.net.l.filter _;rw[msOf_kept,hv.msgs]) (fun b hb=>q1l (hnt b hb) hb) (fun x hx=>hv.few x (List.mem_filter.1 hx).1)
 exact⟨d,_,rfl,h.setHs' (net':=downS H.net id) (time':=H.time) (q27 hf (fun t ht=>ht.elim .inl (fun e=>.inr (.inl e)))) he (q1m hf.size (fun b hb=>hN2.foot_lt hb)) ⟨_,hsi⟩,⟨he,hf,(by first|exact q1f (by simp)|exact fun _ _ h=>h)⟩⟩
theorem fail_any (h:HI w own P H) (wf:Wf H) (hc:H.c=3) (id:Int):Calls Tryz.prog 56 #[pw P.g,.int .i64 id] w (ErP P own w (failE H id,H.fail id)):=by
 have HH:=LH h
 have HWF:=LH wf
 have HND:=LH (node_any h wf hc id)
 unfold NodeQ at HND
 clear h wf
 rcases hnd:H.node id with _|⟨s,j⟩
 ·rw[hnd] at HND
  have HR:=LH (fun W (hb:Below w.heap.size w W)=>show ErP P own w (failE H id,H.fail id) (.returned (.iface 79 (.int .i64 7))) W from⟨by unfold failE;rw[if_pos hnd];rfl,own,by show HI W own P (H.fail id);rw[q86 hnd];exact HH.out.below hb,HZ.below own hb⟩)
  unfold nodeV at HND
  unfold pw at *
  clear hnd
  go_enter Tryz.func56,Tryz.ntmps56
  go_wp2_with fail
  refine HND.out.mono ?_
  rintro e w1 ⟨rfl,hb⟩
  have HF:=LH (HR.out w1 hb)
  clear hb
  go_wp2_with fail
  go_ret
  exact HF.out
 ·rw[hnd] at HND
  obtain⟨hs3,hjn,_,hide⟩:=q6s hnd
  have hid:=HWF.out.id60 hc hs3 hjn
  rw[hide] at hid
  have HFS:=LH (q85 hnd)
  have hfe:failE H id=0:=by unfold failE;rw[if_neg (by rw[hnd];simp)]
  have HFE:=LH hfe
  unfold nodeV at HND
  have hsc:s<H.c:=by omega
  unfold pw at *
  clear hnd hide hfe
  go_enter Tryz.func56,Tryz.ntmps56
  go_wp2_with fail
  refine HND.out.mono ?_
  rintro e w1 ⟨rfl,hb⟩
  have HI1:=LH (HH.out.below hb)
  have HZ1:=LH (HZ.below (Z:=StTag) own hb)
  obtain⟨v,hv⟩:=HI1.out.sh s hsc
  obtain⟨_,c1,_,_,_,gl⟩:=hv.cells
  have HMP:=LH hv.dd
  have HGO:=LH (fun w7 (hm7:MapG q05 w7 v.bd 101 (putM (ddM (H.sh s).dead) id (some (.bool true)))) (hf7:Fr (fun k=>k=v.bd) w1 w7)=>(by
   rw[ddM_put] at hm7
   have hdd:=(HWF.out.deadN (s:=s) hid).dead s hsc
   rw[show(H.deadN s id).sh s = { H.sh s with dead:=fun i=>decide (i=id) || (H.sh s).dead i } from q03 _ _ _] at hdd
   have hm8:MapG q05 w7 v.bd 100 (ddM fun i=>decide (i=id) || (H.sh s).dead i):=by
    refine(MapG.tight (C:=q05) hm7 kI61 (fun o _ ho=>?_)).mono (by rw[q2h];omega)
    cases e:(decide (o=id) || (H.sh s).dead o) with
    | false=>unfold ddM at ho;simp only[e] at ho;exact absurd rfl ho
    | true=>have:=hdd o e;exact q1s this.1 this.2
   have hfo:Fr (OS own (shTag s)) w1 w7:=hf7.mono (fun b _ e=>⟨_,by rw[e];exact hv.ddt,.inr (.inr (.inl rfl))⟩)
   exact⟨HI1.out.setSh' rfl hfo (Ext.refl own _) (fun b hb=>Nat.lt_of_lt_of_le (HI1.out.lt b hb) hf7.size) ⟨v,hv.setDead hf7 hm8⟩,HZ1.out.trans ⟨Ext.refl own _,q27 hfo (fun _=>st_sh),fun _ _ h=>h⟩⟩:HI w7 own P (H.deadN s id)∧HStep w own w7 own))
  clear hb HND hv
  go_wp2_with (at_mapUpdate;refine q0k (C:=q05) rfl 60 4 Tryz.underlying60 _ _ _ rfl rfl HMP.out (by unfold maxLen;omega) id (.bool true) rfl rfl (q0j (by omega) (by omega)) ?_;intro w7 hm7 hf7)
  have hg:=HGO.out w7 hm7 hf7
  obtain⟨vh,hvh⟩:=hg.1.hs
  have gl7:=hvh.cells.2.2.2.2
  have HD:=LH (mdown_any hg.1 (HWF.out.deadN hid) hid)
  have HZ7:=LH hg.2
  unfold pw at HD
  clear hg hm7 hf7 c1 gl hvh HGO HMP
  try go_wp2_with fail
  refine HD.out.mono ?_
  rintro e w8 ⟨d,own8,rfl,hI8,hZ8⟩
  have HF:=LH (show ErP P own w (failE H id,H.fail id) (.returned .nilIface) w8 from⟨by rw[HFE.out];rfl,own8,by show HI w8 own8 P (H.fail id);rw[HFS.out];exact hI8,HZ7.out.trans (hZ8.mono (fun _=>q6h))⟩)
  clear hI8 hZ8
  go_wp2_with fail
  go_ret
  exact HF.out
end
theorem WfX.ending {t:Txn} (h:WfX t):WfX { t with state:=2,places:=fun k=>if (t.shards k).isSome then some (-1) else t.places k }:=
 ⟨h.few,h.ps,h.sh,fun k e he=>by
  show k=0∨k=1
  replace he:(if (t.shards k).isSome then some (-1) else t.places k)=some e:=he
  split at he
  ·rename_i hs
   obtain⟨q,hq⟩:=Option.isSome_iff_exists.1 hs
   exact(h.sh k q hq).1
  ·exact h.pl k e he,h.wn,h.wnd⟩
theorem Wf.ending {H:Hs} (h:Wf H) {i:Nat} (h1:1≤i) (hi:i≤H.m):Wf (H.ending i):=h.setTx (h.tx i h1 hi).ending rfl
def endF (t:Txn) (left:Int→Bool):Int→Option Int:=fun o=>if (t.shards o).isSome && !left o then some (-1) else t.places o
theorem endF_key {t:Txn} (wf:WfX t) {left:Int→Bool} {o:Int} (h:endF t left o≠none):0≤o∧o≤60:=by
 unfold endF at h
 have:o=0∨o=1:=by
  split at h
  ·rename_i hs
   rw[Bool.and_eq_true] at hs
   obtain⟨q,hq⟩:=Option.isSome_iff_exists.1 hs.1
   exact(wf.sh o q hq).1
  ·obtain⟨q,hq⟩:=Option.ne_none_iff_exists'.1 h
   exact wf.pl o q hq
 omega
theorem endF_next {t:Txn} {left left':Int→Bool} {o:Int} (ho:t.shards o≠none) (hl:∀ y,left' y=true↔left y=true∧y≠o):setF (endF t left) o (-1)=endF t left':=by
 funext j
 unfold setF endF
 by_cases e:j=o
 ·subst e
  rw[if_pos rfl]
  obtain⟨q,hq⟩:=Option.ne_none_iff_exists'.1 ho
  have:left' j=false:=by
   rw[Bool.eq_false_iff]
   exact fun h=>((hl j).1 h).2 rfl
  rw[hq,this];rfl
 ·rw[if_neg e]
  have:left' j=left j:=by
   rw[Bool.eq_iff_iff,hl j]
   exact⟨fun h=>h.1,fun h=>⟨h,e⟩⟩
  rw[this]
def EeRel (t:Txn) (v:TxV) (r:Nat) (w1 wr:World):Prop:=
 ∃ (left:Int→Bool) (cnt:Nat),q0z q05 wr v.bs r 100 (inM t.shards) left cnt∧MapG q05 wr v.bp 100 (inM (endF t left))∧Fr (fun k=>k=v.bp) w1 wr
def HEndP (P:Ptr) (own:Own) (H:Hs) (id:Int) (w:World) (e:Ending) (w':World):Prop:=∃ er H',e=.returned (erV er)∧EndR H id er H'∧GsP P own H' w w'
section
variable {w w':World} {own own':Own} {P:Ptr} {H:Hs}
open Classical in
theorem end_any (h:HI w own P H) (wf:Wf H) (hc:H.c=3) (id:Int):Calls Tryz.prog 14 #[pw P.g,.int .i64 id] w (HEndP P own H id w):=by
 have HF:=LH (q3o h (by have:=wf.m60;omega) id)
 by_cases hb:id<1∨H.m<id
 ·have HR:=LH (show HEndP P own H id w (.returned (.iface 79 (.int .i64 7))) w from⟨7,H,rfl,.missing hb,own,h,HZ.refl _ _ _⟩)
  rw[q5g hb] at HF
  clear h wf hb
  unfold pw at *
  go_enter Tryz.func14,Tryz.ntmps14
  go_wp2_with fail
  refine HF.out.mono ?_
  rintro e w1 ⟨rfl,rfl⟩
  go_wp2_with fail
  go_ret
  exact HR.out
 ·obtain⟨i,rfl⟩:∃ i:Nat,id=i:=⟨id.toNat,by omega⟩
  have h1:1≤i:=by omega
  have hi:i≤H.m:=by omega
  have hii:1≤(i:Int)∧(i:Int)≤H.m:=by omega
  rw[q45 h1 hi] at HF
  obtain⟨v,hv⟩:=h.tx i h1 hi
  have f1:=hv.blk.frozen 1
  obtain⟨_,k1,_,k3,k4,_,k8,gl⟩:=hv.cells
  obtain⟨A8,c8,hV8,_,_⟩:=q01 hv.wants
  rw[hV8] at k8
  by_cases s1:(H.tx i).state=1
  ·have hwl:=(wf.tx i h1 hi).wants4
   rw[s1] at k1
   by_cases hw0:(H.tx i).wants=[]
   ·have hl0:(H.tx i).wants.length=0:=by rw[hw0];rfl
    rw[hl0] at k8
    have HH:=LH h
    have HWF:=LH wf
    have HV:=LH hv
    have hv1:=hv.setState 2
    have hf1:Fr (OS own (fun t=>t=.tx i)) w (w.setCell ⟨P.gt i,1,none⟩ (.int .i64 2)):=(Fr.refl _ w).setCell (p:=⟨P.gt i,1,none⟩) (.inl ⟨_,hv.gt,rfl⟩) _
    have HV1:=LH hv1
    have HF1:=LH hf1
    have HER:=LH (fun H' (r:q10 (H.ending i) H')=>EndR.ends (H:=H) (id:=i) hii s1 hw0 r)
    have HSH:=LH hv1.shards
    have HWX:=LH (wf.tx i h1 hi)
    have hne:=hv.ne
    have HSZ:=LH (show(w.setCell ⟨P.gt i,1,none⟩ (.int .i64 2)).heap.size=w.heap.size by simp)
    have hbs:=hv1.shards.lt
    have HE0:=LH (show inM (endF (H.tx i) (fun x=>((inM (H.tx i).shards) x).isSome))=inM (H.tx i).places from by
     congr 1
     funext o
     unfold endF inM
     cases e:(H.tx i).shards o <;> simp[e])
    clear h wf hb hv s1 hw0 hl0 hv1 hf1 hV8 hii hwl
    unfold pw at *
    go_enter Tryz.func14,Tryz.ntmps14
    go_wp2_with fail
    refine HF.out.mono ?_
    rintro e w1 ⟨rfl,rfl⟩
    go_wp2_with (at_range;refine q23 rfl _ 61 3 rfl Tryz.underlying61 rfl HSH.out ?_;intro w0 cnt0 hrg0 hf0 hs0)
    generalize hr0:(w.setCell ⟨P.gt i,1,none⟩ (.int .i64 2)).heap.size=r0 at hrg0 hs0 ⊢
    have HR0:=LH hr0
    clear hr0
    have HP0:=LH (show MapG q05 w0 v.bp 100 (inM (endF (H.tx i) (fun x=>((inM (H.tx i).shards) x).isSome))) from by rw[HE0.out];exact HV1.out.places.fr hf0 (fun h=>h))
    try go_frame
    go_loopw [6] (fun _ wr=>EeRel (H.tx i) v r0 (w.setCell ⟨P.gt i,1,none⟩ (.int .i64 2)) wr) (fun _ wr=>wr.rangeLeft v.bs r0)
    case atStart=>exact⟨_,cnt0,hrg0,HP0.out,hf0.mono (fun _ _ h=>h.elim)⟩
    case round=>
     obtain⟨left,cnt,hrg,hmp,hfr⟩:=hrel
     have HRG:=LH hrg
     have HMP:=LH hmp
     have HFR:=LH hfr
     clear hrg hmp hfr
     go_wp2_with (at_next;refine q2i rfl _ rfl rfl HRG.out ?_ ?_)
     ·intro hl0
      have hall:endF (H.tx i) left=fun k=>if ((H.tx i).shards k).isSome then some (-1) else(H.tx i).places k:=by
       funext o
       unfold endF
       cases e:(H.tx i).shards o with
       | none=>rfl
       | some q=>
        have:left o=false:=hl0 o (by have:=(HWX.out.sh o q e).1;exact q0j (by omega) (by omega))
        rw[this];rfl
      have hfw:Fr (OS own (fun t=>t=.tx i)) w wr:=HF1.out.trans' HFR.out (fun b hb e=>⟨_,by rw[e];exact HV.out.pt,rfl⟩)
      have hv2:TxI wr own i (P.gt i) v ({ H.tx i with state:=2,places:=fun k=>if ((H.tx i).shards k).isSome then some (-1) else(H.tx i).places k }):=by
       have hm2:=HMP.out
       rw[hall] at hm2
       exact HV1.out.putPlaces HFR.out hm2
      have hI2:HI wr own P (H.ending i):=HH.out.setTx' hfw (Ext.refl own _) (fun b hb=>Nat.lt_of_lt_of_le (HH.out.lt b hb) hfw.size) ⟨_,hv2⟩
      have HST:=LH (q3c hI2 (HWF.out.ending h1 hi) hc)
      have HZ2:=LH (show HStep w own wr own from⟨Ext.refl own _,q27 hfw (fun _=>st_tx),fun _ _ h=>h⟩)
      unfold pw at HST
      clear hI2 hv2 hfw hall hl0
      go_wp2_with fail
      refine HST.out.mono ?_
      rintro e w9 ⟨rfl,H',hr,own9,hI9,hZ9⟩
      have HFI:=LH (show HEndP P own H i w (.returned .nilIface) w9 from⟨0,H',rfl,HER.out H' hr,own9,hI9,HZ2.out.trans hZ9⟩)
      clear hr hI9 hZ9
      go_wp2_with fail
      go_ret
      exact HFI.out
     ·intro o v9 w3 cnt3 hox hlx hmx hrg3 hlt hf3 hs3 hen
      obtain⟨q,hq,rfl⟩:∃ m,(H.tx i).shards o=some m∧v9=.int .i64 m:=by
       unfold inM at hmx
       cases e:(H.tx i).shards o with
       | none=>rw[e] at hmx;cases hmx
       | some m=>rw[e] at hmx;injection hmx with hmx;exact⟨m,rfl,hmx.symm⟩
      rw[show q05.val o=Value.int .i64 o from rfl] at hen ⊢
      have hrb:¬r0=v.bp:=fun e=>by have:=HV1.out.places.lt;have:=HR0.out;omega
      have hgb:¬P.gt i=v.bp:=fun e=>HV1.out.rows_ne.2.2.2.1 e.symm
      have hfr3:Fr (fun k=>k=v.bp) (w.setCell ⟨P.gt i,1,none⟩ (.int .i64 2)) w3:=HFR.out.trans' hf3 (fun k hk (e:k=r0)=>by have:=HR0.out;omega)
      have HFR3:=LH hfr3
      have HMP3:=LH (HMP.out.fr hf3 (fun e=>hrb e.symm))
      have d4:=(hfr3.blk HV1.out.blk hgb).cell 4
      have dl:=(hfr3.blk HV1.out.blk hgb).lt
      unfold q28 at d4
      simp only[List.getElem?_toArray,List.getElem?_cons_zero,List.getElem?_cons_succ] at d4
      have HRG3:=LH hrg3
      have HLT:=LH (HRG.out.left_eq▸hlt:cnt3<wr.rangeLeft v.bs r0)
      have HNX:=LH (fun w7 (hm7:MapG q05 w7 v.bp 101 (putM (inM (endF (H.tx i) left)) o (some (.int .i64 (-1))))) (hf7:Fr (fun k=>k=v.bp) w3 w7)=>(by
       have hrg7:=HRG3.out.fr hf7 (fun e=>hne e) hrb
       rw[q9z] at hm7
       have hm8:MapG q05 w7 v.bp 100 (inM (setF (endF (H.tx i) left) o (-1))):=by
        refine(hm7.tight kI61 (fun a _ ha=>?_)).mono (show kI61.length≤100 from by rw[q2h];decide)
        by_cases ea:a=o
        ·subst ea
         have hk:=(HWX.out.sh a q hq).1
         exact q1s (by omega) (by omega)
        ·have hk61:=endF_key HWX.out (left:=left) (o:=a) (fun e=>ha (by unfold inM setF;rw[if_neg ea,e];rfl))
         exact q1s hk61.1 hk61.2
       refine⟨⟨_,cnt3,hrg7,?_,HFR3.out.trans hf7⟩,by show w7.rangeLeft v.bs r0<_;rw[hrg7.left_eq];exact HLT.out⟩
       rw[← endF_next (left:=left) (o:=o) (by rw[hq];simp) (fun y=>by simp)]
       exact hm8:EeRel (H.tx i) v r0 (w.setCell ⟨P.gt i,1,none⟩ (.int .i64 2)) w7∧w7.rangeLeft v.bs r0<wr.rangeLeft v.bs r0))
      clear hfr3 hmx hrg3 hlt hf3 hq
      go_wp2_with (at_mapUpdate;refine q0k (C:=q05) rfl 61 3 Tryz.underlying61 _ _ _ rfl rfl HMP3.out (by unfold maxLen;omega) o (.int .i64 (-1)) rfl rfl hox ?_;intro w7 hm7 hf7)
      have hn:=HNX.out w7 hm7 hf7
      have HN1:=LH hn.1
      have HN2:=LH hn.2
      clear hn hm7 hf7 d4 dl
      go_roundw
      case rel=>exact⟨_,_,_,_,_,_,_,_,_,_,HN1.out,rfl⟩
      case measure=>exact HN2.out
   ·have HR:=LH (show HEndP P own H i w (.returned (.iface 79 (.int .i64 11))) w from⟨11,H,rfl,.waits hii s1 hw0,own,h,HZ.refl _ _ _⟩)
    have hpos:0<(H.tx i).wants.length:=List.length_pos_iff.2 hw0
    have hl1:(0:Int)<(H.tx i).wants.length:=by omega
    clear h wf hb hv s1 hw0 hV8 hii
    unfold pw at *
    go_enter Tryz.func14,Tryz.ntmps14
    go_wp2_with fail
    refine HF.out.mono ?_
    rintro e w1 ⟨rfl,rfl⟩
    go_wp2_with fail
    go_ret
    exact HR.out
  ·have HR:=LH (show HEndP P own H i w (.returned (.iface 79 (.int .i64 6))) w from⟨6,H,rfl,.state hii s1,own,h,HZ.refl _ _ _⟩)
   have e1:((H.tx i).state != 1)=true:=by simpa using s1
   clear h wf hb hv s1 hV8 hii
   unfold pw at *
   go_enter Tryz.func14,Tryz.ntmps14
   go_wp2_with fail
   refine HF.out.mono ?_
   rintro e w1 ⟨rfl,rfl⟩
   go_wp2_with fail
   go_ret
   exact HR.out
end
def Hs.came (H:Hs) (i s:Nat):Hs:=H.setTx i { H.tx i with shards:=setF (H.tx i).shards s (H.sh s).epoch }
noncomputable def Hs.lkd (H:Hs) (i s:Nat) (k:Sx) (mode:Int):Hs:=H.setSh s { H.sh s with tab:=lockT (H.sh s).tab i k mode }
def Hs.wantd (H:Hs) (i:Nat) (k:Sx) (mode:Int):Hs:=H.setTx i { H.tx i with wants:=(H.tx i).wants++[(k,mode)] }
noncomputable def woundd (H:Hs) (l:List Int):Hs:=l.foldl Hs.wound H
def q6m (H:Hs) (i s:Nat):Prop:=∃ e,(H.tx i).shards s=some e∧e≠(H.sh s).epoch
theorem q18 (k:Sx):q00 k<2:=Nat.mod_lt _ (by decide)
section
variable {H:Hs} {id:Int} {i:Nat} {k:Sx} {mode:Int}
theorem q1o (h:id<1∨H.m<id):H.lock id k mode=(7,H):=by unfold Hs.lock;rw[if_pos h]
theorem q66 (h1:1≤i) (hi:i≤H.m) (h:(H.tx i).state≠1):H.lock i k mode=(6,H):=by
 unfold Hs.lock;rw[if_neg (by omega)];rw[if_pos (by exact h)]
theorem q7t (h1:1≤i) (hi:i≤H.m) (h:(H.tx i).state=1) (hk:k.length≤20) (h5:H.head (q00 k)=none):H.lock i k mode=(12,H):=by
 unfold Hs.lock
 rw[if_neg (by omega)];rw[if_neg (by exact fun q=>q h)];rw[if_neg (by omega)];rw[if_pos h5]
theorem q67 (h1:1≤i) (hi:i≤H.m) (h:(H.tx i).state=1) (hk:k.length≤20) (h5:H.head (q00 k)≠none) (h6:q6m H i (q00 k)):H.lock i k mode=(6,H.abort i):=by
 unfold Hs.lock
 rw[if_neg (by omega)];rw[if_neg (by exact fun q=>q h)];rw[if_neg (by omega)];rw[if_neg h5];rw[if_pos (by exact h6)];rfl
theorem q65 (h1:1≤i) (hi:i≤H.m) (h:(H.tx i).state=1) (hk:k.length≤20) (h5:H.head (q00 k)≠none) (h6:¬q6m H i (q00 k)) (h7:q0u (H.tx i).wants k=true):H.lock i k mode=(11,H.came i (q00 k)):=by
 unfold Hs.lock
 rw[if_neg (by omega)];rw[if_neg (by exact fun q=>q h)];rw[if_neg (by omega)];rw[if_neg h5];rw[if_neg (by exact h6)]
 exact if_pos (by show q0u ((H.came i (q00 k)).tx i).wants k=true;rw[show((H.came i (q00 k)).tx i).wants=(H.tx i).wants by unfold Hs.came;rw[q2f]];exact h7)
theorem lock_in (h1:1≤i) (hi:i≤H.m) (h:(H.tx i).state=1) (hk:k.length≤20) (h5:H.head (q00 k)≠none) (h6:¬q6m H i (q00 k)) (h7:q0u (H.tx i).wants k=false):H.lock i k mode=(H.came i (q00 k)).lockIn i k mode:=by
 unfold Hs.lock
 rw[if_neg (by omega)];rw[if_neg (by exact fun q=>q h)];rw[if_neg (by omega)];rw[if_neg h5];rw[if_neg (by exact h6)]
 exact if_neg (by show ¬q0u ((H.came i (q00 k)).tx i).wants k=true;rw[show((H.came i (q00 k)).tx i).wants=(H.tx i).wants by unfold Hs.came;rw[q2f],h7];simp)
theorem q41 (h:q0w (atT (H.sh (q00 k)).tab k).ws i=true):H.lockIn i k mode=(9,H.lkd i (q00 k) k mode):=by
 unfold Hs.lockIn;simp only[h,if_true];rfl
theorem q68 (h:q0w (atT (H.sh (q00 k)).tab k).ws i=false) (h2:freeB (atT (H.sh (q00 k)).tab k).h i mode (atT (H.sh (q00 k)).tab k).ws=true):H.lockIn i k mode=(0,H.lkd i (q00 k) k mode):=by
 unfold Hs.lockIn;simp only[h,h2,if_true,Bool.false_eq_true,if_false];rfl
theorem q4r (h:q0w (atT (H.sh (q00 k)).tab k).ws i=false) (h2:freeB (atT (H.sh (q00 k)).tab k).h i mode (atT (H.sh (q00 k)).tab k).ws=false) (h3:(atT (H.sh (q00 k)).tab k).ws.length=50):H.lockIn i k mode=(4,H.lkd i (q00 k) k mode):=by
 unfold Hs.lockIn;simp only[h,h2,h3,if_true,Bool.false_eq_true,if_false];rfl
theorem q40 (h:q0w (atT (H.sh (q00 k)).tab k).ws i=false) (h2:freeB (atT (H.sh (q00 k)).tab k).h i mode (atT (H.sh (q00 k)).tab k).ws=false) (h3:(atT (H.sh (q00 k)).tab k).ws.length≠50) :
  H.lockIn i k mode=(if q0u ((woundd ((H.lkd i (q00 k) k mode).wantd i k mode) (q24 (atT (H.sh (q00 k)).tab k).h i mode)).tx i).wants k then 11 else 0,woundd ((H.lkd i (q00 k) k mode).wantd i k mode) (q24 (atT (H.sh (q00 k)).tab k).h i mode)):=by
 unfold Hs.lockIn;simp only[h,h2,h3,Bool.false_eq_true,if_false];rfl
open Classical in
theorem wounds_eq {h:Int→Option Int} (hw:∀ o m,h o=some m→1≤o∧o≤60) {tx:Int} {l:List Int} (hl:WoundsP h tx mode l):l=q24 h tx mode:=by
 refine sorted_eq (lt:=(· < ·)) (fun a=>by omega) (fun a b c=>by omega) hl.1 ?_ (fun a=>?_)
 ·unfold q24
  refine List.Pairwise.filter _ ?_
  rw[List.pairwise_map]
  refine List.Pairwise.imp (fun {a b} h=>?_) List.pairwise_lt_range
  show(a:Int)<b;omega
 ·rw[hl.2 a]
  unfold q24
  rw[List.mem_filter,decide_eq_true_iff]
  constructor
  ·rintro ⟨h1,m,h2,h3⟩
   refine⟨List.mem_map.2 ⟨a.toNat,List.mem_range.2 ?_,?_⟩,h1,m,h2,h3⟩
   ·have:=hw a m h2;omega
   ·have:=hw a m h2;show(a.toNat:Int)=a;omega
  ·exact fun h=>h.2
theorem q6z {h:Int→Option Int} {tx o:Int} (ho:o∈q24 h tx mode):0≤o∧o≤60:=by
 unfold q24 at ho
 obtain⟨n,hn,e⟩:=List.mem_map.1 (List.mem_filter.1 ho).1
 have:=List.mem_range.1 hn
 have e:(n:Int)=o:=e
 omega
theorem q72 {l:List Int} {q:Nat} {o:Int} (h:l[q]? = some o):woundd H (l.take (q+1))=(woundd H (l.take q)).wound o:=by
 unfold woundd;rw[List.take_add_one,h,List.foldl_append];rfl
theorem wound_sz (H:Hs) (o:Int):Sz H (H.wound o):=by
 unfold Hs.wound
 split
 ·exact(q1d H o.toNat).1.sz
 ·exact Sz.refl H
theorem q39:∀ (l:List Int) (H:Hs),Sz H (woundd H l)
 | [],H=>Sz.refl H
 | o::l,H=>(wound_sz H o).trans (q39 l (H.wound o))
theorem Wf.wound (h:Wf H) (hc:H.c=3) (o:Int):Wf (H.wound o):=by
 unfold Hs.wound
 split
 ·rename_i hs
  exact h.abort hc (by omega) (by omega)
 ·exact h
theorem Wf.woundd:∀ (l:List Int) {H:Hs},Wf H→H.c=3→Wf (woundd H l)
 | [],_,h,_=>h
 | o::l,H,h,hc=>Wf.woundd l (h.wound hc o) ((wound_sz H o).c.trans hc)
theorem Wf.came (h:Wf H) (h1:1≤i) (hi:i≤H.m) {s:Nat} (hs:s<2):Wf (H.came i s):=by
 have hx:=h.tx i h1 hi
 refine h.setTx ⟨hx.few,hx.ps,fun k e he=>?_,hx.pl,hx.wn,hx.wnd⟩ rfl
 replace he:setF (H.tx i).shards s (H.sh s).epoch k=some e:=he
 unfold setF at he
 split at he
 ·rename_i e1;exact⟨by omega,trivial⟩
 ·exact hx.sh k e he
theorem Wf.setTab (h:Wf H) {s:Nat} {T:Tb} (hT:WfT T):Wf (H.setSh s { H.sh s with tab:=T }):=by
 have e:∀ k,((H.setSh s { H.sh s with tab:=T }).sh k).nd=(H.sh k).nd∧((H.setSh s { H.sh s with tab:=T }).sh k).sto=(H.sh k).sto∧((H.setSh s { H.sh s with tab:=T }).sh k).dead=(H.sh k).dead∧(((H.setSh s { H.sh s with tab:=T }).sh k).tab=T∨((H.setSh s { H.sh s with tab:=T }).sh k).tab=(H.sh k).tab):=fun k=>by
  by_cases ek:k=s
  ·subst ek
   rw[show(H.setSh k { H.sh k with tab:=T }).sh k = { H.sh k with tab:=T } from q03 _ _ _]
   exact⟨rfl,rfl,rfl,.inl rfl⟩
  ·rw[show(H.setSh s { H.sh s with tab:=T }).sh k=H.sh k from q07 ek _]
   exact⟨rfl,rfl,rfl,.inr rfl⟩
 refine Wf.of (H':=H.setSh s { H.sh s with tab:=T }) h rfl rfl rfl rfl (fun k j hk hj=>by rw[(e k).1];exact h.nd k j hk hj) (fun k hk=>?_) (fun k hk=>by rw[(e k).2.1];exact h.sto k hk) (fun k _=>(e k).2.2.1) h.net rfl h.tx (fun _=>rfl)
 rcases(e k).2.2.2 with e2|e2
 ·rw[e2];exact hT
 ·rw[e2];exact h.tab k hk
theorem Wf.lkd (h:Wf H) (h1:1≤i) (hi:i≤H.m) {s:Nat} (hs:s<H.c) (hk:k∈names):Wf (H.lkd i s k mode):=
 h.setTab ((h.tab s hs).lock (by have:=h.m60;omega) hk mode)
theorem wantsB_mem {l:List (Sx×Int)} {x:Sx} : q0u l x=true↔x∈l.map (·.1):=by
 unfold q0u
 rw[List.any_eq_true,List.mem_map]
 exact⟨fun⟨a,h1,h2⟩=>⟨a,h1,by simpa using h2⟩,fun⟨a,h1,h2⟩=>⟨a,h1,by simpa using h2⟩⟩
theorem Wf.wantd (h:Wf H) (h1:1≤i) (hi:i≤H.m) (hk:k∈names) (hw:q0u (H.tx i).wants k=false):Wf (H.wantd i k mode):=by
 have hx:=h.tx i h1 hi
 refine h.setTx ⟨hx.few,hx.ps,hx.sh,hx.pl,fun a ha=>?_,?_⟩ rfl
 ·rcases List.mem_append.1 ha with ha|ha
  ·exact hx.wn a ha
  ·rw[List.mem_singleton.1 ha];exact hk
 ·show(((H.tx i).wants++[(k,mode)]).map (·.1)).Nodup
  rw[List.map_append,List.nodup_append]
  refine⟨hx.wnd,by simp,fun a ha b hb=>?_⟩
  simp only[List.map_cons,List.map_nil,List.mem_singleton] at hb
  subst hb
  rintro rfl
  rw[wantsB_mem.2 ha] at hw
  cases hw
end
section
variable {w w':World} {own own':Own} {P:Ptr} {H:Hs}
theorem lk1_any (c:Nat) (k:Sx) (w:World) (h1:w.cell? ⟨c,0,none⟩=some (.string ⟨k.toArray⟩)) :
  nPred 63 #[.pointer (some ⟨c,0,none⟩)] (keyIs k) none w:=by
 intro W x hW
 have hl1:=World.block_lt_of_cell? w _ h1
 have k1:=(hW.cell (p:=⟨c,0,none⟩) hl1 (fun e=>nomatch e)).trans h1
 have l1:c<W.heap.size:=Nat.lt_of_lt_of_le hl1 hW.size
 have HBL:=LH (fun o=>(Below.refl W.heap.size W).alloc (Nat.le_refl _) o)
 clear h1 hl1 hW
 unfold wnV keyIs
 show Calls _ _ #[_,_] _ fun e w'=>e=.returned (.bool (decide (x.1=k)))∧Below W.heap.size W w'
 by_cases e:x.1=k
 ·have d:(x.1 == k)=true:=by simpa using e
  rw[decide_eq_true e]
  go_enter Tryz.func63,Tryz.ntmps63
  go_wp2_with fail
  go_ret
  exact⟨rfl,HBL.out _⟩
 ·have d:(x.1 == k)=false:=by simpa using e
  rw[decide_eq_false e]
  go_enter Tryz.func63,Tryz.ntmps63
  go_wp2_with fail
  go_ret
  exact⟨rfl,HBL.out _⟩
theorem lk2_any (c:Nat) (k:Sx) (w:World) (h1:w.cell? ⟨c,0,none⟩=some (.string ⟨k.toArray⟩)) :
  nPred 65 #[.pointer (some ⟨c,0,none⟩)] (keyIs k) none w:=by
 intro W x hW
 have hl1:=World.block_lt_of_cell? w _ h1
 have k1:=(hW.cell (p:=⟨c,0,none⟩) hl1 (fun e=>nomatch e)).trans h1
 have l1:c<W.heap.size:=Nat.lt_of_lt_of_le hl1 hW.size
 have HBL:=LH (fun o=>(Below.refl W.heap.size W).alloc (Nat.le_refl _) o)
 clear h1 hl1 hW
 unfold wnV keyIs
 show Calls _ _ #[_,_] _ fun e w'=>e=.returned (.bool (decide (x.1=k)))∧Below W.heap.size W w'
 by_cases e:x.1=k
 ·have d:(x.1 == k)=true:=by simpa using e
  rw[decide_eq_true e]
  go_enter Tryz.func65,Tryz.ntmps65
  go_wp2_with fail
  go_ret
  exact⟨rfl,HBL.out _⟩
 ·have d:(x.1 == k)=false:=by simpa using e
  rw[decide_eq_false e]
  go_enter Tryz.func65,Tryz.ntmps65
  go_wp2_with fail
  go_ret
  exact⟨rfl,HBL.out _⟩
theorem q8m (l:List (Sx×Int)) (k:Sx):l.any (keyIs k)=q0u l k:=by
 unfold q0u
 congr 1
 funext a
 exact Bool.eq_iff_iff.2 (by simp[keyIs])
theorem q8o {i g c:Nat} {v:TxV} {t:Txn} (hv:TxI w own i g v t) (wf:WfX t) (k:Sx) (h1:w.cell? ⟨c,0,none⟩=some (.string ⟨k.toArray⟩)) :
  Calls Tryz.prog 62 #[v.Vx,.func (.func 63) #[] #[.pointer (some ⟨c,0,none⟩)]] w fun e w'=>e=.returned (.bool (q0u t.wants k))∧Below w.heap.size w w':=by
 obtain⟨A,cc,hV,_,_⟩:=q01 hv.wants
 have hr:=hv.wants
 rw[hV] at hr ⊢
 rw[← q8m]
 exact q56 _ _ _ none A _ cc t.wants w (q1y Tryz.func63 (by kernel_rfl) rfl) (lk1_any c k w h1) (Rd.of_own hr) rfl (by have:=wf.wants4;omega)
theorem q8n {i g c:Nat} {v:TxV} {t:Txn} (hv:TxI w own i g v t) (wf:WfX t) (k:Sx) (h1:w.cell? ⟨c,0,none⟩=some (.string ⟨k.toArray⟩)) :
  Calls Tryz.prog 62 #[v.Vx,.func (.func 65) #[] #[.pointer (some ⟨c,0,none⟩)]] w fun e w'=>e=.returned (.bool (q0u t.wants k))∧Below w.heap.size w w':=by
 obtain⟨A,cc,hV,_,_⟩:=q01 hv.wants
 have hr:=hv.wants
 rw[hV] at hr ⊢
 rw[← q8m]
 exact q56 _ _ _ none A _ cc t.wants w (q1y Tryz.func65 (by kernel_rfl) rfl) (lk2_any c k w h1) (Rd.of_own hr) rfl (by have:=wf.wants4;omega)
end
def HasC (l:List Cm) (kind id:Int):Prop:=∃ c∈l,c.kind=kind∧c.tx=id
theorem q9w {kind id:Int} {c:Cm} : isCm kind id c=true↔c.kind=kind∧c.tx=id:=by unfold isCm;simp
theorem q62 {l:List Cm} {kind id:Int} : place l kind id=none↔¬HasC l kind id:=by
 unfold place HasC
 rw[List.findIdx?_eq_none_iff]
 constructor
 ·rintro h ⟨c,hc,h2⟩
  have:=h c hc
  rw[Bool.eq_false_iff] at this
  exact this (q9w.2 h2)
 ·intro h c hc
  rw[Bool.eq_false_iff]
  exact fun e=>h ⟨c,hc,q9w.1 e⟩
theorem q92 {l:List Cm} {kind id:Int} {p:Nat} (h:place l kind id=some p):∃ c,l[p]? = some c∧c.kind=kind∧c.tx=id:=by
 unfold place at h
 rw[List.findIdx?_eq_some_iff_getElem] at h
 obtain⟨h1,h2,_⟩:=h
 exact⟨_,List.getElem?_eq_getElem h1,q9w.1 h2⟩
def StabC (H:Hs) (k:Nat) (kind id:Int):Prop:=∃ j p c,H.head k=some j∧(lg H k j)[p]? = some c∧c.kind=kind∧c.tx=id∧((p:Nat):Int)<H.stable k j
inductive St1:Hs→Hs→Prop where
 | abort {H:Hs} {i:Nat} (h1:1≤i) (hi:i≤H.m) (hs:(H.tx i).state=1∨((H.tx i).state=2∧(H.tx i).time=0)):St1 H (H.abort i)
 | tell {H:Hs} {i k:Nat} {kind:Int} (h1:1≤i) (hi:i≤H.m) (hk:k<2) (hs:(kind=3∧(H.tx i).state=3)∨(kind=4∧(H.tx i).state=4)):St1 H (H.tell1 i kind k)
 | prep {H:Hs} {i k j:Nat} (b:Bool) (h1:1≤i) (hi:i≤H.m) (hk:k∈(H.tx i).comes) (hh:H.head k=some j) (hp:¬HasC (lg H k j) 2 i) (hs:(H.tx i).state=2) (ht:(H.tx i).time=0)
   (he:(H.tx i).shards k=some (H.sh k).epoch) (hpl:((H.tx i).places k).getD 0<0):St1 H (H.add k j ⟨2,i,0,(H.tx i).of k⟩ b).2
 | place {H:Hs} {i k:Nat} (a:Int) (h1:1≤i) (hi:i≤H.m) (hk:k∈(H.tx i).comes) (ha:0≤a) (hs:(H.tx i).state=2):St1 H (H.putPlace i k a)
 | timed {H:Hs} {i:Nat} (h1:1≤i) (hi:i≤H.m) (hs:(H.tx i).state=2) (hp:∀ k∈(H.tx i).comes,StabC H k 2 i):St1 H (H.timed i)
 | decide {H:Hs} {i j:Nat} (b:Bool) (h1:1≤i) (hi:i≤H.m) (hh:H.head 2=some j) (hp:¬HasC (lg H 2 j) 3 i) (hs:(H.tx i).state=2) (ht:(H.tx i).time≠0):St1 H (H.add 2 j ⟨3,i,(H.tx i).time,[]⟩ b).2
 | commit {H:Hs} {i:Nat} (h1:1≤i) (hi:i≤H.m) (hs:(H.tx i).state=2) (hp:StabC H 2 3 i):St1 H (H.stateTx i 3)
 | came {H:Hs} {i k:Nat} (h1:1≤i) (hi:i≤H.m) (hk:k<2) (hs:(H.tx i).state=1) (hh:H.head k≠none) (he:(H.tx i).shards k=none∨(H.tx i).shards k=some (H.sh k).epoch):St1 H (H.came i k)
 | got {H:Hs} {i:Nat} {x:Sx} {mode:Int} (h1:1≤i) (hi:i≤H.m) (hs:(H.tx i).state=1) (hx:x∈names) (hm:q16 mode) (hh:H.head (q00 x)≠none) (he:(H.tx i).shards (q00 x)=some (H.sh (q00 x)).epoch)
   (hw:q0w (atT (H.sh (q00 x)).tab x).ws i=false) (hf:freeB (atT (H.sh (q00 x)).tab x).h i mode (atT (H.sh (q00 x)).tab x).ws=true):St1 H (H.lkd i (q00 x) x mode)
 | wait {H:Hs} {i:Nat} {x:Sx} {mode:Int} (h1:1≤i) (hi:i≤H.m) (hs:(H.tx i).state=1) (hx:x∈names) (hm:q16 mode) (hh:H.head (q00 x)≠none) (he:(H.tx i).shards (q00 x)=some (H.sh (q00 x)).epoch)
   (hww:q0u (H.tx i).wants x=false) (hw:q0w (atT (H.sh (q00 x)).tab x).ws i=false) (hf:freeB (atT (H.sh (q00 x)).tab x).h i mode (atT (H.sh (q00 x)).tab x).ws=false):St1 H ((H.lkd i (q00 x) x mode).wantd i x mode)
 | tick {H:Hs} {s j:Nat} (hs:s<3) (hl:Lv H s j):St1 H (Hs.tickNd s H j)
 | arrive {H:Hs} {k:Nat} {m:Ms} (hk:H.net.l[k]? = some m):St1 H (({ H with net:=takeS H.net k } : Hs).arrive m)
inductive Star:Hs→Hs→Prop where
 | refl (H:Hs):Star H H
 | step {A B C:Hs} (h:St1 A B) (r:Star B C):Star A C
theorem Star.one {A B:Hs} (h:St1 A B):Star A B:=.step h (.refl B)
theorem Star.trans {A B C:Hs} (h:Star A B) (k:Star B C):Star A C:=by
 induction h with
 | refl=>exact k
 | step h _ ih=>exact .step h (ih k)
theorem St1.sm {H H':Hs} (h:St1 H H'):Sm H H':=by
 cases h with
 | abort=>exact(q1d _ _).1
 | tell=>exact⟨(q12 _ _ _ _).1,(q12 _ _ _ _).2.1,(q12 _ _ _ _).2.2.1⟩
 | prep=>exact Sm.add _ _ _ _ _
 | place=>exact⟨rfl,rfl,rfl⟩
 | timed=>exact⟨(q11 _ _).1,(q11 _ _).2.1,(q11 _ _).2.2.1⟩
 | decide=>exact Sm.add _ _ _ _ _
 | commit=>exact⟨rfl,rfl,rfl⟩
 | came=>exact⟨rfl,rfl,rfl⟩
 | got=>exact⟨rfl,rfl,rfl⟩
 | wait=>exact⟨rfl,rfl,rfl⟩
 | tick=>exact⟨rfl,rfl,rfl⟩
 | @arrive k m hk=>
  cases hn:Hs.node { H with net:=takeS H.net k } m.to_ with
  | none=>rw[q1c hn];exact⟨rfl,rfl,rfl⟩
  | some q=>
   obtain⟨s,j⟩:=q
   rw[q1b hn]
   have h:=q0b.take ((({ H with net:=takeS H.net k } : Hs).setNd s j (((H.sh s).nd j).step m).1).send (((H.sh s).nd j).step m).2) s
   exact⟨h.n,h.c,h.m⟩
theorem Star.sm {H H':Hs} (h:Star H H'):Sm H H':=by
 induction h with
 | refl=>exact Sm.refl _
 | step h _ ih=>exact h.sm.trans ih
section
variable {H:Hs} {i:Nat}
theorem q8t {kind:Int} (h1:1≤i):∀ (ks:List Nat) {H:Hs},i≤H.m→(∀ k∈ks,k<2)→((kind=3∧(H.tx i).state=3)∨(kind=4∧(H.tx i).state=4))→Star H (telld H i kind ks)
 | [],H,_,_,_=>Star.refl H
 | k::ks,H,hi,hk,hs=>by
  have e:=q12 H i kind k
  refine Star.step (St1.tell h1 hi (hk k List.mem_cons_self) hs) ?_
  exact q8t h1 ks (by rw[e.2.2.1];exact hi) (fun x hx=>hk x (List.mem_cons_of_mem _ hx)) (by rw[(e.2.2.2.2 i).1];exact hs)
theorem q5r {kind:Int} (h1:1≤i) (hi:i≤H.m) (hs:(kind=3∧(H.tx i).state=3)∨(kind=4∧(H.tx i).state=4)):Star H (H.tells i kind):=
 q8t h1 _ hi (fun _ hk=>q1a hk) hs
theorem add_sh (H:Hs) (s j:Nat) (c:Cm) (b:Bool) {k:Nat} (hk:k≠s):(H.add s j c b).2.sh k=H.sh k:=by
 unfold Hs.add
 split
 ·rfl
 ·exact((q0b.take _ s).sh k hk).trans (q1w H j _ hk)
theorem q6a {H H':Hs} {k:Nat} (hn:H'.n=H.n) (hs:H'.sh k=H.sh k):H'.head k=H.head k:=by unfold Hs.head;rw[hn,hs]
theorem StabC.congr {H H':Hs} {k:Nat} {kind id:Int} (h:StabC H k kind id) (hn:H'.n=H.n) (hs:H'.sh k=H.sh k):StabC H' k kind id:=by
 obtain⟨j,p,c,h1,h2,h3⟩:=h
 exact⟨j,p,c,by rw[q6a hn hs];exact h1,by unfold lg at *;rw[hs];exact h2,h3.1,h3.2.1,by unfold Hs.stable at *;rw[hs];exact h3.2.2⟩
theorem q57 (d:Nd) (c:Cm) (b:Bool):(d.add c b).1.1.head=d.head∧(d.add c b).1.1.id=d.id:=by
 have hg:(d.grow c).1.head=d.head∧(d.grow c).1.id=d.id:=by
  unfold Nd.grow Nd.tick
  split
  ·split
   ·exact⟨rfl,rfl⟩
   ·split <;> exact⟨rfl,rfl⟩
  ·exact⟨rfl,rfl⟩
 unfold Nd.add
 split
 ·exact⟨rfl,rfl⟩
 ·split
  ·exact⟨rfl,rfl⟩
  ·exact hg
theorem head_nd {H H':Hs} {k:Nat} (hn:H'.n=H.n) (hd:(H'.sh k).dead=(H.sh k).dead) (hx:∀ j,((H'.sh k).nd j).id=((H.sh k).nd j).id∧((H'.sh k).nd j).head=((H.sh k).nd j).head):H'.head k=H.head k:=by
 unfold Hs.head Shd.headIx Shd.liveIx
 rw[hn,hd]
 have e:(fun j=>!(H.sh k).dead ((H'.sh k).nd j).id)=(fun j=>!(H.sh k).dead ((H.sh k).nd j).id):=funext fun j=>by rw[(hx j).1]
 have e2:(fun j=>((H'.sh k).nd j).head)=(fun j=>((H.sh k).nd j).head):=funext fun j=>(hx j).2
 rw[e,e2]
theorem add_head (H:Hs) (s j:Nat) (c:Cm) (b:Bool) (k:Nat):(H.add s j c b).2.head k=H.head k:=by
 by_cases hk:k=s
 ·subst hk
  unfold Hs.add
  split
  ·rfl
  ·have ht:=q0b.take ((H.setNd k j (((H.sh k).nd j).add c b).1.1).send (((H.sh k).nd j).add c b).1.2) k
   refine head_nd ht.n ?_ (fun a=>?_)
   ·rw[ht.dead];show((H.setNd k j _).sh k).dead=_;rw[q0t]
   ·rw[ht.nd]
    show(((H.setNd k j _).sh k).nd a).id=_∧(((H.setNd k j _).sh k).nd a).head=_
    rw[q0t]
    by_cases e:a=j
    ·subst e;simp only[q03];exact⟨(q57 _ c b).2,(q57 _ c b).1⟩
    ·simp only[q07 e];exact⟨trivial,trivial⟩
 ·exact q6a (q0y H s j c b).1 (add_sh H s j c b hk)
theorem q3e (d:Nd) (c:Cm):(d.grow c).1.log=d.log++[c]:=by
 unfold Nd.grow Nd.tick
 split
 ·split
  ·rfl
  ·split <;> rfl
 ·rfl
theorem nadd_ok {d:Nd} {c:Cm} {b:Bool} (h:(d.add c b).2.2=0):(d.add c b).1=d.grow c∧(d.log.length:Int)≤(d.add c b).2.1:=by
 unfold Nd.add at *
 by_cases h1:(!d.head)=true
 ·rw[if_pos h1] at h;simp at h
 ·rw[if_neg h1] at h ⊢
  by_cases h2:d.log.length=500
  ·rw[if_pos h2] at h;simp at h
  ·rw[if_neg h2] at h ⊢
   refine⟨by first|rfl|trivial,?_⟩
   show _≤(if b=true then(d.log.length:Int)+1 else d.log.length)
   split <;> omega
theorem comes_congr {t t':Txn} (h:t'.shards=t.shards):t'.comes=t.comes:=by unfold Txn.comes;rw[h]
theorem add_ok {s j:Nat} {c:Cm} {b:Bool} (h:¬(H.add s j c b).1<0):lg (H.add s j c b).2 s j=lg H s j++[c]∧((lg H s j).length:Int)≤(H.add s j c b).1:=by
 unfold Hs.add at *
 split at h
 ·exact absurd (show(-1:Int)<0 by decide) h
 ·rename_i he
  rw[if_neg he]
  have e:=nadd_ok (d:=(H.sh s).nd j) (c:=c) (b:=b) (Classical.not_not.1 he)
  refine⟨?_,e.2⟩
  have ht:=q0b.take ((H.setNd s j (((H.sh s).nd j).add c b).1.1).send (((H.sh s).nd j).add c b).1.2) s
  unfold lg
  rw[ht.nd]
  show(((H.setNd s j _).sh s).nd j).log=_
  rw[q0t]
  simp only[q03]
  rw[e.1,q3e]
theorem end1_star {k:Nat} (b:Bool) (wf:Wf H) (h1:1≤i) (hi:i≤H.m) (hk:k∈(H.tx i).comes) (hs:(H.tx i).state=2) :
  Star H (H.end1 i k b).1∧((H.end1 i k b).2≠none→(∀ a,a≠k→(H.end1 i k b).1.sh a=H.sh a)∧((H.end1 i k b).1.tx i).shards=(H.tx i).shards)∧((H.end1 i k b).2=some true→StabC (H.end1 i k b).1 k 2 i):=by
 cases hh:H.head k with
 | none=>rw[q5j hh];exact⟨Star.refl H,fun _=>⟨fun _ _=>rfl,rfl⟩,fun h=>by simp at h⟩
 | some j=>
  cases hp:place ((H.sh k).nd j).log 2 i with
  | some p=>
   rw[q4e hh hp]
   refine⟨Star.one (St1.place p h1 hi hk (by omega) hs),fun _=>⟨fun _ _=>rfl,?_⟩,fun h=>?_⟩
   ·show(upd H.tx i _ i).shards=_;rw[q03]
   ·obtain⟨c,hc,hc2⟩:=q92 hp
    refine⟨j,p,c,hh,hc,hc2.1,hc2.2,?_⟩
    simp only[Option.some.injEq,decide_eq_true_eq] at h
    exact h
  | none=>
   by_cases hb:BadE H i k
   ·by_cases ht:(H.tx i).time=0
    ·rw[q5m hh hp hb ht];exact⟨Star.one (St1.abort h1 hi (.inr ⟨hs,ht⟩)),fun h=>absurd rfl h,fun h=>by simp at h⟩
    ·rw[q5l hh hp hb ht];exact⟨Star.refl H,fun _=>⟨fun _ _=>rfl,rfl⟩,fun h=>by simp at h⟩
   ·have hb2:=hb
    unfold BadE at hb2
    simp only[not_or] at hb2
    obtain⟨hb0,hb1,hb3⟩:=hb2
    have hsk:(H.tx i).shards k=some (H.sh k).epoch:=by
     have h5:=(q2l.1 hk).2
     cases e:(H.tx i).shards k with
     | none=>exact absurd e h5
     | some v=>rw[e] at hb1;simp only[Option.getD_some,ne_eq,Classical.not_not] at hb1;rw[hb1]
    have hsame:=q0y H k j ⟨2,i,0,(H.tx i).of k⟩ b
    have ht0:(H.tx i).time=0:=by have:=wf.tle i h1 hi;omega
    have hst:=Star.one (St1.prep b h1 hi hk hh (q62.1 hp) hs ht0 hsk (by omega))
    by_cases ha:(H.add k j ⟨2,i,0,(H.tx i).of k⟩ b).1<0
    ·rw[q5k hh hp hb ha]
     refine⟨hst.trans (Star.one (St1.abort h1 (by rw[hsame.2.2.1];exact hi) (.inr ⟨by rw[(hsame.2.2.2.2 i).1];exact hs,by rw[(hsame.2.2.2.2 i).2.2.2.2];exact ht0⟩))),fun h=>absurd rfl h,fun h=>by simp at h⟩
    ·rw[q6v hh hp hb ha]
     have hcom:((H.add k j ⟨2,i,0,(H.tx i).of k⟩ b).2.tx i).comes=(H.tx i).comes:=by unfold Txn.comes;rw[(hsame.2.2.2.2 i).2.2.1]
     refine⟨hst.trans (Star.one (St1.place _ h1 (by rw[hsame.2.2.1];exact hi) (by rw[hcom];exact hk) (by omega) (by rw[(hsame.2.2.2.2 i).1];exact hs))),fun _=>⟨fun a hak=>add_sh H k j _ b hak,?_⟩,fun h=>?_⟩
     ·show(((H.add k j ⟨2,i,0,(H.tx i).of k⟩ b).2.setTx i _).tx i).shards=_;rw[q2f];exact(hsame.2.2.2.2 i).2.2.1
     ·simp only[Option.some.injEq,decide_eq_true_eq] at h
      obtain⟨g1,g2⟩:=add_ok ha
      refine⟨j,(lg H k j).length,⟨2,i,0,(H.tx i).of k⟩,(add_head H k j _ b k).trans hh,?_,rfl,rfl,?_⟩
      ·show(lg (H.add k j ⟨2,i,0,(H.tx i).of k⟩ b).2 k j)[_]? = _
       rw[g1];simp
      ·show _<(H.add k j ⟨2,i,0,(H.tx i).of k⟩ b).2.stable k j
       omega
theorem q9e (b:Nat→Bool) (h1:1≤i):∀ (ks:List Nat) {H:Hs} (all:Bool),Wf H→H.c=3→i≤H.m→(H.tx i).state=2→(∀ k∈ks,k∈(H.tx i).comes)→ks.Nodup→
  Star H (Hs.endsL i b ks H all).1∧((Hs.endsL i b ks H all).2≠none→(∀ a,a ∉ ks→(Hs.endsL i b ks H all).1.sh a=H.sh a)∧((Hs.endsL i b ks H all).1.tx i).shards=(H.tx i).shards)∧
   ((Hs.endsL i b ks H all).2=some true→∀ k∈ks,StabC (Hs.endsL i b ks H all).1 k 2 i)
 | [],H,all,_,_,_,_,_,_=>⟨Star.refl H,fun _=>⟨fun _ _=>rfl,rfl⟩,fun _ k hk=>by cases hk⟩
 | k::ks,H,all,wf,hc,hi,hs,hks,hn=>by
  rw[List.nodup_cons] at hn
  have hk:=hks k List.mem_cons_self
  obtain⟨g1,g2,g3⟩:=end1_star (b k) wf h1 hi hk hs
  have f1:=q6d H i k (b k)
  have hw:=wf.end1 hc h1 hi (q1a hk) (b k)
  have hdef:Hs.endsL i b (k::ks) H all=(match (H.end1 i k (b k)).2 with|none=>((H.end1 i k (b k)).1,none)|some a=>Hs.endsL i b ks (H.end1 i k (b k)).1 (all && a)):=rfl
  rw[hdef]
  cases e:(H.end1 i k (b k)).2 with
  | none=>exact⟨g1,fun h=>absurd rfl h,fun h=>by simp at h⟩
  | some a=>
   have hne:(H.end1 i k (b k)).2≠none:=by rw[e];simp
   obtain⟨g4,g5⟩:=g2 hne
   have hcom:((H.end1 i k (b k)).1.tx i).comes=(H.tx i).comes:=by unfold Txn.comes;rw[g5]
   obtain⟨q1,q2,q3⟩:=q9e b h1 ks (all && a) hw (f1.sm.c.trans hc) (by rw[f1.sm.m];exact hi) (by rw[f1.on hne];exact hs) (fun x hx=>by rw[hcom];exact hks x (List.mem_cons_of_mem _ hx)) hn.2
   simp only
   refine⟨g1.trans q1,fun hne2=>?_,fun h x hx=>?_⟩
   ·obtain⟨q4,q5⟩:=q2 hne2
    exact⟨fun x hx=>(q4 x (fun h=>hx (List.mem_cons_of_mem _ h))).trans (g4 x (fun e=>hx (e▸List.mem_cons_self))),q5.trans g5⟩
   ·rcases List.mem_cons.1 hx with rfl|hx
    ·have hall:a=true:=by
      cases a with
      | true=>rfl
      | false=>
       exfalso
       have hf:∀ (ks:List Nat) (H:Hs),(Hs.endsL i b ks H false).2≠some true:=by
        intro ks
        induction ks with
        | nil=>intro H h;simp[Hs.endsL] at h
        | cons y ks ih=>
         intro H h
         have hd:Hs.endsL i b (y::ks) H false=(match (H.end1 i y (b y)).2 with|none=>((H.end1 i y (b y)).1,none)|some a=>Hs.endsL i b ks (H.end1 i y (b y)).1 (false && a)):=rfl
         rw[hd] at h
         cases e2:(H.end1 i y (b y)).2 with
         | none=>rw[e2] at h;simp at h
         | some a=>rw[e2] at h;exact ih _ h
       rw[Bool.and_false] at h
       exact hf _ _ h
     subst hall
     exact(g3 e).congr (q1.sm.n) ((q2 (by rw[h];simp)).1 x hn.1)
    ·exact q3 h x hx
theorem timed_tx (wf:Wf H) (h1:1≤i) (hi:i≤H.m):((H.timed i).tx i).time≠0:=by
 have ht:=wf.tle i h1 hi
 have h60:=wf.time60
 unfold Hs.timed
 split
 ·show(upd H.tx i _ i).time≠0
  rw[q03]
  show wrap64 (H.time+1)≠0
  rw[show wrap64 (H.time+1)=H.time+1 from IntWalk.wrap64_in _ ⟨by omega,by omega⟩]
  omega
 ·rename_i h;exact h
theorem q77 (h1:1≤i) (hi:i≤H.m) (hs:(H.tx i).state=2) (hp:StabC H 2 3 i):Star H (H.commit i):=by
 refine Star.step (St1.commit h1 hi hs hp) ?_
 refine q5r (H:=H.stateTx i 3) h1 hi (.inl ⟨rfl,?_⟩)
 show(upd H.tx i _ i).state=3;rw[q03]
theorem decides_star (b:Bool) (wf:Wf H) (h1:1≤i) (hi:i≤H.m) (hs:(H.tx i).state=2) (hp:∀ k∈(H.tx i).comes,StabC H k 2 i):Star H (H.decides i b).1:=by
 cases hh:H.head 2 with
 | none=>rw[q5n hh];exact Star.refl H
 | some j=>
  cases hpl:place ((H.sh 2).nd j).log 3 i with
  | some p=>
   rw[q6w hh hpl]
   split
   ·exact Star.refl H
   ·rename_i hst
    obtain⟨c,c1,c2,c3⟩:=q92 hpl
    exact q77 h1 hi hs ⟨j,p,c,hh,c1,c2,c3,by omega⟩
  | none=>
   rw[qa4 hh hpl]
   have ht:=q11 H i
   have e0:=St1.timed h1 hi hs hp
   have hh2:(H.timed i).head 2=some j:=by rw[q6a ht.1 (by rw[ht.2.2.2.1])];exact hh
   have hpl2:¬HasC (lg (H.timed i) 2 j) 3 i:=by unfold lg;rw[ht.2.2.2.1];exact q62.1 hpl
   have hsame:=q0y (H.timed i) 2 j ⟨3,i,((H.timed i).tx i).time,[]⟩ b
   have hs2:((H.timed i).tx i).state=2:=(q4l H i i).trans hs
   have e1:Star H ((H.timed i).add 2 j ⟨3,i,((H.timed i).tx i).time,[]⟩ b).2:=Star.step e0 (Star.one (St1.decide b h1 (by rw[ht.2.2.1];exact hi) hh2 hpl2 hs2 (timed_tx wf h1 hi)))
   split
   ·exact e1
   ·rename_i ha
    split
    ·exact e1
    ·rename_i hst
     obtain⟨g1,g2⟩:=add_ok ha
     refine e1.trans (q77 h1 (by rw[hsame.2.2.1,ht.2.2.1];exact hi) (by rw[(hsame.2.2.2.2 i).1];exact hs2) ⟨j,(lg (H.timed i) 2 j).length,⟨3,i,((H.timed i).tx i).time,[]⟩,(add_head _ 2 j _ b 2).trans hh2,by rw[g1];simp,rfl,rfl,?_⟩)
     omega
theorem ends_star (b:Nat→Bool) (wf:Wf H) (hc:H.c=3) (h1:1≤i) (hi:i≤H.m) (hs:(H.tx i).state=2):Star H (H.ends i b).1:=by
 obtain⟨g1,g2,g3⟩:=q9e b h1 (H.tx i).comes true wf hc hi hs (fun _ h=>h) (q88 _)
 have f:=q3p i b (H.tx i).comes H true
 have hw:=Wf.endsL (b:=b) h1 (H.tx i).comes true wf hc hi (fun k hk=>q1a hk)
 cases e:(Hs.endsL i b (H.tx i).comes H true).2 with
 | none=>rw[q5i (show _=((Hs.endsL i b (H.tx i).comes H true).1,none) from by rw[← e])];exact g1
 | some a=>
  cases a with
  | false=>rw[q4d (show _=((Hs.endsL i b (H.tx i).comes H true).1,some false) from by rw[← e])];exact g1
  | true=>
   rw[q5h (show _=((Hs.endsL i b (H.tx i).comes H true).1,some true) from by rw[← e])]
   have hne:(Hs.endsL i b (H.tx i).comes H true).2≠none:=by rw[e];simp
   have hcom:((Hs.endsL i b (H.tx i).comes H true).1.tx i).comes=(H.tx i).comes:=comes_congr (g2 hne).2
   exact g1.trans (decides_star _ hw h1 (by rw[f.sm.m];exact hi) (by rw[f.on hne];exact hs) (by rw[hcom];exact g3 e))
theorem settle1_star (b:Nat→Bool) (wf:Wf H) (hc:H.c=3) (h1:1≤i) (hi:i≤H.m):Star H (H.settle1 i b).1:=by
 unfold Hs.settle1
 split
 ·rename_i h;exact ends_star b wf hc h1 hi h
 ·split
  ·rename_i h;exact q5r h1 hi (.inl ⟨rfl,h⟩)
  ·split
   ·rename_i h;exact q5r h1 hi (.inr ⟨rfl,h⟩)
   ·exact Star.refl H
theorem q5x (bs:Nat→Nat→Bool):∀ (k i:Nat) (r:Hs×Bool),Wf r.1→r.1.c=3→1≤i→i+k≤r.1.m+1→Star r.1 (Hs.round bs k i r).1
 | 0,_,r,_,_,_,_=>Star.refl r.1
 | k+1,i,r,wf,hc,h1,hk=>by
  have hs:=settle1_star (bs i) wf hc h1 (show i≤r.1.m by omega)
  exact hs.trans (q5x bs k (i+1) ((r.1.settle1 i (bs i)).1,(r.1.settle1 i (bs i)).2 || r.2) (wf.settle1 hc h1 (by omega) _) (hs.sm.c.trans hc) (by omega) (by show _≤(r.1.settle1 i (bs i)).1.m+1;rw[hs.sm.m];omega))
theorem q2y {H H':Hs} (h:q10 H H'):Wf H→H.c=3→Star H H':=by
 induction h with
 | @stop H bs _=>exact fun wf hc=>q5x bs H.m 1 (H,false) wf hc (Nat.le_refl _) (by show _≤H.m+1;omega)
 | @more H H' bs _ _ ih=>
  intro wf hc
  have h1:=q5x bs H.m 1 (H,false) wf hc (Nat.le_refl _) (by show _≤H.m+1;omega)
  exact h1.trans (ih (Wf.round H.m 1 (r:=(H,false)) wf hc (Nat.le_refl _) (by show _≤H.m+1;omega)) (h1.sm.c.trans hc))
end
section
variable {H:Hs} {i:Nat}
theorem lkd_same {k:Sx} {mode:Int} (h:lockT (H.sh (q00 k)).tab i k mode=(H.sh (q00 k)).tab):H.lkd i (q00 k) k mode=H:=by
 unfold Hs.lkd
 rw[h]
 exact q5u H _
theorem wound_star (_wf:Wf H) (o:Int):Star H (H.wound o):=by
 unfold Hs.wound
 split
 ·rename_i h
  have e:((o.toNat:Nat):Int)=o:=by omega
  exact Star.one (St1.abort (by omega) (by omega) (.inl h.2.2))
 ·exact Star.refl H
theorem q71:∀ (l:List Int) {H:Hs},Wf H→H.c=3→Star H (Go.Proofs.YtccahlhdifadfaaGreatDoor.woundd H l)
 | [],H,_,_=>Star.refl H
 | o::l,H,wf,hc=>by
  have h1:=wound_star wf o
  exact h1.trans (q71 l (wf.wound hc o) (h1.sm.c.trans hc))
theorem lockIn_star {k:Sx} {mode:Int} (wf:Wf H) (hc:H.c=3) (h1:1≤i) (hi:i≤H.m) (hs:(H.tx i).state=1) (hk:k∈names) (hm:q16 mode) (hh:H.head (q00 k)≠none) (he:(H.tx i).shards (q00 k)=some (H.sh (q00 k)).epoch)
  (hw:q0u (H.tx i).wants k=false):Star H (H.lockIn i k mode).2:=by
 by_cases h2:q0w (atT (H.sh (q00 k)).tab k).ws i=true
 ·rw[q41 h2]
  show Star H (H.lkd i (q00 k) k mode)
  rw[lkd_same (by unfold lockT;rw[if_pos h2])]
  exact Star.refl H
 ·have h2:q0w (atT (H.sh (q00 k)).tab k).ws i=false:=by simpa using h2
  by_cases h3:freeB (atT (H.sh (q00 k)).tab k).h i mode (atT (H.sh (q00 k)).tab k).ws=true
  ·rw[q68 h2 h3]
   exact Star.one (St1.got h1 hi hs hk hm hh he h2 h3)
  ·have h3:freeB (atT (H.sh (q00 k)).tab k).h i mode (atT (H.sh (q00 k)).tab k).ws=false:=by simpa using h3
   by_cases h4:(atT (H.sh (q00 k)).tab k).ws.length=50
   ·rw[q4r h2 h3 h4]
    show Star H (H.lkd i (q00 k) k mode)
    rw[lkd_same (by unfold lockT;rw[h2,if_neg (by simp),h3,if_neg (by simp),if_pos h4])]
    exact Star.refl H
   ·rw[q40 h2 h3 h4]
    have hs1:=St1.wait h1 hi hs hk hm hh he hw h2 h3
    refine Star.step hs1 ?_
    have w1:Wf ((H.lkd i (q00 k) k mode).wantd i k mode):=(wf.lkd h1 hi (s:=q00 k) (by have:=q18 k;omega) hk).wantd h1 hi hk hw
    exact q71 _ w1 hc
theorem q5a {id:Int} {k:Sx} {mode:Int} (wf:Wf H) (hc:H.c=3) (hk:k∈names) (hm:q16 mode):Star H (H.lock id k mode).2:=by
 by_cases h0:id<1∨H.m<id
 ·rw[q1o h0];exact Star.refl H
 ·obtain⟨i,rfl⟩:∃ i:Nat,id=i:=⟨id.toNat,by omega⟩
  have h1:1≤i:=by omega
  have hi:i≤H.m:=by omega
  by_cases hs:(H.tx i).state=1
  ·by_cases hh:H.head (q00 k)=none
   ·rw[q7t h1 hi hs (q1n hk) hh];exact Star.refl H
   ·by_cases hst:q6m H i (q00 k)
    ·rw[q67 h1 hi hs (q1n hk) hh hst];exact Star.one (St1.abort h1 hi (.inl hs))
    ·have hsh:(H.tx i).shards (q00 k)=none∨(H.tx i).shards (q00 k)=some (H.sh (q00 k)).epoch:=by
      cases e:(H.tx i).shards (q00 k) with
      | none=>exact .inl rfl
      | some v=>exact .inr (by rw[Classical.byContradiction (fun h=>hst ⟨v,e,h⟩)])
     have hcm:=St1.came h1 hi (q18 k) hs hh hsh
     by_cases hw:q0u (H.tx i).wants k=true
     ·rw[q65 h1 hi hs (q1n hk) hh hst hw];exact Star.one hcm
     ·have hw:q0u (H.tx i).wants k=false:=by simpa using hw
      rw[lock_in h1 hi hs (q1n hk) hh hst hw]
      refine Star.step hcm (lockIn_star (wf.came h1 hi (q18 k)) hc h1 hi ?_ hk hm hh ?_ ?_)
      ·show(upd H.tx i _ i).state=1;rw[q03];exact hs
      ·show(upd H.tx i _ i).shards _=_;rw[q03]
       show setF _ _ _ _=_;unfold setF;rw[if_pos rfl];rfl
      ·show q0u (upd H.tx i _ i).wants k=false;rw[q03];exact hw
  ·rw[q66 h1 hi hs];exact Star.refl H
theorem drop_star (id:Int):Star H (H.drop id).2:=by
 unfold Hs.drop
 split
 ·exact Star.refl H
 ·split
  ·exact Star.refl H
  ·rename_i h1 h2
   exact Star.one (St1.abort (by omega) (by omega) (.inl (Classical.not_not.1 h2)))
theorem q0n (d:Nd):d.tick.1.id=d.id∧d.tick.1.log=d.log∧d.tick.1.epoch=d.epoch∧d.tick.1.nodes=d.nodes∧d.tick.1.at_=d.at_:=by
 unfold Nd.tick
 split
 ·exact⟨rfl,rfl,rfl,rfl,rfl⟩
 ·split <;> exact⟨rfl,rfl,rfl,rfl,rfl⟩
theorem tickNd_lv (s j t a:Nat):Lv (Hs.tickNd s H j) t a↔Lv H t a:=q59 (H:=H) (q0n _).1
theorem q75 {s:Nat} (hs:s<3):∀ (l:List Nat) {H:Hs},(∀ j∈l,Lv H s j)→Star H (tickds s H l)
 | [],H,_=>Star.refl H
 | j::l,_H,hl=>Star.step (St1.tick hs (hl j List.mem_cons_self)) (q75 hs l (fun a ha=>(tickNd_lv s j s a).2 (hl a (List.mem_cons_of_mem _ ha))))
theorem q8r:∀ (ss:List Nat) {H:Hs},(∀ s∈ss,s<3)→Star H (tickd H ss)
 | [],H,_=>Star.refl H
 | s::ss,H,hs=>by
  have h1:Star H (H.tickSh s):=by rw[tickSh_eq];exact q75 (hs s List.mem_cons_self) _ (fun j hj=>q1i.1 hj)
  exact h1.trans (q8r ss (fun x hx=>hs x (List.mem_cons_of_mem _ hx)))
theorem q76 {H':Hs} (h:TickR H H') (wf:Wf H) (hc:H.c=3):Star H H':=by
 have h1:Star H H.ticks:=q8r [0,1,2] (by simp)
 have hw:Wf H.ticks:=Wf.tickd [0,1,2] wf hc (by simp)
 exact h1.trans (q2y h hw (h1.sm.c.trans hc))
theorem q46 {k:Nat} {H':Hs} (h:q1t H k H') (wf:Wf H) (hc:H.c=3):Star H H':=by
 cases h with
 | none _=>exact Star.refl H
 | @some m hm _ r=>
  have h1:=St1.arrive hm
  exact Star.step h1 (q2y r ((wf.take1 k).arrive hc (wf.net m (List.mem_of_getElem? hm))) (h1.sm.c.trans hc))
theorem drain_star {n:Nat} {H H':Hs} (h:q4k n H H'):Wf H→H.c=3→Star H H':=by
 induction h with
 | zero=>exact fun _ _=>Star.refl _
 | none _=>exact fun _ _=>Star.refl _
 | more _ d _ ih=>
  intro wf hc
  have h1:=q46 d wf hc
  exact h1.trans (ih (d.wf wf hc).1 (h1.sm.c.trans hc))
theorem Drain.wf {n:Nat} {H H':Hs} (h:q4k n H H'):Wf H→H.c=3→Wf H':=by
 induction h with
 | zero=>exact fun h _=>h
 | none _=>exact fun h _=>h
 | more _ d _ ih=>exact fun wf hc=>ih (d.wf wf hc).1 ((d.wf wf hc).2.c.trans hc)
theorem calm_star {n:Nat} {H H':Hs} (h:CalmR n H H'):Wf H→H.c=3→Star H H':=by
 induction h with
 | zero=>exact fun _ _=>Star.refl _
 | more t d _ ih=>
  intro wf hc
  have h1:=q76 t wf hc
  have w1:=(t.wf wf hc).1
  have h2:=drain_star d w1 (h1.sm.c.trans hc)
  exact(h1.trans h2).trans (ih (Drain.wf d w1 (h1.sm.c.trans hc)) ((h1.trans h2).sm.c.trans hc))
end
end Go.Proofs.YtccahlhdifadfaaGreatDoor
