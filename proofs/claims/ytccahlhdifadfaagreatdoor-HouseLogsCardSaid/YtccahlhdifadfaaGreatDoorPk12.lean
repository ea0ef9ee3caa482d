/- Part 13 of the texts that the claim rests on (of 19): Pe1, Pf1, HfR, HfS. -/
import Derived.Test.YtccahlhdifadfaaGreatDoorPk11
import Derived.StillTailTactics
namespace Go.Proofs.YtccahlhdifadfaaGreatDoor
open Go.RowKit
set_option maxRecDepth 100000
set_option maxHeartbeats 16000000
def stt (H:Hs) (id:Int):Int:=(H.tx id.toNat).state
def tmt (H:Hs) (id:Int):Int:=(H.tx id.toNat).time
def LogK (H:Hs) (l:List Cm):Prop:=∀ (p:Nat) (c:Cm),l[p]? = some c→(1≤c.tx∧c.tx≤H.m)∧
 (c.kind=2∨(c.kind=3∧stt H c.tx=3∧c.time=tmt H c.tx∧1≤c.time∧HasC (l.take p) 2 c.tx)∨(c.kind=4∧stt H c.tx=4))
def Log2 (H:Hs) (l:List Cm):Prop:=∀ c∈l,(1≤c.tx∧c.tx≤H.m)∧c.kind=3∧c.time=tmt H c.tx∧1≤c.time
structure LgI (H:Hs):Prop where
 pl:∀ k,k<2→∀ j,Lv H k j→LogK H (lg H k j)
 p2:∀ j,Lv H 2 j→Log2 H (lg H 2 j)
 ct:∀ i,1≤i→i≤H.m→(H.tx i).state=3→1≤(H.tx i).time
structure TxM (H H':Hs):Prop where
 m:H.m≤H'.m
 s3:∀ i,1≤i→i≤H.m→(H.tx i).state=3→(H'.tx i).state=3
 s4:∀ i,1≤i→i≤H.m→(H.tx i).state=4→(H'.tx i).state=4
 tm:∀ i,1≤i→i≤H.m→1≤(H.tx i).time→(H'.tx i).time=(H.tx i).time
theorem TxM.refl (H:Hs):TxM H H:=⟨Nat.le_refl _,fun _ _ _ h=>h,fun _ _ _ h=>h,fun _ _ _ _=>rfl⟩
theorem TxM.trans {A B C:Hs} (h:TxM A B) (k:TxM B C):TxM A C:=
 ⟨Nat.le_trans h.m k.m,fun i h1 hi e=>k.s3 i h1 (Nat.le_trans hi h.m) (h.s3 i h1 hi e),fun i h1 hi e=>k.s4 i h1 (Nat.le_trans hi h.m) (h.s4 i h1 hi e),
  fun i h1 hi e=>(k.tm i h1 (Nat.le_trans hi h.m) (by rw[h.tm i h1 hi e];exact e)).trans (h.tm i h1 hi e)⟩
theorem TxM.of {H H':Hs} (hm:H'.m=H.m) (h:∀ i,(H'.tx i).state=(H.tx i).state∧(H'.tx i).time=(H.tx i).time):TxM H H':=
 ⟨by omega,fun i _ _ e=>(h i).1.trans e,fun i _ _ e=>(h i).1.trans e,fun i _ _ _=>(h i).2⟩
theorem HasC.mono {l l':List Cm} {kind id:Int} (h:HasC l kind id) (hl:∀ c∈l,c∈l'):HasC l' kind id:=by obtain⟨c,hc,h2⟩:=h;exact⟨c,hl c hc,h2⟩
theorem LogK.mono {H H':Hs} (t:TxM H H') {l l':List Cm} (h:LogK H l) (hp:l' <+: l):LogK H' l':=fun p c hc=>by
 have hc2:=getElem?_prefix hp hc
 obtain⟨⟨h1,h2⟩,h3⟩:=h p c hc2
 have hi:c.tx.toNat≤H.m:=by omega
 have hi1:1≤c.tx.toNat:=by omega
 refine⟨⟨h1,by have:=t.m;omega⟩,h3.imp id (Or.imp (fun⟨a1,a2,a3,a4,a5⟩=>⟨a1,t.s3 _ hi1 hi a2,?_,a4,?_⟩) (fun⟨a1,a2⟩=>⟨a1,t.s4 _ hi1 hi a2⟩))⟩
 ·rw[a3];exact(t.tm _ hi1 hi (by show 1≤tmt H c.tx;omega)).symm
 ·obtain⟨r,rfl⟩:=hp
  have hlt:=(List.getElem?_eq_some_iff.1 hc).1
  rw[List.take_append_of_le_length (by omega)] at a5
  exact a5
theorem Log2.mono {H H':Hs} (t:TxM H H') {l l':List Cm} (h:Log2 H l) (hp:l' <+: l):Log2 H' l':=fun c hc=>by
 obtain⟨⟨h1,h2⟩,h3,h4,h5⟩:=h c (hp.subset hc)
 have hi:c.tx.toNat≤H.m:=by omega
 have hi1:1≤c.tx.toNat:=by omega
 exact⟨⟨h1,by have:=t.m;omega⟩,h3,by rw[h4];exact(t.tm _ hi1 hi (by show 1≤tmt H c.tx;omega)).symm,h5⟩
def LgSub (H H':Hs):Prop:=∀ k j,k<3→Lv H' k j→∃ i,Lv H k i∧lg H' k j <+: lg H k i
def NoCm (H H':Hs):Prop:=∀ i,1≤i→i≤H'.m→(H'.tx i).state=3→i≤H.m∧(H.tx i).state=3
theorem NoCm.of {H H':Hs} (hm:H'.m=H.m) (h:∀ i,(H'.tx i).state=(H.tx i).state):NoCm H H':=fun i _ hi e=>⟨by omega,(h i).symm.trans e⟩
theorem LgI.sub' {H H':Hs} (h:LgI H) (t:TxM H H') (s:LgSub H H') (hct:∀ i,1≤i→i≤H'.m→(H'.tx i).state=3→1≤(H'.tx i).time):LgI H':=
 ⟨fun k hk j hj=>by obtain⟨i,hi,hp⟩:=s k j (by omega) hj;exact(h.pl k hk i hi).mono t hp,
  fun j hj=>by obtain⟨i,hi,hp⟩:=s 2 j (by omega) hj;exact(h.p2 i hi).mono t hp,hct⟩
theorem LgI.sub {H H':Hs} (h:LgI H) (t:TxM H H') (n:NoCm H H') (s:LgSub H H'):LgI H':=
 h.sub' t s (fun i h1 hi e=>by obtain⟨a,b⟩:=n i h1 hi e;have:=h.ct i h1 a b;rw[t.tm i h1 a this];exact this)
theorem LgSub.same {H H':Hs} (h:q09 H H'):LgSub H H':=fun k j _ hj=>⟨j,h.lv.1 hj,by rw[h.lg];exact List.prefix_refl _⟩
section
variable {H:Hs} {i:Nat}
theorem add_err_eq {s j:Nat} {c:Cm} {b:Bool} (h:(((H.sh s).nd j).add c b).2.2≠0):(H.add s j c b).2=H:=by unfold Hs.add;rw[if_pos h]
theorem add_lg (H:Hs) (s j:Nat) (c:Cm) (b:Bool):((H.add s j c b).2=H∨∀ a i,lg (H.add s j c b).2 a i=if a=s∧i=j then lg H s j++[c] else lg H a i)∧∀ a i,Lv (H.add s j c b).2 a i↔Lv H a i:=by
 by_cases he:(((H.sh s).nd j).add c b).2.2=0
 ·have e:=(nadd_ok he).1
  have hs:=q09.take ((H.setNd s j (((H.sh s).nd j).add c b).1.1).send (((H.sh s).nd j).add c b).1.2) s
  have hd:(H.add s j c b).2=((H.setNd s j (((H.sh s).nd j).add c b).1.1).send (((H.sh s).nd j).add c b).1.2).take s:=by unfold Hs.add;rw[if_neg (by simp[he])]
  rw[hd]
  refine⟨.inr fun a i=>?_,fun a i=>?_⟩
  ·rw[hs.lg]
   show lg (H.setNd s j _) a i=_
   rw[q4b,e,q3e]
   rfl
  ·rw[hs.lv]
   exact q59 (H:=H) (s:=s) (j:=j) (q57 _ c b).2
 ·rw[add_err_eq he];exact⟨.inl rfl,fun _ _=>Iff.rfl⟩
theorem add_txm (H:Hs) (s j:Nat) (c:Cm) (b:Bool):TxM H (H.add s j c b).2:=by
 have h:=q0y H s j c b
 exact TxM.of h.2.2.1 (fun i=>⟨(h.2.2.2.2 i).1,(h.2.2.2.2 i).2.2.2.2⟩)
theorem q6f {l:List Cm} {c:Cm} {p:Nat} (h:p≤l.length):(l++[c]).take p=l.take p:=List.take_append_of_le_length h
theorem LgI.add (h:LgI H) {s j:Nat} {c:Cm} (b:Bool) (hl:Lv H s j) (hc:1≤c.tx∧c.tx≤H.m)
  (hk:s<2→c.kind=2∨(c.kind=3∧stt H c.tx=3∧c.time=tmt H c.tx∧1≤c.time∧HasC (lg H s j) 2 c.tx)∨(c.kind=4∧stt H c.tx=4))
  (hk2:s=2→c.kind=3∧c.time=tmt H c.tx∧1≤c.time):LgI (H.add s j c b).2:=by
 obtain⟨h1,h2⟩:=add_lg H s j c b
 rcases h1 with h1|h1
 ·rw[h1];exact h
 ·have t:=add_txm H s j c b
  have hs:=q0y H s j c b
  have hst:∀ id,stt (H.add s j c b).2 id=stt H id:=fun id=>(hs.2.2.2.2 _).1
  have htm:∀ id,tmt (H.add s j c b).2 id=tmt H id:=fun id=>(hs.2.2.2.2 _).2.2.2.2
  refine⟨fun k hk3 a ha=>?_,fun a ha=>?_,fun a g1 g2 e=>by rw[(hs.2.2.2.2 a).2.2.2.2];exact h.ct a g1 (by rw[← hs.2.2.1];exact g2) ((hs.2.2.2.2 a).1.symm.trans e)⟩
  ·rw[h1]
   split
   ·rename_i e
    obtain⟨rfl,rfl⟩:=e
    intro p d hd
    by_cases hp:p<(lg H k a).length
    ·rw[List.getElem?_append_left hp] at hd
     have:=(h.pl k hk3 a hl).mono t (List.prefix_refl _) p d hd
     rw[q6f (by omega)]
     exact this
    ·rw[List.getElem?_append_right (by omega)] at hd
     have hp0:p-(lg H k a).length=0:=by
      have:=(List.getElem?_eq_some_iff.1 hd).1
      simp at this;omega
     rw[hp0] at hd
     simp only[List.getElem?_cons_zero,Option.some.injEq] at hd
     subst hd
     rw[q6f (by omega),hst,htm,hs.2.2.1]
     have e2:(lg H k a).take p=lg H k a:=List.take_of_length_le (by omega)
     rw[e2]
     exact⟨hc,hk hk3⟩
   ·exact(h.pl k hk3 a ((h2 k a).1 ha)).mono t (List.prefix_refl _)
  ·rw[h1]
   split
   ·rename_i e
    obtain⟨rfl,rfl⟩:=e
    intro d hd
    rcases List.mem_append.1 hd with hd|hd
    ·exact(h.p2 a hl).mono t (List.prefix_refl _) d hd
    ·rw[List.mem_singleton] at hd
     subst hd
     rw[htm,hs.2.2.1]
     exact⟨hc,hk2 rfl⟩
   ·exact(h.p2 a ((h2 2 a).1 ha)).mono t (List.prefix_refl _)
theorem LgI.tell1 (h:LgI H) {k:Nat} {kind:Int} (h1:1≤i) (hi:i≤H.m) (hk:k<2) (hs:(kind=3∧(H.tx i).state=3∧1≤(H.tx i).time)∨(kind=4∧(H.tx i).state=4)):LgI (H.tell1 i kind k):=by
 cases hh:H.head k with
 | none=>rw[q2a hh];exact h
 | some j=>
  rw[q29 hh]
  split
  ·rename_i hp
   refine h.add false (q3f hh).1 (by show 1≤(i:Int)∧(i:Int)≤H.m;omega) (fun _=>?_) (fun e=>by omega)
   rcases hs with ⟨rfl,hs,ht⟩|⟨rfl,hs⟩
   ·refine .inr (.inl ⟨rfl,hs,?_,?_,?_⟩)
    ·show(if (3:Int)=3 then(H.tx i).time else 0)=_;rw[if_pos rfl];rfl
    ·show 1≤(if (3:Int)=3 then(H.tx i).time else 0);rw[if_pos rfl];exact ht
    ·have:=hp.2
     rw[ne_eq,q62,Classical.not_not] at this
     exact this
   ·exact .inr (.inr ⟨rfl,hs⟩)
  ·exact h
theorem LgI.telld {kind:Int} (h1:1≤i):∀ (ks:List Nat) {H:Hs},LgI H→i≤H.m→(∀ k∈ks,k<2)→((kind=3∧(H.tx i).state=3∧1≤(H.tx i).time)∨(kind=4∧(H.tx i).state=4))→LgI (Go.Proofs.YtccahlhdifadfaaGreatDoor.telld H i kind ks)
 | [],_,h,_,_,_=>h
 | k::ks,H,h,hi,hk,hs=>by
  have e:=q12 H i kind k
  exact LgI.telld h1 ks (h.tell1 h1 hi (hk k List.mem_cons_self) hs) (by rw[e.2.2.1];exact hi) (fun x hx=>hk x (List.mem_cons_of_mem _ hx)) (by rw[(e.2.2.2.2 i).1,(e.2.2.2.2 i).2.2.2.2];exact hs)
theorem q6q (i:Nat):∀ (ks:List Nat) (H:Hs),q09 H (reld H i ks)
 | [],H=>q09.refl H
 | k::ks,H=>(q09.rel H k i).trans (q6q i ks (H.rel k i))
theorem LgI.abort (h:LgI H) (h1:1≤i) (hi:i≤H.m) (hs:(H.tx i).state=1∨((H.tx i).state=2∧(H.tx i).time=0)):LgI (H.abort i):=by
 rw[q3r]
 have t1:TxM H (H.dropTx i):=by
  refine⟨Nat.le_refl _,fun a _ _ e=>?_,fun a _ _ e=>?_,fun a _ _ e=>?_⟩
  ·show(upd H.tx i _ a).state=_
   by_cases e2:a=i
   ·subst e2;rw[e] at hs;rcases hs with h|⟨h,_⟩ <;> cases h
   ·rw[q07 e2];exact e
  ·show(upd H.tx i _ a).state=_
   by_cases e2:a=i
   ·subst e2;rw[q03]
   ·rw[q07 e2];exact e
  ·show(upd H.tx i _ a).time=_
   by_cases e2:a=i
   ·subst e2;rw[q03]
   ·rw[q07 e2]
 have e2:=q2z i (H.tx i).comes (H.dropTx i)
 have t2:TxM (H.dropTx i) (reld (H.dropTx i) i (H.tx i).comes):=TxM.of e2.2.2.1 (fun a=>⟨(e2.2.2.2.2 a).1,(e2.2.2.2.2 a).2.2.2.2⟩)
 have hno:NoCm H (reld (H.dropTx i) i (H.tx i).comes):=fun a g1 g2 e=>by
  rw[(e2.2.2.2.2 a).1] at e
  have e:(upd H.tx i _ a).state=3:=e
  refine⟨by rw[e2.2.2.1] at g2;exact g2,?_⟩
  by_cases e3:a=i
  ·subst e3;rw[q03] at e;cases e
  ·rw[q07 e3] at e;exact e
 have hL:=h.sub (t1.trans t2) hno (LgSub.same ((q09.setTx H i _).trans (q6q i _ _)))
 refine LgI.telld h1 _ hL (by rw[e2.2.2.1];exact hi) (fun k hk=>q1a hk) (.inr ⟨rfl,?_⟩)
 rw[(e2.2.2.2.2 i).1]
 show(upd H.tx i _ i).state=4
 rw[q03]
theorem step_src (h:ChI H) {s j:Nat} (hs:s<H.c) (hl:Lv H s j) {m:Ms} (hm:m∈H.net.l):∃ q,Lv H s q∧(((H.sh s).nd j).step m).1.log <+: lg H s q:=by
 have hno:∀ d:Nd,d.log=((H.sh s).nd j).log→∃ q,Lv H s q∧d.log <+: lg H s q:=fun d e=>⟨j,hl,by rw[e];exact List.prefix_refl _⟩
 obtain⟨L,p,a⟩:=h.at_ hs hl
 have t:=q9u h hs hl hm
 unfold Nd.step at t ⊢
 split
 ·exact hno _ rfl
 ·rename_i hg
  rw[if_neg hg] at t
  simp only at t ⊢
  split
  ·exact hno _ rfl
  ·rename_i h1
   rw[if_neg h1] at t
   split
   ·exact hno _ rfl
   ·rename_i h2
    rw[if_neg h2] at t
    split
    ·rename_i h3
     rw[if_pos h3] at t
     have e:=h3.2.1
     simp only[Bool.and_eq_true,decide_eq_true_eq,beq_iff_eq] at e
     obtain⟨e1,e2⟩:=e
     rw[a.at_] at e1
     have hp:p-1<L.length:=by have:=(List.getElem?_eq_some_iff.1 a.ix).1;omega
     obtain⟨q,hq⟩:∃ q,L[p-1]? = some q:=⟨_,List.getElem?_eq_getElem hp⟩
     obtain⟨g1,_⟩:=h.sender hm hs (a.cfg.lt q (List.mem_of_getElem? hq)) (e2.trans (a.to_ (by omega) hq))
     exact⟨q,g1,t.lo q ((q2k a.cfg.sorted hq a.ix).1 (by omega)) g1⟩
    ·split
     ·exact hno _ rfl
     ·exact hno _ rfl
theorem arrive_sub (h:ChI H) (hc:H.c=3) {k:Nat} {m:Ms} (hk:H.net.l[k]? = some m):LgSub H (({ H with net:=takeS H.net k } : Hs).arrive m):=by
 intro a q ha hq
 cases hn:Hs.node { H with net:=takeS H.net k } m.to_ with
 | none=>rw[q1c hn] at hq ⊢;exact⟨q,hq,List.prefix_refl _⟩
 | some r=>
  obtain⟨s,j⟩:=r
  obtain⟨hs,hl,_⟩:=q7p (H:={ H with net:=takeS H.net k }) hc hn
  rw[q1b hn] at hq ⊢
  have hsm:=q09.take ((({ H with net:=takeS H.net k } : Hs).setNd s j (((H.sh s).nd j).step m).1).send (((H.sh s).nd j).step m).2) s
  have t:=q9u h (s:=s) (j:=j) hs hl (List.mem_of_getElem? hk)
  have hq2:Lv H a q:=(q59 (H:={ H with net:=takeS H.net k }) t.id).1 (hsm.lv.1 hq)
  rw[hsm.lg]
  show ∃ i,Lv H a i∧lg (({ H with net:=takeS H.net k } : Hs).setNd s j (((H.sh s).nd j).step m).1) a q <+: lg H a i
  rw[q4b]
  split
  ·rename_i e
   obtain⟨rfl,rfl⟩:=e
   exact step_src h (s:=a) (j:=q) (by rw[hc];exact ha) hl (List.mem_of_getElem? hk)
  ·exact⟨q,hq2,List.prefix_refl _⟩
theorem tick_sub {s j:Nat} : LgSub H (Hs.tickNd s H j):=fun a q _ hq=>by
 refine⟨q,(tickNd_lv s j a q).1 hq,?_⟩
 show lg (H.setNd s j _) a q <+: _
 rw[q4b]
 split
 ·rename_i e;obtain⟨rfl,rfl⟩:=e;rw[(q0n _).2.1];exact List.prefix_refl _
 ·exact List.prefix_refl _
theorem q4m:(∀ a,((H.timed i).tx a).state=(H.tx a).state∧((H.tx a).time≠0→((H.timed i).tx a).time=(H.tx a).time))∧(H.timed i).m=H.m:=by
 refine⟨fun a=>⟨q4l H i a,fun h0=>?_⟩,(q11 H i).2.2.1⟩
 unfold Hs.timed
 split
 ·rename_i h
  show(upd H.tx i _ a).time=_
  by_cases e:a=i
  ·subst e;exact absurd h h0
  ·rw[q07 e]
 ·rfl
theorem LgI.step {H':Hs} (s:St1 H H') (ch:ChI H) (wf:Wf H) (hc:H.c=3) (h:LgI H):LgI H'∧TxM H H':=by
 cases s with
 | @abort i h1 hi hs=>
  refine⟨h.abort h1 hi hs,?_⟩
  obtain⟨f1,_,f3⟩:=q1d H i
  refine⟨by rw[f1.m];exact Nat.le_refl _,fun a _ _ e=>?_,fun a _ _ e=>?_,fun a _ _ _=>(f3 a).2.2.2.2⟩
  ·rw[(f3 a).1]
   split
   ·rename_i e2;subst e2;rw[e] at hs;rcases hs with h|⟨h,_⟩ <;> cases h
   ·exact e
  ·rw[(f3 a).1]
   split
   ·rfl
   ·exact e
 | @tell i k kind h1 hi hk hs=>
  have e:=q12 H i kind k
  refine⟨?_,TxM.of e.2.2.1 (fun a=>⟨(e.2.2.2.2 a).1,(e.2.2.2.2 a).2.2.2.2⟩)⟩
  exact h.tell1 h1 hi hk (hs.imp (fun⟨a,b⟩=>⟨a,b,h.ct i h1 hi b⟩) id)
 | @prep i k j b h1 hi hk hh hp hs ht he hpl=>
  exact⟨h.add b (q3f hh).1 (by show 1≤(i:Int)∧(i:Int)≤H.m;omega) (fun _=>.inl rfl) (fun e=>by have:=q1a hk;omega),add_txm H k j _ b⟩
 | @place i k a h1 hi hk ha hs=>
  have t:TxM H (H.putPlace i k a):=TxM.of rfl (fun x=>⟨q1v H i k a x,by
   show(upd H.tx i _ x).time=_
   by_cases e:x=i
   ·subst e;rw[q03]
   ·rw[q07 e]⟩)
  exact⟨h.sub t (NoCm.of rfl (q1v H i k a)) (LgSub.same (q09.setTx H i _)),t⟩
 | @timed i h1 hi hs hp=>
  obtain⟨f1,f2⟩:=q4m (H:=H) (i:=i)
  have hs2:=q11 H i
  have t:TxM H (H.timed i):=⟨by rw[f2];exact Nat.le_refl _,fun a _ _ e=>(f1 a).1.trans e,fun a _ _ e=>(f1 a).1.trans e,fun a _ _ e=>(f1 a).2 (by omega)⟩
  exact⟨h.sub t (NoCm.of f2 (fun a=>(f1 a).1)) (LgSub.same ⟨hs2.1,hs2.2.1,hs2.2.2.2.2,fun s=>by rw[hs2.2.2.2.1],fun s=>by rw[hs2.2.2.2.1],fun s=>by rw[hs2.2.2.2.1]⟩),t⟩
 | @decide i j b h1 hi hh hp hs ht=>
  refine⟨h.add b (q3f hh).1 (by show 1≤(i:Int)∧(i:Int)≤H.m;omega) (fun e=>by omega) (fun _=>⟨rfl,rfl,?_⟩),add_txm H 2 j _ b⟩
  have:=wf.tle i h1 hi
  show 1≤(H.tx i).time
  omega
 | @commit i h1 hi hs hp=>
  have t:TxM H (H.stateTx i 3):=by
   refine⟨Nat.le_refl _,fun a _ _ e=>?_,fun a _ _ e=>?_,fun a _ _ _=>?_⟩
   ·show(upd H.tx i _ a).state=_
    by_cases e2:a=i
    ·subst e2;rw[q03]
    ·rw[q07 e2];exact e
   ·show(upd H.tx i _ a).state=_
    by_cases e2:a=i
    ·subst e2;rw[e] at hs;cases hs
    ·rw[q07 e2];exact e
   ·show(upd H.tx i _ a).time=_
    by_cases e2:a=i
    ·subst e2;rw[q03]
    ·rw[q07 e2]
  refine⟨h.sub' t (LgSub.same (q09.setTx H i _)) (fun a g1 g2 e=>?_),t⟩
  show 1≤(upd H.tx i _ a).time
  have e:(upd H.tx i _ a).state=3:=e
  by_cases e2:a=i
  ·subst e2
   rw[q03]
   obtain⟨j,p,c,q1,q2,q3,q4,_⟩:=hp
   have q5:=h.p2 j (q3f q1).1 c (List.mem_of_getElem? q2)
   have q6:=q5.2.2.1
   have q7:=q5.2.2.2
   rw[q4] at q6
   have q8:tmt H (a:Int)=(H.tx a).time:=rfl
   show 1≤(H.tx a).time
   omega
  ·rw[q07 e2] at e ⊢
   exact h.ct a g1 g2 e
 | @came i k h1 hi hk hs hh he=>
  have t:TxM H (H.came i k):=TxM.of rfl (fun x=>by
   show(upd H.tx i _ x).state=_∧(upd H.tx i _ x).time=_
   by_cases e:x=i
   ·subst e;rw[q03];exact⟨rfl,rfl⟩
   ·rw[q07 e];exact⟨rfl,rfl⟩)
  exact⟨h.sub t (NoCm.of rfl (fun x=>by
   show(upd H.tx i _ x).state=_
   by_cases e:x=i
   ·subst e;rw[q03]
   ·rw[q07 e])) (LgSub.same (q09.setTx H i _)),t⟩
 | @got i x mode h1 hi hs hx hm hh he hw hf=>
  have t:TxM H (H.lkd i (q00 x) x mode):=TxM.of rfl (fun _=>⟨rfl,rfl⟩)
  exact⟨h.sub t (NoCm.of rfl (fun _=>rfl)) (LgSub.same (q09.setSh rfl rfl rfl)),t⟩
 | @wait i x mode h1 hi hs hx hm hh he hww hw hf=>
  have t:TxM H ((H.lkd i (q00 x) x mode).wantd i x mode):=TxM.of rfl (fun a=>by
   show(upd H.tx i _ a).state=_∧(upd H.tx i _ a).time=_
   by_cases e:a=i
   ·subst e;rw[q03];exact⟨rfl,rfl⟩
   ·rw[q07 e];exact⟨rfl,rfl⟩)
  exact⟨h.sub t (NoCm.of rfl (fun a=>by
   show(upd H.tx i _ a).state=_
   by_cases e:a=i
   ·subst e;rw[q03];rfl
   ·rw[q07 e])) (LgSub.same ((q09.setSh (x:={ H.sh (q00 x) with tab:=lockT (H.sh (q00 x)).tab i x mode }) rfl rfl rfl).trans (q09.setTx _ i _))),t⟩
 | @tick s j hs hl=>
  have t:TxM H (Hs.tickNd s H j):=TxM.of rfl (fun _=>⟨rfl,rfl⟩)
  exact⟨h.sub t (NoCm.of rfl (fun _=>rfl)) tick_sub,t⟩
 | @arrive k m hk=>
  have t:TxM H (({ H with net:=takeS H.net k } : Hs).arrive m)∧NoCm H (({ H with net:=takeS H.net k } : Hs).arrive m):=by
   cases hn:Hs.node { H with net:=takeS H.net k } m.to_ with
   | none=>rw[q1c hn];exact⟨TxM.of rfl (fun _=>⟨rfl,rfl⟩),NoCm.of rfl (fun _=>rfl)⟩
   | some r=>
    obtain⟨s,j⟩:=r
    rw[q1b hn]
    have e:=q0b.take ((({ H with net:=takeS H.net k } : Hs).setNd s j (((H.sh s).nd j).step m).1).send (((H.sh s).nd j).step m).2) s
    exact⟨TxM.of e.m (fun a=>⟨(e.tx a).1,(e.tx a).2.2.2.2⟩),NoCm.of e.m (fun a=>(e.tx a).1)⟩
  exact⟨h.sub t.1 t.2 (arrive_sub ch hc hk),t.1⟩
end
section
variable {H:Hs}
theorem Wf.setShX (h:Wf H) {s:Nat} {x:Shd} (h1:x.nd=(H.sh s).nd) (h2:x.dead=(H.sh s).dead) (hT:WfT x.tab) (hS:WfS x.sto):Wf (H.setSh s x):=by
 have e:∀ k,((H.setSh s x).sh k).nd=(H.sh k).nd∧((H.setSh s x).sh k).dead=(H.sh k).dead∧((((H.setSh s x).sh k).tab=x.tab∧((H.setSh s x).sh k).sto=x.sto)∨(((H.setSh s x).sh k).tab=(H.sh k).tab∧((H.setSh s x).sh k).sto=(H.sh k).sto)):=fun k=>by
  by_cases ek:k=s
  ·subst ek
   rw[show(H.setSh k x).sh k=x from q03 _ _ _]
   exact⟨h1,h2,.inl ⟨rfl,rfl⟩⟩
  ·rw[show(H.setSh s x).sh k=H.sh k from q07 ek _]
   exact⟨rfl,rfl,.inr ⟨rfl,rfl⟩⟩
 refine Wf.of (H':=H.setSh s x) h rfl rfl rfl rfl (fun k j hk hj=>by rw[(e k).1];exact h.nd k j hk hj) (fun k hk=>?_) (fun k hk=>?_) (fun k _=>(e k).2.1) h.net rfl h.tx (fun _=>rfl)
 ·rcases(e k).2.2 with ⟨e2,_⟩|⟨e2,_⟩
  ·rw[e2];exact hT
  ·rw[e2];exact h.tab k hk
 ·rcases(e k).2.2 with ⟨_,e2⟩|⟨_,e2⟩
  ·rw[e2];exact hS
  ·rw[e2];exact h.sto k hk
theorem Wf.joinNd (h:Wf H) {s j:Nat} {ids:List Int} (hs:s<H.c) (hj:j<H.n) (hn:∀ x∈ids,0≤x∧x≤60):Wf (Hs.joinNd s ids H j):=by
 have h3:=h.c3
 have h4:=h.n4
 have w:=q73 (wf_join (h.nd s j hs hj) (H.sh s).epoch hn) (by omega) (by omega)
 exact Wf.send (h.setNd w.1) w.2
theorem q5c (s:Nat) (ids:List Int):∀ (l:List Nat) (H:Hs),(l.foldl (Hs.joinNd s ids) H).n=H.n∧(l.foldl (Hs.joinNd s ids) H).c=H.c∧(l.foldl (Hs.joinNd s ids) H).m=H.m
 | [],_=>⟨rfl,rfl,rfl⟩
 | j::l,H=>by
  obtain⟨h1,h2,h3⟩:=q5c s ids l (Hs.joinNd s ids H j)
  exact⟨h1,h2,h3⟩
theorem Wf.joinNds {s:Nat} {ids:List Int} (hn:∀ x∈ids,0≤x∧x≤60):∀ (l:List Nat) {H:Hs},Wf H→s<H.c→(∀ j∈l,j<H.n)→Wf (l.foldl (Hs.joinNd s ids) H)
 | [],_,h,_,_=>h
 | j::l,_,h,hs,hl=>Wf.joinNds hn l (h.joinNd hs (hl j List.mem_cons_self) hn) hs (fun a ha=>hl a (List.mem_cons_of_mem _ ha))
theorem Wf.ids (h:Wf H) {s:Nat} (hs:s<H.c):∀ x∈(H.sh s).ids H.n,0≤x∧x≤60:=by
 intro x hx
 unfold Shd.ids at hx
 obtain⟨j,hj,rfl⟩:=List.mem_map.1 hx
 have hj:j<H.n:=by unfold Shd.liveIx at hj;exact List.mem_range.1 (List.mem_filter.1 hj).1
 have h3:=h.c3
 have h4:=h.n4
 exact(h.nd s j hs hj).id60 (by omega) (by omega)
theorem Wf.fixIn (h:Wf H) {s:Nat} (hs:s<H.c):Wf (H.fixIn s):=by
 unfold Hs.fixIn
 simp only
 have hids:=h.ids hs
 have w1:Wf (H.setSh s { H.sh s with epoch:=wrap64 ((H.sh s).epoch+1),size:=((H.sh s).liveIx H.n).length }):=h.setShX rfl rfl (h.tab s hs) (h.sto s hs)
 have w2:=Wf.joinNds hids ((H.sh s).liveIx H.n) w1 hs (fun j hj=>by unfold Shd.liveIx at hj;exact List.mem_range.1 (List.mem_filter.1 hj).1)
 have hsz:=q5c s ((H.sh s).ids H.n) ((H.sh s).liveIx H.n) (H.setSh s { H.sh s with epoch:=wrap64 ((H.sh s).epoch+1),size:=((H.sh s).liveIx H.n).length })
 generalize List.foldl (Hs.joinNd s ((H.sh s).ids H.n)) (H.setSh s { H.sh s with epoch:=wrap64 ((H.sh s).epoch+1),size:=((H.sh s).liveIx H.n).length }) ((H.sh s).liveIx H.n)=H2 at *
 have hs2:s<H2.c:=by rw[hsz.2.1];exact hs
 exact(w2.setShX (x:={ H2.sh s with tab:=fun _=>none,sto:=fun _=>[],done:=0 }) rfl rfl WfT.none_ WfS.none_).take hs2
theorem Wf.fix (h:Wf H) {s:Nat} (hs:s<H.c):Wf (H.fix s):=by
 unfold Hs.fix
 split
 ·exact h
 ·exact h.fixIn hs
theorem stale1_sz (H:Hs) (i:Nat):Sz H (H.stale1 i):=by
 unfold Hs.stale1
 split
 ·exact(q1d H i).1.sz
 ·exact Sz.refl H
theorem Wf.stale1 (h:Wf H) (hc:H.c=3) {i:Nat} (h1:1≤i) (hi:i≤H.m):Wf (H.stale1 i):=by
 unfold Hs.stale1
 split
 ·exact h.abort hc h1 hi
 ·exact h
end
def lkV (P:Ptr) (id:Int) (k:Sx) (er:Int):Value:=if er=0 then .tuple #[pw (P.gt id.toNat),pw (P.gs (q00 k)),.nilIface] else .tuple #[.pointer none,.pointer none,.iface 79 (.int .i64 er)]
def LkP (P:Ptr) (own:Own) (id:Int) (k:Sx) (w:World) (r:Int×Hs) (e:Ending) (w':World):Prop:=e=.returned (lkV P id k r.1)∧GsP P own r.2 w w'
def LkQ (P:Ptr) (own:Own) (i s:Nat) (w:World) (r:Int×Hs) (e:Ending) (w':World):Prop:=e=.returned (if r.1=0 then .tuple #[pw (P.gt i),pw (P.gs s),.nilIface] else .tuple #[.pointer none,.pointer none,.iface 79 (.int .i64 r.1)])∧GsP P own r.2 w w'
theorem LkQ.no {P:Ptr} {own:Own} {i s:Nat} {w w':World} {r:Int×Hs} {er:Int} {H2:Hs} (h:r=(er,H2)) (he:er≠0) (hg:GsP P own H2 w w'):LkQ P own i s w r (.returned (.tuple #[.pointer none,.pointer none,.iface 79 (.int .i64 er)])) w':=by
 subst h
 exact⟨by rw[if_neg he],hg⟩
theorem LkQ.yes {P:Ptr} {own:Own} {i s:Nat} {w w':World} {r:Int×Hs} {H2:Hs} (h:r=(0,H2)) (hg:GsP P own H2 w w'):LkQ P own i s w r (.returned (.tuple #[.pointer (some ⟨P.gt i,0,none⟩),.pointer (some ⟨P.gs s,0,none⟩),.nilIface])) w':=by
 subst h
 exact⟨by rw[if_pos rfl];rfl,hg⟩
theorem LkQ.toP {P:Ptr} {own:Own} {i s:Nat} {w w':World} {r:Int×Hs} {e:Ending} {k:Sx} (h:LkQ P own i s w r e w') (hk:q00 k=s):LkP P own i k w r e w':=by
 subst hk
 exact h
section
variable {w w':World} {own own':Own} {P:Ptr} {H:Hs}
theorem q0v {Z:Tg→Prop} {kb:Nat} {t:TypeId} {cs:Array Value} (hz:HZ Z w own w' own') (hb:Blk w kb t cs) (hn:own kb=none):Blk w' kb t cs∧own' kb=none:=
 ⟨hz.fr.blk hb (fun hs=>hs.owned hn),(hz.ext kb hb.lt).trans hn⟩
theorem inM_look2 {b n:Nat} {f:Int→Option Int} (h:MapG q05 w b n (inM f)) {o:Int} (ho:okI o):(Instr.lookup 61 (.map (some b)) (.int .i64 o) true).run Tryz.prog w=.ok (.tuple #[.int .i64 ((f o).getD 0),.bool (f o).isSome]) w:=by
 have hz:(zeroValue 3).run Tryz.prog w=.ok (.int .i64 0) w:=by kernel_rfl
 have:=(h.look Tryz.underlying61 hz (x:=o) ho).1
 rw[show q05.val o=Value.int .i64 o from rfl] at this
 rw[this]
 unfold inM
 cases f o <;> rfl
def LwRel (P:Ptr) (own:Own) (H:Hs) (l:List Int) (w:World) (v:Value) (wr:World):Prop:=∃ q:Nat,v=.int .i64 q∧q≤l.length∧GsP P own (woundd H (l.take q)) w wr
theorem q7u {T T':Tb} {tx mode er:Int} {x:Sx} {ok:Bool} {l:List Int} (h:LockP T ⟨tx,x,mode⟩ ok l er T') (hm:q16 mode) (hx:x.length≤20) :
  (q0w (atT T x).ws tx=true∧ok=false∧l=[]∧er=9)∨(q0w (atT T x).ws tx=false∧freeB (atT T x).h tx mode (atT T x).ws=true∧ok=true∧l=[]∧er=0)∨
  (q0w (atT T x).ws tx=false∧freeB (atT T x).h tx mode (atT T x).ws=false∧(atT T x).ws.length=50∧ok=false∧l=[]∧er=4)∨
  (q0w (atT T x).ws tx=false∧freeB (atT T x).h tx mode (atT T x).ws=false∧(atT T x).ws.length≠50∧ok=false∧er=0∧WoundsP (atT T x).h tx mode l):=by
 cases h with
 | arg h=>exact absurd hm h
 | long _ h=>exact absurd hx (by simpa using h)
 | twice _ _ hw=>exact .inl ⟨hw,rfl,rfl,rfl⟩
 | got _ _ hw hf=>exact .inr (.inl ⟨hw,hf,rfl,rfl,rfl⟩)
 | full _ _ hw hf h50=>exact .inr (.inr (.inl ⟨hw,hf,h50,rfl,rfl,rfl⟩))
 | waits _ _ hw hf h50 hl=>exact .inr (.inr (.inr ⟨hw,hf,h50,rfl,rfl,hl⟩))
theorem q70 (h:Int→Option Int) (tx mode:Int):(q24 h tx mode).length≤61:=by
 unfold q24
 exact Nat.le_trans (List.length_filter_le _ _) (by simp)
theorem wn_info:(Tryz.prog.info? 129).map (fun i=>(i.zero,i.size,i.bytes))=some (some (.agg #[.string ⟨#[]⟩,.int .i64 0]),2,24):=by kernel_rfl
theorem HI.pushWant (h:HI w own P H) {i:Nat} {v:TxV} (hv:TxI w own i (P.gt i) v (H.tx i)) {k:Sx} {mode:Int} {V':Value} (hm:Moved w w' v.Vx.ownBlock V'.ownBlock)
  (hr:w'.ownsRow 0 129 2 V' ((H.tx i).wants.length+1) ((H.tx i).wants.flatMap q0r++q0r (k,mode))):∃ own',HI (w'.setCell ⟨P.gt i,8,none⟩ V') own' P (H.wantd i k mode)∧HStep w own (w'.setCell ⟨P.gt i,8,none⟩ V') own'∧∃ v',TxI (w'.setCell ⟨P.gt i,8,none⟩ V') own' i (P.gt i) v' ((H.wantd i k mode).tx i):=by
 have hf1:Fr (fun b=>v.Vx.ownBlock=some b∨w.heap.size≤b) w w':=hm.1.mono (fun b _ e=>.inl e.symm)
 have he:Ext own (q15 own w.heap.size (fun b=>V'.ownBlock=some b) (.tx i)) w.heap.size:=q14
 have hr2:w'.ownsRow 0 129 2 V' ((H.tx i).wants++[(k,mode)]).length (((H.tx i).wants++[(k,mode)]).flatMap q0r):=by
  rw[List.length_append,List.flatMap_append]
  simpa using hr
 have hx:∀ b,V'.ownBlock=some b→q15 own w.heap.size (fun b=>V'.ownBlock=some b) (.tx i) b=some (.tx i):=fun b hb=>q1l (by
  rcases hm.2 with e|⟨b',e,hl⟩
  ·exact .inl (hv.xt b (by rw[← e];exact hb))
  ·rw[e] at hb;injection hb with hb;exact .inr (by omega)) hb
 have hv2:=hv.setWants he hf1 hr2 hx
 have hfo:Fr (OS own (fun t=>t=.tx i)) w (w'.setCell ⟨P.gt i,8,none⟩ V'):=
  (hm.1.mono (T:=OS own (fun t=>t=.tx i)) (fun b _ e=>⟨_,hv.xt b e.symm,rfl⟩)).setCell (p:=⟨P.gt i,8,none⟩) (.inl ⟨_,hv.gt,rfl⟩) _
 have hI:=h.setTx' (t':={ H.tx i with wants:=(H.tx i).wants++[(k,mode)] }) hfo he (q1m hfo.size (fun b hb=>Nat.lt_of_lt_of_le (hr.lt b hb).2 (Fr.set1 (P.gt i) w' 8 V').size)) ⟨{ v with Vx:=V' },hv2⟩
 refine⟨_,hI,⟨he,q27 hfo (fun _=>st_tx),(by first|exact q1f (by simp)|exact fun _ _ h=>h)⟩,{ v with Vx:=V' },?_⟩
 rw[show(H.wantd i k mode).tx i = { H.tx i with wants:=(H.tx i).wants++[(k,mode)] } from q2f _ _ _]
 exact hv2
theorem lock_any (h:HI w own P H) (wf:Wf H) (hns:NoSm own) (hc:H.c=3) (id:Int) (k:Sx) (hk:k∈names) (mode:Int) (hm:q16 mode):Calls Tryz.prog 35 #[pw P.g,.int .i64 id,.string ⟨k.toArray⟩,.int .i64 mode] w (LkP P own id k w (H.lock id k mode)):=by
 have hkl:=q1n hk
 have hsz:(⟨k.toArray⟩:ByteArray).size=k.length:=by simp[ByteArray.size]
 have hbx:Below w.heap.size w (w.alloc (.cells #[.string ⟨k.toArray⟩] 9)):=(Below.refl w.heap.size w).alloc (Nat.le_refl _) _
 have hbb:Blk (w.alloc (.cells #[.string ⟨k.toArray⟩] 9)) w.heap.size 9 #[.string ⟨k.toArray⟩]:=Blk.new w _ _
 have HI1:=LH (h.below hbx)
 have HZ1:=LH (HZ.below (Z:=StTag) own hbx)
 have HB1:=LH hbb
 have HN1:=LH (show own w.heap.size=none from h.free (Nat.le_refl _))
 have HF:=LH (q3o (h.below hbx) (by have:=wf.m60;omega) id)
 have hbc:=hbb.cell 0
 have hbl:=hbb.lt
 simp only[List.getElem?_toArray,List.getElem?_cons_zero] at hbc
 have HWF:=LH wf
 clear h hbx hbb wf
 unfold pw at *
 go_enter Tryz.func35,Tryz.ntmps35
 go_upto_region 1 with (fail)
 generalize (w.alloc _)=w1 at *
 generalize w.heap.size=kb at *
 by_cases hb:id<1∨H.m<id
 ·have HR:=LH (show LkP P own id k w (H.lock id k mode) (.returned (.tuple #[.pointer none,.pointer none,.iface 79 (.int .i64 7)])) w1 from by rw[q1o hb];exact⟨rfl,own,HI1.out,HZ1.out⟩)
  rw[q5g hb] at HF
  clear hb
  go_wp2_with fail
  refine HF.out.mono ?_
  rintro e w2 ⟨rfl,rfl⟩
  go_wp2_with fail
  go_ret3
  exact HR.out
 ·obtain⟨i,rfl⟩:∃ i:Nat,id=i:=⟨id.toNat,by omega⟩
  have h1:1≤i:=by omega
  have hi:i≤H.m:=by omega
  rw[q45 h1 hi] at HF
  unfold pw at HF
  obtain⟨v,hv⟩:=HI1.out.tx i h1 hi
  have HV:=LH hv
  obtain⟨_,k1,_,k3,_,_,k8,gl⟩:=hv.cells
  clear hv hb
  by_cases s1:(H.tx i).state=1
  ·rw[s1] at k1
   have HL0:=LH (fun h5=>q7t (mode:=mode) h1 hi s1 hkl h5)
   have HL1:=LH (fun h5 h6=>q67 (mode:=mode) h1 hi s1 hkl h5 h6)
   have HL2:=LH (fun h5 h6 h7=>q65 (mode:=mode) h1 hi s1 hkl h5 h6 h7)
   have HL3:=LH (fun h5 h6 h7=>lock_in (mode:=mode) h1 hi s1 hkl h5 h6 h7)
   have HSD:=LH (shard_any HI1.out hc ⟨k.toArray⟩ (by omega))
   rw[sx_mk] at HSD
   have hs2:=q18 k
   have HHD:=LH (q5f HI1.out HWF.out (s:=q00 k) (by omega))
   have HTW:=LH (fun h=>q41 (H:=H.came i (q00 k)) (i:=i) (k:=k) (mode:=mode) h)
   have HGT:=LH (fun h h2=>q68 (H:=H.came i (q00 k)) (i:=i) (k:=k) (mode:=mode) h h2)
   have HFU:=LH (fun h h2 h3=>q4r (H:=H.came i (q00 k)) (i:=i) (k:=k) (mode:=mode) h h2 h3)
   have HWT:=LH (fun h h2 h3=>q40 (H:=H.came i (q00 k)) (i:=i) (k:=k) (mode:=mode) h h2 h3)
   unfold pw at *
   clear s1
   generalize H.lock i k mode=res at *
   generalize hks:q00 k=s at *
   have HKS:=LH hks
   clear hks
   obtain⟨vh,hvh⟩:=HI1.out.hs
   obtain⟨_,c3,_,_,gg⟩:=hvh.cells
   obtain⟨r3,q3,hVr,hr3,hc3⟩:=hvh.shAt (s:=s) (by omega)
   rw[hVr,hc] at c3
   unfold pw at hc3
   clear hvh hVr
   go_wp2_with fail
   refine HF.out.mono ?_
   rintro e w2 ⟨rfl,rfl⟩
   go_wp2_with fail
   refine HSD.out.mono ?_
   rintro e w1 ⟨rfl,rfl⟩
   go_wp2_with fail
   refine HHD.out.mono ?_
   rintro e w2 ⟨rfl,hb2⟩
   have hz2:HStep w1 own w2 own:=HZ.below own hb2
   have HI2:=LH (HI1.out.below hb2)
   have HZ2:=LH (HZ1.out.trans hz2)
   have hkb:=q0v hz2 HB1.out HN1.out
   have HB2:=LH hkb.1
   clear hb2 hz2 hkb c3 hc3 gg k1 k3 k8 gl hbc hbl HI1 HZ1 HB1 HHD HV
   rcases hhd:H.head s with _|j
   ·have hl0:=HL0.out hhd
    have HR:=LH (LkQ.no (i:=i) (s:=s) hl0 (by decide) ⟨own,HI2.out,HZ2.out⟩)
    clear hhd hl0
    unfold headV
    go_wp2_with fail
    go_ret3
    exact HR.out.toP HKS.out
   ·have HNN:=LH (show H.head s≠none by rw[hhd];simp)
    obtain⟨vt,hvt⟩:=HI2.out.tx i h1 hi
    have HV:=LH hvt
    obtain⟨_,k1,_,k3,_,_,k8,gl⟩:=hvt.cells
    obtain⟨vs,hvs⟩:=HI2.out.sh s (by omega)
    obtain⟨_,_,m2,_,_,sl⟩:=hvs.cells
    have hlk:=inM_look2 hvt.shards (o:=(s:Int)) (q0j (by omega) (by omega))
    clear hhd hvt hvs
    unfold headV pw
    cases hse:(H.tx i).shards s with
    | none=>
     have HNS:=LH (show ¬q6m H i s from fun⟨e,h,_⟩=>by rw[hse] at h;cases h)
     rw[hse] at hlk
     clear hse
     go_upto_region 16 with (fail)
     clear hlk k1 k8
     have HMP:=LH (HV.out.shards.fr ((Fr.refl (fun _=>False) w2).drew) (fun h=>h))
     have k3':w2.drew.cell? ⟨P.gt i,3,none⟩=some (.map (some vt.bs)):=k3
     have m2':w2.drew.cell? ⟨P.gs s,2,none⟩=some (.int .i64 (H.sh s).epoch):=m2
     have gl':P.gt i<w2.drew.heap.size:=gl
     have sl':P.gs s<w2.drew.heap.size:=sl
     clear k3 m2 gl sl
     refine wp_region_still_tail 9 (by kernel_rfl) (by kernel_rfl) ?_
     change wpStill _ _ (World.drew _) _ _ _
     simp only[List.take_succ_cons,List.take_zero,List.drop_succ_cons,List.drop_zero]
     repeat still_step
     refine wpStill_nil ?_
     refine q0k (C:=q05) rfl 61 3 Tryz.underlying61 (.tmp 80) (.tmp 81) (.tmp 85) rfl (by simp[Act.eval]) HMP.out (by unfold maxLen;omega) (s:Int) (.int .i64 (H.sh s).epoch) (by simp[Act.eval];rfl) (by simp[Act.eval]) (q0j (by omega) (by omega)) ?_
     intro w3 hm3 hf3
     have hf3b:Fr (fun b=>b=vt.bs) w2 w3:=((Fr.refl _ w2).drew).trans hf3
     rw[q9z] at hm3
     have hm3b:MapG q05 w3 vt.bs 100 (inM (setF (H.tx i).shards s (H.sh s).epoch)):=by
      refine(hm3.tight kI61 (fun a _ ha=>?_)).mono (show kI61.length≤100 from by rw[q2h];decide)
      unfold inM at ha
      cases e:setF (H.tx i).shards s (H.sh s).epoch a with
      | none=>rw[e] at ha;exact absurd rfl ha
      | some q=>
       unfold setF at e
       split at e
       ·exact q1s (by omega) (by omega)
       ·have:=((HWF.out.tx i h1 hi).sh a q e).1;exact q1s (by omega) (by omega)
     have hv3:=HV.out.putShards hf3b hm3b
     have hfo:Fr (OS own (fun t=>t=.tx i)) w2 w3:=hf3b.mono (fun b _ e=>⟨_,by rw[e];exact HV.out.st.resolve_right (hns _ _),rfl⟩)
     have hI3:HI w3 own P (H.came i s):=HI2.out.setTx' hfo (Ext.refl own _) (fun b hb=>Nat.lt_of_lt_of_le (HI2.out.lt b hb) hfo.size) ⟨_,hv3⟩
     have hz3:HStep w2 own w3 own:=⟨Ext.refl own _,q27 hfo (fun _=>st_tx),fun _ _ h=>h⟩
     have hW3:=HWF.out.came h1 hi hs2
     have hkb3:=q0v hz3 HB2.out HN1.out
     have hbc3:=hkb3.1.cell 0
     have hbl3:=hkb3.1.lt
     simp only[List.getElem?_toArray,List.getElem?_cons_zero] at hbc3
     have hwx3:WfX { H.tx i with shards:=setF (H.tx i).shards s (H.sh s).epoch }:=by
      have:=hW3.tx i h1 hi
      unfold Hs.came at this
      rw[q2f] at this
      exact this
     have hwn:=q8o hv3 hwx3 k hbc3
     obtain⟨_,n1,_,_,_,_,n8,nl⟩:=hv3.cells
     obtain⟨A8,c8,hV8,_,_⟩:=q01 hv3.wants
     rw[hV8] at n8 hwn
     have HWN:=LH hwn
     have HI3:=LH hI3
     have HZ3:=LH (HZ2.out.trans hz3)
     have HB3:=LH hkb3.1
     have HW3:=LH hW3
     have HV3:=LH hv3
     clear hwn hI3 hz3 hkb3 hW3 hwx3 hv3 hfo hm3b hm3 hf3b hf3 k3' m2' gl' sl' HMP hV8
     go_wp2_with fail
     refine HWN.out.mono ?_
     rintro e w4 ⟨rfl,hb4⟩
     cases hwb:q0u (H.tx i).wants k with
     | true=>
      have HR:=LH (LkQ.no (i:=i) (s:=s) (HL2.out HNN.out HNS.out hwb) (by decide) ⟨own,HI3.out.below hb4,HZ3.out.trans (HZ.below own hb4)⟩)
      clear hwb hb4
      go_wp2_with fail
      go_ret3
      exact HR.out.toP HKS.out
     | false=>
      have HI4:=LH (HI3.out.below hb4)
      have HZ4:=LH (HZ3.out.trans (HZ.below own hb4))
      have hkb4:=q0v (HZ.below (Z:=StTag) own hb4) HB3.out HN1.out
      have HB4:=LH hkb4.1
      have hlk:=q80 (HI4.out.below (Below.refl w4.heap.size w4).drew) (show s<(H.came i s).c from by show s<H.c;omega) i mode ⟨k.toArray⟩ (by have:=HWF.out.m60;omega) (by rw[sx_mk];exact hk) hm (HW3.out.tab s (by show s<H.c;omega))
      rw[sx_mk] at hlk
      have HLKC:=LH hlk
      have HIN:=LH (HL3.out HNN.out HNS.out hwb)
      have HWB:=LH hwb
      have HCC:=And.intro ((show Blk w4.drew _ _ _ from hkb4.1).cell 0) (show kb<w4.drew.heap.size from hkb4.1.lt)
      simp only[List.getElem?_toArray,List.getElem?_cons_zero] at HCC
      clear hlk hwb hkb4 hb4 hbc3 hbl3 n8 HB3 HI3 HWN
      go_upto_region 19 with (fail)
      clear n1 nl
      refine wp_region_any (by kernel_rfl) ?_
      change wpAny _ _ _ _ _ _ _ (World.drew _)
      refine q0e (fun W=>W.cell? ⟨kb,0,none⟩=some (.string ⟨k.toArray⟩)∧kb<W.heap.size) 14 (fun _ _ _ _ _ h=>h) (fun HQP=>?_)
      refine nA 0 [1,2,6,7,8,9,10,11,12,13] rfl rfl HQP HCC (fun w' hw'=>by go_simp;rfl) ?_
      refine nA 1 [2,6,7,8,9,10,11,12,13] rfl rfl HQP HCC (fun w' hw'=>by go_simp;rfl) ?_
      refine nA 2 [6,7,8,9,10,11,12,13] rfl rfl HQP HCC (fun w' hw'=>by go_simp;rfl) ?_
      refine nA 3 [6,7,8,9,10,11,12,13] rfl rfl HQP HCC (fun w' hw'=>by go_simp;rfl) ?_
      refine nA 4 [6,7,8,9,10,11,12,13] rfl rfl HQP HCC (fun w' hw'=>by obtain⟨p0,pl⟩:=hw';go_simp;rfl) ?_
      refine nA 5 [6,7,8,9,10,11,12,13] rfl rfl HQP HCC (fun w' hw'=>by go_simp;rfl) ?_
      clear HCC
      refine nO 6 rfl (fun KK hK=>?_)
      go_simp
      refine HLKC.out.mono ?_
      rintro e w5 ⟨ok,l,er,A,c,own5,rfl,hP,hI5,hZ5,hrd5,hA5⟩
      have hz5:HStep w4 own w5 own5:=(HZ.below own (Below.refl w4.heap.size w4).drew).trans (hZ5.mono (fun _=>st_sh))
      have hkb5:=q0v hz5 HB4.out HN1.out
      have HCC:=And.intro (hkb5.1.cell 0) hkb5.1.lt
      simp only[List.getElem?_toArray,List.getElem?_cons_zero] at HCC
      have HB5:=LH hkb5.1
      have HN5:=LH hkb5.2
      have HI5:=LH (show HI w5 own5 P ((H.came i s).lkd i s k mode) from hI5)
      have HZ5:=LH (HZ4.out.trans hz5)
      have HP:=LH hP
      have HRD:=LH hrd5
      have HA:=LH hA5
      clear hz5 hkb5 hI5 hZ5 hP hrd5 hA5 HLKC HI4 HZ4 HB4
      go_simp
      refine hK _ _ (fun _=>HCC) ?_
      clear hK KK
      refine nO 7 rfl (fun KK hK=>?_)
      go_simp
      refine hK _ _ (fun _=>HCC) ?_
      clear hK KK
      refine nA 8 [11,12,13] rfl rfl HQP HCC (fun w' hw'=>by go_simp;rfl) ?_
      refine nA 9 [12,13] rfl rfl HQP HCC (fun w' hw'=>by go_simp;rfl) ?_
      refine nA 10 [13] rfl rfl HQP HCC (fun w' hw'=>by go_simp;rfl) ?_
      refine nO 11 rfl (fun KK hK=>?_)
      go_simp
      refine hK _ _ (fun _=>HCC) ?_
      clear hK KK
      refine nO 12 rfl (fun KK hK=>?_)
      go_simp
      refine hK _ _ (fun _=>HCC) ?_
      clear hK KK
      refine nO 13 rfl (fun KK hK=>?_)
      go_simp
      refine hK _ _ (fun _=>HCC) ?_
      clear hK KK
      refine ndone (by kernel_rfl) ?_ _
      clear HQP
      rcases q7u HP.out hm hkl with ⟨q1,rfl,rfl,rfl⟩|⟨q1,q2,rfl,rfl,rfl⟩|⟨q1,q2,q3,rfl,rfl,rfl⟩|⟨q1,q2,q3,rfl,rfl,hwp⟩
      ·have HR:=LH (LkQ.no (i:=i) (s:=s) (HIN.out.trans (HTW.out q1)) (by decide) ⟨own5,HI5.out,HZ5.out⟩)
       rw[show erV 9=.iface 79 (.int .i64 9) from rfl]
       clear q1 HCC
       go_wp2_with fail
       go_ret3
       exact HR.out.toP HKS.out
      ·have HR:=LH (LkQ.yes (i:=i) (s:=s) (HIN.out.trans (HGT.out q1 q2)) ⟨own5,HI5.out,HZ5.out⟩)
       rw[show erV 0=.nilIface from rfl]
       clear q1 q2 HCC
       go_wp2_with fail
       go_ret3
       exact HR.out.toP HKS.out
      ·have HR:=LH (LkQ.no (i:=i) (s:=s) (HIN.out.trans (HFU.out q1 q2 q3)) (by decide) ⟨own5,HI5.out,HZ5.out⟩)
       rw[show erV 4=.iface 79 (.int .i64 4) from rfl]
       clear q1 q2 q3 HCC
       go_wp2_with fail
       go_ret3
       exact HR.out.toP HKS.out
      ·have HINW:=LH (HIN.out.trans (HWT.out q1 q2 q3))
       have hlw:=wounds_eq (fun o m ho=>((HW3.out.tab s (by show s<H.c;omega)).at_ k).hold o m ho) hwp
       subst hlw
       rw[show erV 0=.nilIface from rfl]
       clear q1 q2 q3 HCC hwp
       have hW5:=HW3.out.lkd (mode:=mode) h1 (show i≤(H.came i s).m from hi) (show s<(H.came i s).c by show s<H.c;omega) hk
       have hwl5:q0u (((H.came i s).lkd i s k mode).tx i).wants k=false:=by
        show q0u ((H.came i s).tx i).wants k=false
        unfold Hs.came;rw[q2f];exact HWB.out
       have hc5:((H.came i s).lkd i s k mode).c=3:=hc
       have hm5:((H.came i s).lkd i s k mode).m=H.m:=rfl
       have hlm:=fun o (ho:o∈q24 (atT ((H.came i s).sh s).tab k).h (i:Int) mode)=>q6z ho
       have hll:=q70 (atT ((H.came i s).sh s).tab k).h (i:Int) mode
       generalize q24 (atT ((H.came i s).sh s).tab k).h (i:Int) mode=l at *
       clear HTW HGT HFU HWT HIN HP HL0 HL1 HL2 HL3 HW3 HV3 HZ2 HZ3 HI2 HB2
       generalize (H.came i s).lkd i s k mode=H5 at *
       have HW5:=LH hW5
       have HW6:=LH (hW5.wantd (mode:=mode) h1 (show i≤H5.m by omega) hk hwl5)
       have HLM:=LH hlm
       obtain⟨v5,hv5⟩:=HI5.out.tx i h1 (by omega)
       have HV5:=LH hv5
       have hwn4:=(hW5.tx i h1 (by omega)).wants4
       obtain⟨_,_,_,_,_,_,n8,nl⟩:=hv5.cells
       obtain⟨A9,c9,hV9,_,_⟩:=q01 hv5.wants
       have hrow5:=hv5.wants
       rw[hV9] at n8 hrow5
       have HROW5:=LH hrow5
       have HVX:=LH hV9
       clear hv5 hV9 hrow5 hW5 hwl5 hlm
       go_upto_region 23 with (fail)
       refine wp_region_any (by kernel_rfl) ?_
       change wpAny _ _ _ _ _ _ _ (World.drew _)
       refine q0e (fun W=>W.cell? ⟨P.gt i,8,none⟩=some (.slice A9 (H5.tx i).wants.length c9)∧W.cell? ⟨kb,0,none⟩=some (.string ⟨k.toArray⟩)) 10 (fun _ _ _ _ _ h=>h) (fun HQP=>?_)
       have HCC:w5.drew.cell? ⟨P.gt i,8,none⟩=some (.slice A9 (H5.tx i).wants.length c9)∧w5.drew.cell? ⟨kb,0,none⟩=some (.string ⟨k.toArray⟩):=⟨n8,(show Blk w5.drew _ _ _ from HB5.out).cell 0⟩
       refine nA 0 [10,11,12] rfl rfl HQP HCC (fun w' hw'=>by go_simp;rfl) ?_
       refine nA 1 [2,3,4,9,10,11,12] rfl rfl HQP HCC (fun w' hw'=>by go_simp;rfl) ?_
       refine nA 2 [3,4,9,10,11,12] rfl rfl HQP HCC (fun w' hw'=>by go_simp;rfl) ?_
       refine nA 3 [4,9,10,11,12] rfl rfl HQP HCC (fun w' hw'=>by go_simp;rfl) ?_
       refine nA 4 [9,10,11,12] rfl rfl HQP HCC (fun w' hw'=>by obtain⟨p0,p1⟩:=hw';go_simp;rfl) ?_
       refine nA 5 [7,8,9,10,11,12] rfl rfl HQP HCC (fun w' hw'=>by obtain⟨p0,p1⟩:=hw';go_simp;rfl) ?_
       refine nA 6 [7,8,9,10,11,12] rfl rfl HQP HCC (fun w' hw'=>by go_simp;rfl) ?_
       refine nA 7 [8,9,10,11,12] rfl rfl HQP HCC (fun w' hw'=>by go_simp;rfl) ?_
       have hkeep:∀ o q p,q<w5.heap.size→(w5.alloc o).cell? ⟨q,p,none⟩=w5.cell? ⟨q,p,none⟩:=fun o q p hq=>World.cell?_alloc_lt w5 o ⟨q,p,none⟩ hq
       refine nO 8 rfl (fun KK hK=>?_)
       go_simp
       refine hK _ _ (fun _=>⟨(hkeep _ _ _ nl).trans HCC.1,(hkeep _ _ _ HB5.out.lt).trans HCC.2⟩) ?_
       clear hK KK HCC hkeep
       refine nO 9 rfl (fun KK hK=>?_)
       refine q1g w5.drew w5.heap.size rfl _ (.tmp 113) (.tmp 117) 76 rfl 0 129 _ 2 24 Tryz.underlying76 wn_info rfl (by decide) _ _ _ #[.string ⟨k.toArray⟩,.int .i64 mode] rfl HROW5.out 1 rfl _ rfl rfl (by simp[Value.oneCell']) (by unfold maxLen;omega) (by omega) (Nat.zero_le _) ?_
       intro V2 w6 hrow6 hm6
       have hm6':Moved w5 w6 v5.Vx.ownBlock V2.ownBlock:=by rw[HVX.out];exact⟨⟨hm6.1.os,hm6.1.tape,hm6.1.output,hm6.1.size,hm6.1.block⟩,hm6.2⟩
       obtain⟨own7,hI7,hZ7,v7,hv7⟩:=HI5.out.pushWant (i:=i) (k:=k) (mode:=mode) HV5.out hm6' hrow6
       have hgV:¬some (P.gt i)=v5.Vx.ownBlock:=fun e=>HV5.out.rows_ne.2.1 e.symm
       have hxV:¬some kb=v5.Vx.ownBlock:=fun e=>by have:=HV5.out.xt kb e.symm;rw[HN5.out] at this;cases this
       have hg6:=hm6'.1.blk HV5.out.blk hgV
       have hk6:=hm6'.1.blk HB5.out hxV
       have y1:=hg6.frozen 8
       have yl:=hg6.lt
       have y0:∃ u,w6.cell? ⟨P.gt i,8,none⟩=some u:=by
        have:=hg6.cell 8
        unfold q28 at this
        simp only[List.getElem?_toArray,List.getElem?_cons_zero,List.getElem?_cons_succ] at this
        exact⟨_,this⟩
       obtain⟨u0,y0⟩:=y0
       have hC6:w6.cell? ⟨P.gt i,8,none⟩=some (.slice A9 (H5.tx i).wants.length c9)∧w6.cell? ⟨kb,0,none⟩=some (.string ⟨k.toArray⟩):=⟨by
        have:=hg6.cell 8
        unfold q28 at this
        simp only[List.getElem?_toArray,List.getElem?_cons_zero,List.getElem?_cons_succ] at this
        rw[this,HVX.out],hk6.cell 0⟩
       have HC6:=LH hC6
       have HI7:=LH hI7
       have HZ7:=LH hZ7
       obtain⟨A7,c7,hV7,_,_⟩:=q01 hrow6
       subst hV7
       clear hm6 hm6' hgV hxV hg6 hk6 hC6 hI7 hZ7 hv7 hrow6 v7
       go_simp
       refine hK _ _ (fun _=>HC6.out) ?_
       clear hK KK
       refine nO 10 rfl (fun KK hK=>?_)
       go_simp
       refine hK _ _ (fun h=>absurd h (by decide)) ?_
       clear hK KK
       refine nO 11 rfl (fun KK hK=>?_)
       go_simp
       refine hK _ _ (fun h=>absurd h (by decide)) ?_
       clear hK KK
       refine nO 12 rfl (fun KK hK=>?_)
       go_simp
       refine hK _ _ (fun h=>absurd h (by decide)) ?_
       clear hK KK
       refine ndone (by kernel_rfl) ?_ _
       clear HQP y0 y1 yl HC6 n8 nl
       generalize (w6.setCell _ _)=w7 at *
       have hkb7:=q0v HZ7.out HB5.out HN5.out
       have HB7:=LH hkb7.1
       have HN7:=LH hkb7.2
       have hrd7:Rd w7 w5.heap.size 1 A l.length (l.map (Value.int .i64)):=HRD.out.fr HZ7.out.fr (Nat.le_refl _) (fun g off e h0 hs=>hs.owned (HA.out g off e h0))
       have HRD7:=LH hrd7
       have HA7:=LH (fun b o (e:A=some ⟨b,o,none⟩) (h0:0<l.length)=>((HZ7.out.ext b (by
        obtain⟨g,off,u,e2,hg,_⟩:=HRD.out.at1 (k:=0) h0
        rw[e] at e2;injection e2 with e2;injection e2 with e2;omega)).trans (HA.out b o e h0):own7 b=none))
       have HZ57:=LH (HZ5.out.trans HZ7.out)
       have hc6:(H5.wantd i k mode).c=3:=hc5
       have hm6:(H5.wantd i k mode).m=H.m:=hm5
       have HSZ7:=LH (show w5.heap.size≤w7.heap.size from HZ7.out.fr.size)
       clear hkb7 hrd7 HZ7 HZ5 HI5 HB5 HN5 HRD HA HV5 HVX HROW5
       generalize H5.wantd i k mode=H6 at *
       go_wp2_with fail
       go_loopw [123] (LwRel P own7 H6 l w7) (fun v _=>l.length-(intOf v).toNat)
       case atStart=>exact⟨0,rfl,Nat.zero_le _,own7,HI7.out,HZ.refl _ _ _⟩
       case round=>
        obtain⟨q,rfl,hq,own8,hI8,hZ8⟩:=hrel
        by_cases hlt:(q:Int)<l.length
        ·obtain⟨r,o,u,hA,hr,hu,hcu⟩:=(HRD7.out.fr hZ8.fr HSZ7.out (fun g off e h0 hs=>hs.owned (HA7.out g off e h0))).at1 (k:=q) (by omega)
         have hx:l[q]? = some l[q]:=List.getElem?_eq_getElem (by omega)
         rw[List.getElem?_map,hx] at hu
         simp only[Option.map_some,Option.some.injEq] at hu
         subst hu hA
         have hrw:r<wr.heap.size:=Nat.lt_of_lt_of_le hr (Nat.le_trans HSZ7.out hZ8.fr.size)
         have HSN:=LH (q72 (H:=H6) hx)
         have hsm:=q39 (l.take q) H6
         have hW8:=HW6.out.woundd (l.take q) hc6
         have hc8:(woundd H6 (l.take q)).c=3:=hsm.c.trans hc6
         have hm8:(woundd H6 (l.take q)).m=H.m:=hsm.m.trans hm6
         clear hsm hx
         generalize l[q]=oo at *
         generalize woundd H6 (l.take q)=H8 at *
         have HFD:=LH (q3o hI8 (by have:=hW8.m60;omega) oo)
         have HI8:=LH hI8
         have HZ8:=LH hZ8
         have HW8:=LH hW8
         clear hI8 hZ8 hW8
         by_cases hin:oo<1∨(H8.m:Int)<oo
         ·rw[q5g hin] at HFD
          have hws:H8.wound oo=H8:=by unfold Hs.wound;rw[if_neg (by rintro ⟨a,b,_⟩;omega)]
          have HR:=LH (show LwRel P own7 H6 l w7 (.int .i64 ((q+1:Nat):Int)) wr from⟨q+1,rfl,by omega,own8,by rw[HSN.out,hws];exact HI8.out,HZ8.out⟩)
          clear hin hws
          go_wp2_with fail
          refine HFD.out.mono ?_
          rintro e w9 ⟨rfl,rfl⟩
          go_wp2_with fail
          go_roundw
          case rel=>exact HR.out
          case measure=>simp[intOf];omega
         ·obtain⟨j,rfl⟩:∃ j:Nat,oo=j:=⟨oo.toNat,by omega⟩
          have hj1:1≤j:=by omega
          have hjm:j≤H8.m:=by omega
          rw[q45 hj1 hjm] at HFD
          unfold pw at HFD
          obtain⟨vj,hvj⟩:=HI8.out.tx j hj1 hjm
          obtain⟨_,j1,_,_,_,_,_,jl⟩:=hvj.cells
          clear hin hvj
          by_cases sj:(H8.tx j).state=1
          ·have hws:H8.wound j=H8.abort j:=by unfold Hs.wound;rw[if_pos ⟨by omega,by omega,sj⟩];rfl
           have HAB:=LH (q33 HI8.out HW8.out hc8 hj1 hjm)
           have HWS:=LH hws
           rw[sj] at j1
           unfold pw at HAB
           clear hws sj
           go_wp2_with fail
           refine HFD.out.mono ?_
           rintro e w9 ⟨rfl,rfl⟩
           go_wp2_with fail
           refine HAB.out.mono ?_
           rintro e w9 ⟨rfl,own9,hI9,hZ9⟩
           have HR:=LH (show LwRel P own7 H6 l w7 (.int .i64 ((q+1:Nat):Int)) w9 from⟨q+1,rfl,by omega,own9,by rw[HSN.out,HWS.out];exact hI9,HZ8.out.trans hZ9⟩)
           clear hI9 hZ9 j1 jl hcu
           go_wp2_with fail
           go_roundw
           case rel=>exact HR.out
           case measure=>simp[intOf];omega
          ·have hws:H8.wound j=H8:=by unfold Hs.wound;rw[if_neg (by rintro ⟨_,_,a⟩;exact sj a)]
           have HR:=LH (show LwRel P own7 H6 l w7 (.int .i64 ((q+1:Nat):Int)) wr from⟨q+1,rfl,by omega,own8,by rw[HSN.out,hws];exact HI8.out,HZ8.out⟩)
           have e1:((H8.tx j).state == 1)=false:=by simpa using sj
           clear hws sj
           go_wp2_with fail
           refine HFD.out.mono ?_
           rintro e w9 ⟨rfl,rfl⟩
           go_wp2_with fail
           go_roundw
           case rel=>exact HR.out
           case measure=>simp[intOf];omega
        ·obtain rfl:q=l.length:=by omega
         rw[List.take_length] at hI8
         have hsm:=q39 l H6
         have hW8:=HW6.out.woundd l hc6
         have hm8:(woundd H6 l).m=H.m:=hsm.m.trans hm6
         obtain⟨v8,hv8⟩:=hI8.tx i h1 (by omega)
         have hkb8:=q0v hZ8 HB7.out HN7.out
         have hbc8:=hkb8.1.cell 0
         simp only[List.getElem?_toArray,List.getElem?_cons_zero] at hbc8
         have hwn:=q8n hv8 (hW8.tx i h1 (by omega)) k hbc8
         obtain⟨_,_,_,_,_,_,n8,nl⟩:=hv8.cells
         obtain⟨A8',c8',hV8',_,_⟩:=q01 hv8.wants
         rw[hV8'] at n8 hwn
         have HWN:=LH hwn
         have HI8:=LH hI8
         have HZ8:=LH (HZ57.out.trans hZ8)
         clear hwn hkb8 hbc8 hv8 hV8' hW8 hsm hI8 hZ8
         generalize woundd H6 l=H8 at *
         go_wp2_with fail
         refine HWN.out.mono ?_
         rintro e w9 ⟨rfl,hb9⟩
         have hg9:GsP P own H8 w w9:=⟨own8,HI8.out.below hb9,HZ8.out.trans (HZ.below own8 hb9)⟩
         have hres:=HINW.out
         cases hwb:q0u (H8.tx i).wants k with
         | true=>
          rw[hwb,if_pos rfl] at hres
          have HR:=LH (LkQ.no (i:=i) (s:=s) hres (by decide) hg9)
          clear hwb hb9 hg9 hres n8
          go_wp2_with fail
          go_ret3
          exact HR.out.toP HKS.out
         | false=>
          rw[hwb,if_neg (by decide)] at hres
          have HR:=LH (LkQ.yes (i:=i) (s:=s) hres hg9)
          clear hwb hb9 hg9 hres n8
          go_wp2_with fail
          go_ret3
          exact HR.out.toP HKS.out
    | some ee=>
     by_cases he:ee=(H.sh s).epoch
     ·have HNS:=LH (show ¬q6m H i s from fun⟨e,h,h2⟩=>by rw[hse] at h;injection h with h;exact h2 (h▸he))
      rw[hse] at hlk
      have d1:(ee != (H.sh s).epoch)=false:=by simpa using he
      clear hse he
      go_upto_region 16 with (fail)
      clear hlk k1 k8
      have HMP:=LH (HV.out.shards.fr ((Fr.refl (fun _=>False) w2).drew) (fun h=>h))
      have k3':w2.drew.cell? ⟨P.gt i,3,none⟩=some (.map (some vt.bs)):=k3
      have m2':w2.drew.cell? ⟨P.gs s,2,none⟩=some (.int .i64 (H.sh s).epoch):=m2
      have gl':P.gt i<w2.drew.heap.size:=gl
      have sl':P.gs s<w2.drew.heap.size:=sl
      clear k3 m2 gl sl
      refine wp_region_still_tail 9 (by kernel_rfl) (by kernel_rfl) ?_
      change wpStill _ _ (World.drew _) _ _ _
      simp only[List.take_succ_cons,List.take_zero,List.drop_succ_cons,List.drop_zero]
      repeat still_step
      refine wpStill_nil ?_
      refine q0k (C:=q05) rfl 61 3 Tryz.underlying61 (.tmp 80) (.tmp 81) (.tmp 85) rfl (by simp[Act.eval]) HMP.out (by unfold maxLen;omega) (s:Int) (.int .i64 (H.sh s).epoch) (by simp[Act.eval];rfl) (by simp[Act.eval]) (q0j (by omega) (by omega)) ?_
      intro w3 hm3 hf3
      have hf3b:Fr (fun b=>b=vt.bs) w2 w3:=((Fr.refl _ w2).drew).trans hf3
      rw[q9z] at hm3
      have hm3b:MapG q05 w3 vt.bs 100 (inM (setF (H.tx i).shards s (H.sh s).epoch)):=by
       refine(hm3.tight kI61 (fun a _ ha=>?_)).mono (show kI61.length≤100 from by rw[q2h];decide)
       unfold inM at ha
       cases e:setF (H.tx i).shards s (H.sh s).epoch a with
       | none=>rw[e] at ha;exact absurd rfl ha
       | some q=>
        unfold setF at e
        split at e
        ·exact q1s (by omega) (by omega)
        ·have:=((HWF.out.tx i h1 hi).sh a q e).1;exact q1s (by omega) (by omega)
      have hv3:=HV.out.putShards hf3b hm3b
      have hfo:Fr (OS own (fun t=>t=.tx i)) w2 w3:=hf3b.mono (fun b _ e=>⟨_,by rw[e];exact HV.out.st.resolve_right (hns _ _),rfl⟩)
      have hI3:HI w3 own P (H.came i s):=HI2.out.setTx' hfo (Ext.refl own _) (fun b hb=>Nat.lt_of_lt_of_le (HI2.out.lt b hb) hfo.size) ⟨_,hv3⟩
      have hz3:HStep w2 own w3 own:=⟨Ext.refl own _,q27 hfo (fun _=>st_tx),fun _ _ h=>h⟩
      have hW3:=HWF.out.came h1 hi hs2
      have hkb3:=q0v hz3 HB2.out HN1.out
      have hbc3:=hkb3.1.cell 0
      have hbl3:=hkb3.1.lt
      simp only[List.getElem?_toArray,List.getElem?_cons_zero] at hbc3
      have hwx3:WfX { H.tx i with shards:=setF (H.tx i).shards s (H.sh s).epoch }:=by
       have:=hW3.tx i h1 hi
       unfold Hs.came at this
       rw[q2f] at this
       exact this
      have hwn:=q8o hv3 hwx3 k hbc3
      obtain⟨_,n1,_,_,_,_,n8,nl⟩:=hv3.cells
      obtain⟨A8,c8,hV8,_,_⟩:=q01 hv3.wants
      rw[hV8] at n8 hwn
      have HWN:=LH hwn
      have HI3:=LH hI3
      have HZ3:=LH (HZ2.out.trans hz3)
      have HB3:=LH hkb3.1
      have HW3:=LH hW3
      have HV3:=LH hv3
      clear hwn hI3 hz3 hkb3 hW3 hwx3 hv3 hfo hm3b hm3 hf3b hf3 k3' m2' gl' sl' HMP hV8
      go_wp2_with fail
      refine HWN.out.mono ?_
      rintro e w4 ⟨rfl,hb4⟩
      cases hwb:q0u (H.tx i).wants k with
      | true=>
       have HR:=LH (LkQ.no (i:=i) (s:=s) (HL2.out HNN.out HNS.out hwb) (by decide) ⟨own,HI3.out.below hb4,HZ3.out.trans (HZ.below own hb4)⟩)
       clear hwb hb4
       go_wp2_with fail
       go_ret3
       exact HR.out.toP HKS.out
      | false=>
       have HI4:=LH (HI3.out.below hb4)
       have HZ4:=LH (HZ3.out.trans (HZ.below own hb4))
       have hkb4:=q0v (HZ.below (Z:=StTag) own hb4) HB3.out HN1.out
       have HB4:=LH hkb4.1
       have hlk:=q80 (HI4.out.below (Below.refl w4.heap.size w4).drew) (show s<(H.came i s).c from by show s<H.c;omega) i mode ⟨k.toArray⟩ (by have:=HWF.out.m60;omega) (by rw[sx_mk];exact hk) hm (HW3.out.tab s (by show s<H.c;omega))
       rw[sx_mk] at hlk
       have HLKC:=LH hlk
       have HIN:=LH (HL3.out HNN.out HNS.out hwb)
       have HWB:=LH hwb
       have HCC:=And.intro ((show Blk w4.drew _ _ _ from hkb4.1).cell 0) (show kb<w4.drew.heap.size from hkb4.1.lt)
       simp only[List.getElem?_toArray,List.getElem?_cons_zero] at HCC
       clear hlk hwb hkb4 hb4 hbc3 hbl3 n8 HB3 HI3 HWN
       go_upto_region 19 with (fail)
       clear n1 nl
       refine wp_region_any (by kernel_rfl) ?_
       change wpAny _ _ _ _ _ _ _ (World.drew _)
       refine q0e (fun W=>W.cell? ⟨kb,0,none⟩=some (.string ⟨k.toArray⟩)∧kb<W.heap.size) 14 (fun _ _ _ _ _ h=>h) (fun HQP=>?_)
       refine nA 0 [1,2,6,7,8,9,10,11,12,13] rfl rfl HQP HCC (fun w' hw'=>by go_simp;rfl) ?_
       refine nA 1 [2,6,7,8,9,10,11,12,13] rfl rfl HQP HCC (fun w' hw'=>by go_simp;rfl) ?_
       refine nA 2 [6,7,8,9,10,11,12,13] rfl rfl HQP HCC (fun w' hw'=>by go_simp;rfl) ?_
       refine nA 3 [6,7,8,9,10,11,12,13] rfl rfl HQP HCC (fun w' hw'=>by go_simp;rfl) ?_
       refine nA 4 [6,7,8,9,10,11,12,13] rfl rfl HQP HCC (fun w' hw'=>by obtain⟨p0,pl⟩:=hw';go_simp;rfl) ?_
       refine nA 5 [6,7,8,9,10,11,12,13] rfl rfl HQP HCC (fun w' hw'=>by go_simp;rfl) ?_
       clear HCC
       refine nO 6 rfl (fun KK hK=>?_)
       go_simp
       refine HLKC.out.mono ?_
       rintro e w5 ⟨ok,l,er,A,c,own5,rfl,hP,hI5,hZ5,hrd5,hA5⟩
       have hz5:HStep w4 own w5 own5:=(HZ.below own (Below.refl w4.heap.size w4).drew).trans (hZ5.mono (fun _=>st_sh))
       have hkb5:=q0v hz5 HB4.out HN1.out
       have HCC:=And.intro (hkb5.1.cell 0) hkb5.1.lt
       simp only[List.getElem?_toArray,List.getElem?_cons_zero] at HCC
       have HB5:=LH hkb5.1
       have HN5:=LH hkb5.2
       have HI5:=LH (show HI w5 own5 P ((H.came i s).lkd i s k mode) from hI5)
       have HZ5:=LH (HZ4.out.trans hz5)
       have HP:=LH hP
       have HRD:=LH hrd5
       have HA:=LH hA5
       clear hz5 hkb5 hI5 hZ5 hP hrd5 hA5 HLKC HI4 HZ4 HB4
       go_simp
       refine hK _ _ (fun _=>HCC) ?_
       clear hK KK
       refine nO 7 rfl (fun KK hK=>?_)
       go_simp
       refine hK _ _ (fun _=>HCC) ?_
       clear hK KK
       refine nA 8 [11,12,13] rfl rfl HQP HCC (fun w' hw'=>by go_simp;rfl) ?_
       refine nA 9 [12,13] rfl rfl HQP HCC (fun w' hw'=>by go_simp;rfl) ?_
       refine nA 10 [13] rfl rfl HQP HCC (fun w' hw'=>by go_simp;rfl) ?_
       refine nO 11 rfl (fun KK hK=>?_)
       go_simp
       refine hK _ _ (fun _=>HCC) ?_
       clear hK KK
       refine nO 12 rfl (fun KK hK=>?_)
       go_simp
       refine hK _ _ (fun _=>HCC) ?_
       clear hK KK
       refine nO 13 rfl (fun KK hK=>?_)
       go_simp
       refine hK _ _ (fun _=>HCC) ?_
       clear hK KK
       refine ndone (by kernel_rfl) ?_ _
       clear HQP
       rcases q7u HP.out hm hkl with ⟨q1,rfl,rfl,rfl⟩|⟨q1,q2,rfl,rfl,rfl⟩|⟨q1,q2,q3,rfl,rfl,rfl⟩|⟨q1,q2,q3,rfl,rfl,hwp⟩
       ·have HR:=LH (LkQ.no (i:=i) (s:=s) (HIN.out.trans (HTW.out q1)) (by decide) ⟨own5,HI5.out,HZ5.out⟩)
        rw[show erV 9=.iface 79 (.int .i64 9) from rfl]
        clear q1 HCC
        go_wp2_with fail
        go_ret3
        exact HR.out.toP HKS.out
       ·have HR:=LH (LkQ.yes (i:=i) (s:=s) (HIN.out.trans (HGT.out q1 q2)) ⟨own5,HI5.out,HZ5.out⟩)
        rw[show erV 0=.nilIface from rfl]
        clear q1 q2 HCC
        go_wp2_with fail
        go_ret3
        exact HR.out.toP HKS.out
       ·have HR:=LH (LkQ.no (i:=i) (s:=s) (HIN.out.trans (HFU.out q1 q2 q3)) (by decide) ⟨own5,HI5.out,HZ5.out⟩)
        rw[show erV 4=.iface 79 (.int .i64 4) from rfl]
        clear q1 q2 q3 HCC
        go_wp2_with fail
        go_ret3
        exact HR.out.toP HKS.out
       ·have HINW:=LH (HIN.out.trans (HWT.out q1 q2 q3))
        have hlw:=wounds_eq (fun o m ho=>((HW3.out.tab s (by show s<H.c;omega)).at_ k).hold o m ho) hwp
        subst hlw
        rw[show erV 0=.nilIface from rfl]
        clear q1 q2 q3 HCC hwp
        have hW5:=HW3.out.lkd (mode:=mode) h1 (show i≤(H.came i s).m from hi) (show s<(H.came i s).c by show s<H.c;omega) hk
        have hwl5:q0u (((H.came i s).lkd i s k mode).tx i).wants k=false:=by
         show q0u ((H.came i s).tx i).wants k=false
         unfold Hs.came;rw[q2f];exact HWB.out
        have hc5:((H.came i s).lkd i s k mode).c=3:=hc
        have hm5:((H.came i s).lkd i s k mode).m=H.m:=rfl
        have hlm:=fun o (ho:o∈q24 (atT ((H.came i s).sh s).tab k).h (i:Int) mode)=>q6z ho
        have hll:=q70 (atT ((H.came i s).sh s).tab k).h (i:Int) mode
        generalize q24 (atT ((H.came i s).sh s).tab k).h (i:Int) mode=l at *
        clear HTW HGT HFU HWT HIN HP HL0 HL1 HL2 HL3 HW3 HV3 HZ2 HZ3 HI2 HB2
        generalize (H.came i s).lkd i s k mode=H5 at *
        have HW5:=LH hW5
        have HW6:=LH (hW5.wantd (mode:=mode) h1 (show i≤H5.m by omega) hk hwl5)
        have HLM:=LH hlm
        obtain⟨v5,hv5⟩:=HI5.out.tx i h1 (by omega)
        have HV5:=LH hv5
        have hwn4:=(hW5.tx i h1 (by omega)).wants4
        obtain⟨_,_,_,_,_,_,n8,nl⟩:=hv5.cells
        obtain⟨A9,c9,hV9,_,_⟩:=q01 hv5.wants
        have hrow5:=hv5.wants
        rw[hV9] at n8 hrow5
        have HROW5:=LH hrow5
        have HVX:=LH hV9
        clear hv5 hV9 hrow5 hW5 hwl5 hlm
        go_upto_region 23 with (fail)
        refine wp_region_any (by kernel_rfl) ?_
        change wpAny _ _ _ _ _ _ _ (World.drew _)
        refine q0e (fun W=>W.cell? ⟨P.gt i,8,none⟩=some (.slice A9 (H5.tx i).wants.length c9)∧W.cell? ⟨kb,0,none⟩=some (.string ⟨k.toArray⟩)) 10 (fun _ _ _ _ _ h=>h) (fun HQP=>?_)
        have HCC:w5.drew.cell? ⟨P.gt i,8,none⟩=some (.slice A9 (H5.tx i).wants.length c9)∧w5.drew.cell? ⟨kb,0,none⟩=some (.string ⟨k.toArray⟩):=⟨n8,(show Blk w5.drew _ _ _ from HB5.out).cell 0⟩
        refine nA 0 [10,11,12] rfl rfl HQP HCC (fun w' hw'=>by go_simp;rfl) ?_
        refine nA 1 [2,3,4,9,10,11,12] rfl rfl HQP HCC (fun w' hw'=>by go_simp;rfl) ?_
        refine nA 2 [3,4,9,10,11,12] rfl rfl HQP HCC (fun w' hw'=>by go_simp;rfl) ?_
        refine nA 3 [4,9,10,11,12] rfl rfl HQP HCC (fun w' hw'=>by go_simp;rfl) ?_
        refine nA 4 [9,10,11,12] rfl rfl HQP HCC (fun w' hw'=>by obtain⟨p0,p1⟩:=hw';go_simp;rfl) ?_
        refine nA 5 [7,8,9,10,11,12] rfl rfl HQP HCC (fun w' hw'=>by obtain⟨p0,p1⟩:=hw';go_simp;rfl) ?_
        refine nA 6 [7,8,9,10,11,12] rfl rfl HQP HCC (fun w' hw'=>by go_simp;rfl) ?_
        refine nA 7 [8,9,10,11,12] rfl rfl HQP HCC (fun w' hw'=>by go_simp;rfl) ?_
        have hkeep:∀ o q p,q<w5.heap.size→(w5.alloc o).cell? ⟨q,p,none⟩=w5.cell? ⟨q,p,none⟩:=fun o q p hq=>World.cell?_alloc_lt w5 o ⟨q,p,none⟩ hq
        refine nO 8 rfl (fun KK hK=>?_)
        go_simp
        refine hK _ _ (fun _=>⟨(hkeep _ _ _ nl).trans HCC.1,(hkeep _ _ _ HB5.out.lt).trans HCC.2⟩) ?_
        clear hK KK HCC hkeep
        refine nO 9 rfl (fun KK hK=>?_)
        refine q1g w5.drew w5.heap.size rfl _ (.tmp 113) (.tmp 117) 76 rfl 0 129 _ 2 24 Tryz.underlying76 wn_info rfl (by decide) _ _ _ #[.string ⟨k.toArray⟩,.int .i64 mode] rfl HROW5.out 1 rfl _ rfl rfl (by simp[Value.oneCell']) (by unfold maxLen;omega) (by omega) (Nat.zero_le _) ?_
        intro V2 w6 hrow6 hm6
        have hm6':Moved w5 w6 v5.Vx.ownBlock V2.ownBlock:=by rw[HVX.out];exact⟨⟨hm6.1.os,hm6.1.tape,hm6.1.output,hm6.1.size,hm6.1.block⟩,hm6.2⟩
        obtain⟨own7,hI7,hZ7,v7,hv7⟩:=HI5.out.pushWant (i:=i) (k:=k) (mode:=mode) HV5.out hm6' hrow6
        have hgV:¬some (P.gt i)=v5.Vx.ownBlock:=fun e=>HV5.out.rows_ne.2.1 e.symm
        have hxV:¬some kb=v5.Vx.ownBlock:=fun e=>by have:=HV5.out.xt kb e.symm;rw[HN5.out] at this;cases this
        have hg6:=hm6'.1.blk HV5.out.blk hgV
        have hk6:=hm6'.1.blk HB5.out hxV
        have y1:=hg6.frozen 8
        have yl:=hg6.lt
        have y0:∃ u,w6.cell? ⟨P.gt i,8,none⟩=some u:=by
         have:=hg6.cell 8
         unfold q28 at this
         simp only[List.getElem?_toArray,List.getElem?_cons_zero,List.getElem?_cons_succ] at this
         exact⟨_,this⟩
        obtain⟨u0,y0⟩:=y0
        have hC6:w6.cell? ⟨P.gt i,8,none⟩=some (.slice A9 (H5.tx i).wants.length c9)∧w6.cell? ⟨kb,0,none⟩=some (.string ⟨k.toArray⟩):=⟨by
         have:=hg6.cell 8
         unfold q28 at this
         simp only[List.getElem?_toArray,List.getElem?_cons_zero,List.getElem?_cons_succ] at this
         rw[this,HVX.out],hk6.cell 0⟩
        have HC6:=LH hC6
        have HI7:=LH hI7
        have HZ7:=LH hZ7
        obtain⟨A7,c7,hV7,_,_⟩:=q01 hrow6
        subst hV7
        clear hm6 hm6' hgV hxV hg6 hk6 hC6 hI7 hZ7 hv7 hrow6 v7
        go_simp
        refine hK _ _ (fun _=>HC6.out) ?_
        clear hK KK
        refine nO 10 rfl (fun KK hK=>?_)
        go_simp
        refine hK _ _ (fun h=>absurd h (by decide)) ?_
        clear hK KK
        refine nO 11 rfl (fun KK hK=>?_)
        go_simp
        refine hK _ _ (fun h=>absurd h (by decide)) ?_
        clear hK KK
        refine nO 12 rfl (fun KK hK=>?_)
        go_simp
        refine hK _ _ (fun h=>absurd h (by decide)) ?_
        clear hK KK
        refine ndone (by kernel_rfl) ?_ _
        clear HQP y0 y1 yl HC6 n8 nl
        generalize (w6.setCell _ _)=w7 at *
        have hkb7:=q0v HZ7.out HB5.out HN5.out
        have HB7:=LH hkb7.1
        have HN7:=LH hkb7.2
        have hrd7:Rd w7 w5.heap.size 1 A l.length (l.map (Value.int .i64)):=HRD.out.fr HZ7.out.fr (Nat.le_refl _) (fun g off e h0 hs=>hs.owned (HA.out g off e h0))
        have HRD7:=LH hrd7
        have HA7:=LH (fun b o (e:A=some ⟨b,o,none⟩) (h0:0<l.length)=>((HZ7.out.ext b (by
         obtain⟨g,off,u,e2,hg,_⟩:=HRD.out.at1 (k:=0) h0
         rw[e] at e2;injection e2 with e2;injection e2 with e2;omega)).trans (HA.out b o e h0):own7 b=none))
        have HZ57:=LH (HZ5.out.trans HZ7.out)
        have hc6:(H5.wantd i k mode).c=3:=hc5
        have hm6:(H5.wantd i k mode).m=H.m:=hm5
        have HSZ7:=LH (show w5.heap.size≤w7.heap.size from HZ7.out.fr.size)
        clear hkb7 hrd7 HZ7 HZ5 HI5 HB5 HN5 HRD HA HV5 HVX HROW5
        generalize H5.wantd i k mode=H6 at *
        go_wp2_with fail
        go_loopw [123] (LwRel P own7 H6 l w7) (fun v _=>l.length-(intOf v).toNat)
        case atStart=>exact⟨0,rfl,Nat.zero_le _,own7,HI7.out,HZ.refl _ _ _⟩
        case round=>
         obtain⟨q,rfl,hq,own8,hI8,hZ8⟩:=hrel
         by_cases hlt:(q:Int)<l.length
         ·obtain⟨r,o,u,hA,hr,hu,hcu⟩:=(HRD7.out.fr hZ8.fr HSZ7.out (fun g off e h0 hs=>hs.owned (HA7.out g off e h0))).at1 (k:=q) (by omega)
          have hx:l[q]? = some l[q]:=List.getElem?_eq_getElem (by omega)
          rw[List.getElem?_map,hx] at hu
          simp only[Option.map_some,Option.some.injEq] at hu
          subst hu hA
          have hrw:r<wr.heap.size:=Nat.lt_of_lt_of_le hr (Nat.le_trans HSZ7.out hZ8.fr.size)
          have HSN:=LH (q72 (H:=H6) hx)
          have hsm:=q39 (l.take q) H6
          have hW8:=HW6.out.woundd (l.take q) hc6
          have hc8:(woundd H6 (l.take q)).c=3:=hsm.c.trans hc6
          have hm8:(woundd H6 (l.take q)).m=H.m:=hsm.m.trans hm6
          clear hsm hx
          generalize l[q]=oo at *
          generalize woundd H6 (l.take q)=H8 at *
          have HFD:=LH (q3o hI8 (by have:=hW8.m60;omega) oo)
          have HI8:=LH hI8
          have HZ8:=LH hZ8
          have HW8:=LH hW8
          clear hI8 hZ8 hW8
          by_cases hin:oo<1∨(H8.m:Int)<oo
          ·rw[q5g hin] at HFD
           have hws:H8.wound oo=H8:=by unfold Hs.wound;rw[if_neg (by rintro ⟨a,b,_⟩;omega)]
           have HR:=LH (show LwRel P own7 H6 l w7 (.int .i64 ((q+1:Nat):Int)) wr from⟨q+1,rfl,by omega,own8,by rw[HSN.out,hws];exact HI8.out,HZ8.out⟩)
           clear hin hws
           go_wp2_with fail
           refine HFD.out.mono ?_
           rintro e w9 ⟨rfl,rfl⟩
           go_wp2_with fail
           go_roundw
           case rel=>exact HR.out
           case measure=>simp[intOf];omega
          ·obtain⟨j,rfl⟩:∃ j:Nat,oo=j:=⟨oo.toNat,by omega⟩
           have hj1:1≤j:=by omega
           have hjm:j≤H8.m:=by omega
           rw[q45 hj1 hjm] at HFD
           unfold pw at HFD
           obtain⟨vj,hvj⟩:=HI8.out.tx j hj1 hjm
           obtain⟨_,j1,_,_,_,_,_,jl⟩:=hvj.cells
           clear hin hvj
           by_cases sj:(H8.tx j).state=1
           ·have hws:H8.wound j=H8.abort j:=by unfold Hs.wound;rw[if_pos ⟨by omega,by omega,sj⟩];rfl
            have HAB:=LH (q33 HI8.out HW8.out hc8 hj1 hjm)
            have HWS:=LH hws
            rw[sj] at j1
            unfold pw at HAB
            clear hws sj
            go_wp2_with fail
            refine HFD.out.mono ?_
            rintro e w9 ⟨rfl,rfl⟩
            go_wp2_with fail
            refine HAB.out.mono ?_
            rintro e w9 ⟨rfl,own9,hI9,hZ9⟩
            have HR:=LH (show LwRel P own7 H6 l w7 (.int .i64 ((q+1:Nat):Int)) w9 from⟨q+1,rfl,by omega,own9,by rw[HSN.out,HWS.out];exact hI9,HZ8.out.trans hZ9⟩)
            clear hI9 hZ9 j1 jl hcu
            go_wp2_with fail
            go_roundw
            case rel=>exact HR.out
            case measure=>simp[intOf];omega
           ·have hws:H8.wound j=H8:=by unfold Hs.wound;rw[if_neg (by rintro ⟨_,_,a⟩;exact sj a)]
            have HR:=LH (show LwRel P own7 H6 l w7 (.int .i64 ((q+1:Nat):Int)) wr from⟨q+1,rfl,by omega,own8,by rw[HSN.out,hws];exact HI8.out,HZ8.out⟩)
            have e1:((H8.tx j).state == 1)=false:=by simpa using sj
            clear hws sj
            go_wp2_with fail
            refine HFD.out.mono ?_
            rintro e w9 ⟨rfl,rfl⟩
            go_wp2_with fail
            go_roundw
            case rel=>exact HR.out
            case measure=>simp[intOf];omega
         ·obtain rfl:q=l.length:=by omega
          rw[List.take_length] at hI8
          have hsm:=q39 l H6
          have hW8:=HW6.out.woundd l hc6
          have hm8:(woundd H6 l).m=H.m:=hsm.m.trans hm6
          obtain⟨v8,hv8⟩:=hI8.tx i h1 (by omega)
          have hkb8:=q0v hZ8 HB7.out HN7.out
          have hbc8:=hkb8.1.cell 0
          simp only[List.getElem?_toArray,List.getElem?_cons_zero] at hbc8
          have hwn:=q8n hv8 (hW8.tx i h1 (by omega)) k hbc8
          obtain⟨_,_,_,_,_,_,n8,nl⟩:=hv8.cells
          obtain⟨A8',c8',hV8',_,_⟩:=q01 hv8.wants
          rw[hV8'] at n8 hwn
          have HWN:=LH hwn
          have HI8:=LH hI8
          have HZ8:=LH (HZ57.out.trans hZ8)
          clear hwn hkb8 hbc8 hv8 hV8' hW8 hsm hI8 hZ8
          generalize woundd H6 l=H8 at *
          go_wp2_with fail
          refine HWN.out.mono ?_
          rintro e w9 ⟨rfl,hb9⟩
          have hg9:GsP P own H8 w w9:=⟨own8,HI8.out.below hb9,HZ8.out.trans (HZ.below own8 hb9)⟩
          have hres:=HINW.out
          cases hwb:q0u (H8.tx i).wants k with
          | true=>
           rw[hwb,if_pos rfl] at hres
           have HR:=LH (LkQ.no (i:=i) (s:=s) hres (by decide) hg9)
           clear hwb hb9 hg9 hres n8
           go_wp2_with fail
           go_ret3
           exact HR.out.toP HKS.out
          | false=>
           rw[hwb,if_neg (by decide)] at hres
           have HR:=LH (LkQ.yes (i:=i) (s:=s) hres hg9)
           clear hwb hb9 hg9 hres n8
           go_wp2_with fail
           go_ret3
           exact HR.out.toP HKS.out
     ·have hst:q6m H i s:=⟨ee,hse,he⟩
      have hl1:=HL1.out HNN.out hst
      have HAB:=LH (q33 HI2.out HWF.out hc h1 hi)
      rw[hse] at hlk
      have d1:(ee != (H.sh s).epoch)=true:=by simpa using he
      unfold pw at HAB
      have HL1:=LH hl1
      clear hse he hst hl1
      go_wp2_with fail
      refine HAB.out.mono ?_
      rintro e w3 ⟨rfl,own3,hI3,hZ3⟩
      have HR:=LH (LkQ.no (i:=i) (s:=s) HL1.out (by decide) ⟨own3,hI3,HZ2.out.trans hZ3⟩)
      clear hI3 hZ3 k1 k3 k8 gl m2 sl hlk
      go_wp2_with fail
      go_ret3
      exact HR.out.toP HKS.out
  ·have HR:=LH (show LkP P own i k w (H.lock i k mode) (.returned (.tuple #[.pointer none,.pointer none,.iface 79 (.int .i64 6)])) w1 from by rw[q66 h1 hi s1];exact⟨rfl,own,HI1.out,HZ1.out⟩)
   have e1:((H.tx i).state != 1)=true:=by simpa using s1
   clear s1
   go_wp2_with fail
   refine HF.out.mono ?_
   rintro e w2 ⟨rfl,rfl⟩
   go_wp2_with fail
   go_ret3
   exact HR.out
end
def bgTag (t:Tg):Prop:=t=.txr∨t=.hs
theorem Wf.begin {H:Hs} (h:Wf H) (h7:H.m<60):Wf H.begin:=by
 have e:∀ i,i≤H.m→H.begin.tx i=H.tx i:=fun i hi=>q07 (by omega) _
 have e1:H.begin.tx (H.m+1)=txn0:=q03 _ _ _
 refine⟨h.n4,h.c3,h7,h.nd,h.tab,h.sto,h.dead,h.net,h.down,fun i h1 hi=>?_,?_,fun i h1 hi=>?_⟩
 ·rcases Nat.lt_or_ge H.m i with h2|h2
  ·rw[show i=H.m+1 by have:i≤H.m+1:=hi;omega,e1]
   exact⟨Nat.zero_le _,fun p hp=>(nomatch hp),fun k e he=>(nomatch he),fun k e he=>(nomatch he),fun a ha=>(nomatch ha),List.nodup_nil⟩
  ·rw[e i h2];exact h.tx i h1 h2
 ·show H.time=tcnt H.begin
  rw[h.tm]
  unfold tcnt
  show _=(((List.range' 1 (H.m+1)).filter fun i=>decide ((H.begin.tx i).time≠0)).length:Int)
  rw[List.range'_concat,List.filter_append]
  have e2:List.filter (fun i=>decide ((H.begin.tx i).time≠0)) [1+1*H.m]=[]:=by
   rw[List.filter_eq_nil_iff]
   intro a ha
   rw[List.mem_singleton] at ha
   rw[ha,show 1+1*H.m=H.m+1 by omega,e1]
   simp[txn0]
  rw[e2,List.append_nil]
  congr 2
  apply List.filter_congr
  intro i hi
  rw[List.mem_range'_1] at hi
  rw[e i (by omega)]
 ·rcases Nat.lt_or_ge H.m i with h2|h2
  ·rw[show i=H.m+1 by have:i≤H.m+1:=hi;omega,e1]
   have:=h.time60
   exact⟨Int.le_refl _,this.1⟩
  ·rw[e i h2];exact h.tle i h1 h2
section
variable {w w' w4 w5:World} {own own' own4:Own} {P:Ptr} {H:Hs}
theorem HI.grown (h:HI w own P H) (hb:Below w.heap.size w w') (he:Ext own own' w.heap.size) (hlt:∀ b,own' b≠none→b<w'.heap.size):HI w' own' P H:=
 have hf:=q4g own hb
 ⟨hlt,h.hs.keep hf he (fun _ _ h=>h),fun s hs=>(h.sh s hs).keep hf he (fun _ _ h=>h),fun s j hs hj=>(h.nd s j hs hj).keep hf he (fun h=>h),fun i h1 h2=>(h.tx i h1 h2).keep hf he (fun h=>h) (fun h=>h)⟩
theorem HI.pushTx (h:HI w4 own4 P H) {b:Nat} {vt:TxV} (htx:TxI w4 own4 (H.m+1) b vt txn0) {v:HsV} (hv:HsI w4 own4 P H.c H.m H.net H.time v) {V':Value} (hm:Moved w4 w5 v.Vt.ownBlock V'.ownBlock)
  (hr:w5.ownsRow 0 74 1 V' (H.m+1) (((List.range' 1 H.m).map fun i=>pw (P.gt i))++[pw b])) :
  ∃ own',HI (w5.setCell ⟨P.g,4,none⟩ V') own' { P with gt:=upd P.gt (H.m+1) b } H.begin∧HZ bgTag w4 own4 (w5.setCell ⟨P.g,4,none⟩ V') own':=by
 have he:Ext own4 (q15 own4 w4.heap.size (fun q=>V'.ownBlock=some q) .txr) w4.heap.size:=q14
 have hf5:Fr (OS own4 bgTag) w4 w5:=hm.1.mono (fun q _ e=>⟨_,hv.txrt q e.symm,.inl rfl⟩)
 have hset:=Fr.set1 P.g w5 4 V'
 have hf:Fr (OS own4 bgTag) w4 (w5.setCell ⟨P.g,4,none⟩ V'):=hf5.setCell (p:=⟨P.g,4,none⟩) (.inl ⟨_,hv.gt,.inr rfl⟩) _
 have hgV:¬some P.g=v.Vt.ownBlock:=fun e=>by have:=hv.txrt P.g e.symm;rw[hv.gt] at this;cases this
 have hb5:Blk w5 P.g 92 (q2e v H.time):=hm.1.blk hv.nt.blk hgV
 have hnb:∀ q,NetF v q→¬OS own4 bgTag q:=fun q hq hs=>by rcases hs.tag (hv.nett q hq) with e|e <;> cases e
 have hN:NetI (w5.setCell ⟨P.g,4,none⟩ V') 0 P.g 0 92 (q2e { v with Vt:=V' } H.time) v.Vn v.D 100 v.L H.net.dead v.lost:=
  hv.nt.recs hf hnb (hb5.set_ 4 V') rfl rfl rfl
 have hrow:(w5.setCell ⟨P.g,4,none⟩ V').ownsRow 0 74 1 V' (H.m+1) ((List.range' 1 (H.m+1)).map fun i=>pw (upd P.gt (H.m+1) b i)):=by
  have h1:((List.range' 1 (H.m+1)).map fun i=>pw (upd P.gt (H.m+1) b i))=(((List.range' 1 H.m).map fun i=>pw (P.gt i))++[pw b]):=by
   rw[List.range'_concat,List.map_append]
   congr 1
   ·apply List.map_congr_left
    intro i hi
    rw[List.mem_range'_1] at hi
    rw[q07 (by omega)]
   ·rw[show 1+1*H.m=H.m+1 by omega,List.map_cons,List.map_nil,q03]
  rw[h1]
  exact hset.own hr (fun q hq e=>q02 hr hb5 (by decide) (by rw[hq,e]))
 have hxt:∀ q,V'.ownBlock=some q→q15 own4 w4.heap.size (fun q=>V'.ownBlock=some q) .txr q=some .txr:=fun q hq=>q1l (by
  rcases hm.2 with e|⟨b',e,hl⟩
  ·exact .inl (hv.txrt q (by rw[← e];exact hq))
  ·rw[e] at hq;injection hq with hq;exact .inr (by omega)) hq
 refine⟨_,⟨q1m hf.size (fun q hq=>(hrow.lt q hq).2),⟨{ v with Vt:=V' },hN,hv.msgs,fun q hq=>(he q (hv.nt.foot_lt hq)).trans (hv.nett q hq),hv.few,hf.own hv.shr (fun q hq hs=>by rcases hs.tag (hv.shrt q hq) with e|e <;> cases e),fun q hq=>(he q (hv.shr.lt q hq).2).trans (hv.shrt q hq),hrow,hxt,(he _ hv.nt.blk.lt).trans hv.gt⟩,fun s hs=>?_,fun s j hs hj=>?_,fun i h1 hi=>?_⟩,⟨he,hf,(by first|exact q1f (by simp)|exact fun _ _ h=>h)⟩⟩
 ·exact(h.sh s hs).keep hf he (fun t ht ht2=>by rcases ht with h|h|h|h|h <;> subst h <;> rcases ht2 with h|h <;> cases h)
 ·exact(h.nd s j hs hj).keep hf he (fun ht2=>by rcases ht2 with h|h <;> cases h)
 ·rcases Nat.lt_or_ge H.m i with h2|h2
  ·obtain rfl:i=H.m+1:=by have:i≤H.m+1:=hi;omega
   show TxC _ _ (H.m+1) (upd P.gt (H.m+1) b (H.m+1)) (upd H.tx (H.m+1) txn0 (H.m+1))
   rw[q03,q03]
   exact⟨vt,htx.keep hf he (fun ht2=>by rcases ht2 with h|h <;> cases h) (fun ht2=>by rcases ht2 with h|h <;> cases h)⟩
  ·show TxC _ _ i (upd P.gt (H.m+1) b i) (upd H.tx (H.m+1) txn0 i)
   rw[q07 (by omega),q07 (by omega)]
   exact(h.tx i h1 h2).keep hf he (fun ht2=>by rcases ht2 with h|h <;> cases h) (fun ht2=>by rcases ht2 with h|h <;> cases h)
end
end Go.Proofs.YtccahlhdifadfaaGreatDoor
