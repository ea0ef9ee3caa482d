/- Part 11 of the texts that the claim rests on (of 19): HsS, Pc1, Pc2, Pc3, HfF, HfG, HfH, HfI, HfJ. -/
import Derived.Test.YtccahlhdifadfaaGreatDoorPk09
namespace Go.Proofs.YtccahlhdifadfaaGreatDoor
open Go.RowKit
set_option maxRecDepth 100000
set_option maxHeartbeats 16000000
structure Sm (H H':Hs):Prop where
 n:H'.n=H.n
 c:H'.c=H.c
 m:H'.m=H.m
theorem Sm.refl (H:Hs):Sm H H:=⟨rfl,rfl,rfl⟩
theorem Sm.trans {A B C:Hs} (h:Sm A B) (k:Sm B C):Sm A C:=⟨k.n.trans h.n,k.c.trans h.c,k.m.trans h.m⟩
theorem Sm.add (H:Hs) (s j:Nat) (c:Cm) (b:Bool):Sm H (H.add s j c b).2:=⟨(q0y H s j c b).1,(q0y H s j c b).2.1,(q0y H s j c b).2.2.1⟩
theorem Sm.tells (H:Hs) (i:Nat) (kind:Int):Sm H (H.tells i kind):=⟨(q1q i kind _ H).1,(q1q i kind _ H).2.1,(q1q i kind _ H).2.2.1⟩
theorem q1d (H:Hs) (i:Nat):Sm H (H.abort i)∧(H.abort i).time=H.time∧∀ a,((H.abort i).tx a).state=(if a=i then 4 else(H.tx a).state)∧((H.abort i).tx a).writes=(H.tx a).writes∧((H.abort i).tx a).shards=(H.tx a).shards∧((H.abort i).tx a).places=(H.tx a).places∧((H.abort i).tx a).time=(H.tx a).time:=by
 rw[q3r]
 obtain⟨a1,a2,a3,a4,a5⟩:=q2z i (H.tx i).comes (H.dropTx i)
 obtain⟨b1,b2,b3,b4,b5⟩:=q1q i 4 ((reld (H.dropTx i) i (H.tx i).comes).tx i).comes (reld (H.dropTx i) i (H.tx i).comes)
 refine⟨⟨b1.trans a2,b2.trans a1,b3.trans a3⟩,b4.trans a4,fun a=>?_⟩
 obtain⟨c1,c2,c3,c4,c5⟩:=a5 a
 obtain⟨d1,d2,d3,d4,d5⟩:=b5 a
 have hd:∀ a,((H.dropTx i).tx a)=if a=i then { H.tx i with state:=4,wants:=[] } else H.tx a:=fun a=>rfl
 have e:=hd a
 by_cases h:a=i
 ·subst h
  rw[if_pos rfl] at e
  rw[if_pos rfl]
  exact⟨d1.trans (c1.trans (by rw[e])),d2.trans (c2.trans (by rw[e])),d3.trans (c3.trans (by rw[e])),d4.trans (c4.trans (by rw[e])),d5.trans (c5.trans (by rw[e]))⟩
 ·rw[if_neg h] at e
  rw[if_neg h]
  exact⟨d1.trans (c1.trans (by rw[e])),d2.trans (c2.trans (by rw[e])),d3.trans (c3.trans (by rw[e])),d4.trans (c4.trans (by rw[e])),d5.trans (c5.trans (by rw[e]))⟩
theorem q1v (H:Hs) (i k:Nat) (a:Int) (x:Nat):((H.putPlace i k a).tx x).state=(H.tx x).state:=by
 show(upd H.tx i _ x).state=_
 by_cases e:x=i
 ·subst e;rw[q03]
 ·rw[q07 e]
structure E1 (H:Hs) (i:Nat) (r:Hs×Option Bool):Prop where
 sm:Sm H r.1
 other:∀ a,a≠i→(r.1.tx a).state=(H.tx a).state
 out:r.2=none→(r.1.tx i).state=4
 on:r.2≠none→(r.1.tx i).state=(H.tx i).state
theorem q6d (H:Hs) (i k:Nat) (b:Bool):E1 H i (H.end1 i k b):=by
 have hab:∀ H1:Hs,Sm H H1→(∀ a,(H1.tx a).state=(H.tx a).state)→E1 H i (H1.abort i,none):=fun H1 h1 h2=>by
  obtain⟨f1,_,f3⟩:=q1d H1 i
  refine⟨h1.trans f1,fun a ha=>?_,fun _=>?_,fun h=>absurd rfl h⟩
  ·show((H1.abort i).tx a).state=_
   rw[(f3 a).1,if_neg ha,h2]
  ·show((H1.abort i).tx i).state=4
   rw[(f3 i).1,if_pos rfl]
 have hst:∀ (H1:Hs) (x:Bool),Sm H H1→(∀ a,(H1.tx a).state=(H.tx a).state)→E1 H i (H1,some x):=fun H1 x h1 h2=>⟨h1,fun a _=>h2 a,fun h=>(by cases h),fun _=>h2 i⟩
 cases hh:H.head k with
 | none=>rw[q5j hh];exact hst H false (Sm.refl H) (fun _=>rfl)
 | some j=>
  cases hp:place ((H.sh k).nd j).log 2 i with
  | some p=>rw[q4e hh hp];exact hst _ _ ⟨rfl,rfl,rfl⟩ (q1v H i k p)
  | none=>
   by_cases hb:BadE H i k
   ·by_cases ht:(H.tx i).time=0
    ·rw[q5m hh hp hb ht];exact hab H (Sm.refl H) (fun _=>rfl)
    ·rw[q5l hh hp hb ht];exact hst H false (Sm.refl H) (fun _=>rfl)
   ·have hs:=q0y H k j ⟨2,i,0,(H.tx i).of k⟩ b
    by_cases ha:(H.add k j ⟨2,i,0,(H.tx i).of k⟩ b).1<0
    ·rw[q5k hh hp hb ha];exact hab _ (Sm.add _ _ _ _ _) (fun a=>(hs.2.2.2.2 a).1)
    ·rw[q6v hh hp hb ha]
     exact hst _ _ ((Sm.add H k j _ b).trans ⟨rfl,rfl,rfl⟩) (fun a=>(q1v _ i k _ a).trans (hs.2.2.2.2 a).1)
theorem Wf.end1 {H:Hs} (h:Wf H) (hc:H.c=3) {i k:Nat} (h1:1≤i) (hi:i≤H.m) (hk:k<2) (b:Bool):Wf (H.end1 i k b).1:=by
 cases hh:H.head k with
 | none=>rw[q5j hh];exact h
 | some j=>
  cases hp:place ((H.sh k).nd j).log 2 i with
  | some p=>rw[q4e hh hp];exact h.putPlace h1 hi hk p
  | none=>
   by_cases hb:BadE H i k
   ·by_cases ht:(H.tx i).time=0
    ·rw[q5m hh hp hb ht];exact h.abort hc h1 hi
    ·rw[q5l hh hp hb ht];exact h
   ·have hs:=q0y H k j ⟨2,i,0,(H.tx i).of k⟩ b
    have hw:=h.add (s:=k) (by omega) (q44 hh) (h.prepC h1 hi k) b
    by_cases ha:(H.add k j ⟨2,i,0,(H.tx i).of k⟩ b).1<0
    ·rw[q5k hh hp hb ha];exact hw.abort (by rw[hs.2.1];exact hc) h1 (by rw[hs.2.2.1];exact hi)
    ·rw[q6v hh hp hb ha];exact hw.putPlace h1 (by rw[hs.2.2.1];exact hi) hk _
theorem q3p (i:Nat) (b:Nat→Bool):∀ (ks:List Nat) (H:Hs) (all:Bool),E1 H i (Hs.endsL i b ks H all)
 | [],H,all=>⟨Sm.refl H,fun _ _=>rfl,fun h=>(by cases h),fun _=>rfl⟩
 | k::ks,H,all=>by
  have f1:=q6d H i k (b k)
  show E1 H i (match (H.end1 i k (b k)).2 with|none=>((H.end1 i k (b k)).1,none)|some a=>Hs.endsL i b ks (H.end1 i k (b k)).1 (all && a))
  cases e:(H.end1 i k (b k)).2 with
  | none=>exact⟨f1.sm,f1.other,fun _=>f1.out e,fun h=>absurd rfl h⟩
  | some a=>
   have f2:=q3p i b ks (H.end1 i k (b k)).1 (all && a)
   exact⟨f1.sm.trans f2.sm,fun x hx=>(f2.other x hx).trans (f1.other x hx),f2.out,fun h=>(f2.on h).trans (f1.on (by rw[e];simp))⟩
theorem Wf.endsL {i:Nat} {b:Nat→Bool} (h1:1≤i):∀ (ks:List Nat) {H:Hs} (all:Bool),Wf H→H.c=3→i≤H.m→(∀ k∈ks,k<2)→Wf (Hs.endsL i b ks H all).1
 | [],H,all,h,_,_,_=>h
 | k::ks,H,all,h,hc,hi,hk=>by
  have f1:=q6d H i k (b k)
  have hw:=h.end1 hc h1 hi (hk k (List.mem_cons_self ..)) (b k)
  show Wf (match (H.end1 i k (b k)).2 with|none=>((H.end1 i k (b k)).1,none)|some a=>Hs.endsL i b ks (H.end1 i k (b k)).1 (all && a)).1
  cases e:(H.end1 i k (b k)).2 with
  | none=>exact hw
  | some a=>exact Wf.endsL h1 ks _ hw (f1.sm.c.trans hc) (by rw[f1.sm.m];exact hi) (fun x hx=>hk x (List.mem_cons_of_mem _ hx))
theorem q4l (H:Hs) (i a:Nat):((H.timed i).tx a).state=(H.tx a).state:=by
 unfold Hs.timed
 split
 ·show(upd H.tx i _ a).state=_
  by_cases e:a=i
  ·subst e;rw[q03]
  ·rw[q07 e]
 ·rfl
theorem q6l (H:Hs) (i a:Nat):((H.commit i).tx a).state=if a=i then 3 else(H.tx a).state:=by
 have h:=((q1q i 3 ((H.stateTx i 3).tx i).comes (H.stateTx i 3)).2.2.2.2 a).1
 show((telld (H.stateTx i 3) i 3 ((H.stateTx i 3).tx i).comes).tx a).state=_
 rw[h]
 show(upd H.tx i _ a).state=_
 by_cases e:a=i
 ·subst e;rw[q03,if_pos rfl]
 ·rw[q07 e,if_neg e]
theorem Sm.commit (H:Hs) (i:Nat):Sm H (H.commit i):=(⟨rfl,rfl,rfl⟩:Sm H (H.stateTx i 3)).trans (Sm.tells _ _ _)
structure D1 (H:Hs) (i:Nat) (r:Hs×Bool):Prop where
 sm:Sm H r.1
 other:∀ a,a≠i→(r.1.tx a).state=(H.tx a).state
 yes:r.2=true→(r.1.tx i).state≠2
 no:r.2=false→(r.1.tx i).state=(H.tx i).state
theorem qa3 (H:Hs) (i:Nat) (b:Bool):D1 H i (H.decides i b):=by
 have hno:∀ H1:Hs,Sm H H1→(∀ a,(H1.tx a).state=(H.tx a).state)→D1 H i (H1,false):=fun H1 h1 h2=>⟨h1,fun a _=>h2 a,fun h=>(by cases h),fun _=>h2 i⟩
 have hco:∀ H1:Hs,Sm H H1→(∀ a,(H1.tx a).state=(H.tx a).state)→D1 H i (H1.commit i,true):=fun H1 h1 h2=>by
  refine⟨h1.trans (Sm.commit H1 i),fun a ha=>?_,fun _=>?_,fun h=>(by cases h)⟩
  ·show((H1.commit i).tx a).state=_
   rw[q6l,if_neg ha,h2]
  ·show((H1.commit i).tx i).state≠2
   rw[q6l,if_pos rfl];decide
 cases hh:H.head 2 with
 | none=>rw[q5n hh];exact hno H (Sm.refl H) (fun _=>rfl)
 | some j=>
  cases hp:place ((H.sh 2).nd j).log 3 i with
  | some p=>
   rw[q6w hh hp]
   split
   ·exact hno H (Sm.refl H) (fun _=>rfl)
   ·exact hco H (Sm.refl H) (fun _=>rfl)
  | none=>
   rw[qa4 hh hp]
   have ht:=q11 H i
   have hs:=q0y (H.timed i) 2 j ⟨3,i,((H.timed i).tx i).time,[]⟩ b
   have hsm:Sm H ((H.timed i).add 2 j ⟨3,i,((H.timed i).tx i).time,[]⟩ b).2:=(⟨ht.1,ht.2.1,ht.2.2.1⟩:Sm H (H.timed i)).trans (Sm.add _ _ _ _ _)
   have hst:∀ a,(((H.timed i).add 2 j ⟨3,i,((H.timed i).tx i).time,[]⟩ b).2.tx a).state=(H.tx a).state:=fun a=>((hs.2.2.2.2 a).1).trans (q4l H i a)
   split
   ·exact hno _ hsm hst
   ·split
    ·exact hno _ hsm hst
    ·exact hco _ hsm hst
theorem Wf.decides {H:Hs} (h:Wf H) (hc:H.c=3) {i:Nat} (h1:1≤i) (hi:i≤H.m) (b:Bool):Wf (H.decides i b).1:=by
 cases hh:H.head 2 with
 | none=>rw[q5n hh];exact h
 | some j=>
  cases hp:place ((H.sh 2).nd j).log 3 i with
  | some p=>
   rw[q6w hh hp]
   split
   ·exact h
   ·exact h.commit hc h1 hi
  | none=>
   rw[qa4 hh hp]
   have ht:=q11 H i
   have hjn:=q44 hh
   have hw:=(h.timed h1 hi).add (s:=2) (j:=j) (by rw[ht.2.1];omega) (by rw[ht.1];exact hjn) ((h.timed h1 hi).decC h1 (by rw[ht.2.2.1];exact hi)) b
   have hs:=q0y (H.timed i) 2 j ⟨3,i,((H.timed i).tx i).time,[]⟩ b
   split
   ·exact hw
   ·split
    ·exact hw
    ·exact hw.commit (by rw[hs.2.1,ht.2.1];exact hc) h1 (by rw[hs.2.2.1,ht.2.2.1];exact hi)
theorem ends_facts (H:Hs) (i:Nat) (b:Nat→Bool) (_h2:(H.tx i).state=2):D1 H i (H.ends i b):=by
 have f:=q3p i b (H.tx i).comes H true
 cases e:(Hs.endsL i b (H.tx i).comes H true).2 with
 | none=>
  rw[q5i (show _=((Hs.endsL i b (H.tx i).comes H true).1,none) from by rw[← e])]
  exact⟨f.sm,f.other,fun _=>by show(((Hs.endsL i b (H.tx i).comes H true).1).tx i).state≠2;rw[f.out e];decide,fun h=>(by cases h)⟩
 | some a=>
  cases a with
  | false=>
   rw[q4d (show _=((Hs.endsL i b (H.tx i).comes H true).1,some false) from by rw[← e])]
   exact⟨f.sm,f.other,fun h=>(by cases h),fun _=>f.on (by rw[e];simp)⟩
  | true=>
   rw[q5h (show _=((Hs.endsL i b (H.tx i).comes H true).1,some true) from by rw[← e])]
   have g:=qa3 (Hs.endsL i b (H.tx i).comes H true).1 i (b 2)
   exact⟨f.sm.trans g.sm,fun x hx=>(g.other x hx).trans (f.other x hx),g.yes,fun h=>(g.no h).trans (f.on (by rw[e];simp))⟩
theorem Wf.ends {H:Hs} (h:Wf H) (hc:H.c=3) {i:Nat} (h1:1≤i) (hi:i≤H.m) (b:Nat→Bool):Wf (H.ends i b).1:=by
 have f:=q3p i b (H.tx i).comes H true
 have hw:=Wf.endsL (b:=b) h1 (H.tx i).comes true h hc hi (fun k hk=>q1a hk)
 cases e:(Hs.endsL i b (H.tx i).comes H true).2 with
 | none=>rw[q5i (show _=((Hs.endsL i b (H.tx i).comes H true).1,none) from by rw[← e])];exact hw
 | some a=>
  cases a with
  | false=>rw[q4d (show _=((Hs.endsL i b (H.tx i).comes H true).1,some false) from by rw[← e])];exact hw
  | true=>
   rw[q5h (show _=((Hs.endsL i b (H.tx i).comes H true).1,some true) from by rw[← e])]
   exact hw.decides (f.sm.c.trans hc) h1 (by rw[f.sm.m];exact hi) _
theorem q2t (H:Hs) (i:Nat) (b:Nat→Bool):D1 H i (H.settle1 i b)∧((H.settle1 i b).2=true→(H.tx i).state=2):=by
 unfold Hs.settle1
 have ht:∀ kind,D1 H i (H.tells i kind,false):=fun kind=>⟨Sm.tells H i kind,fun a _=>((q1q i kind _ H).2.2.2.2 a).1,fun h=>(by cases h),fun _=>((q1q i kind _ H).2.2.2.2 i).1⟩
 split
 ·rename_i h2;exact⟨ends_facts H i b h2,fun _=>h2⟩
 ·split
  ·exact⟨ht 3,fun h=>(by cases h)⟩
  ·split
   ·exact⟨ht 4,fun h=>(by cases h)⟩
   ·exact⟨⟨Sm.refl H,fun _ _=>rfl,fun h=>(by cases h),fun _=>rfl⟩,fun h=>(by cases h)⟩
theorem Wf.settle1 {H:Hs} (h:Wf H) (hc:H.c=3) {i:Nat} (h1:1≤i) (hi:i≤H.m) (b:Nat→Bool):Wf (H.settle1 i b).1:=by
 unfold Hs.settle1
 split
 ·exact h.ends hc h1 hi b
 ·split
  ·exact h.tells hc h1 hi 3
  ·split
   ·exact h.tells hc h1 hi 4
   ·exact h
def q3g (H:Hs):Nat:=((List.range' 1 H.m).filter fun a=>decide ((H.tx a).state=2)).length
theorem settle1_cnt (H:Hs) {i:Nat} (h1:1≤i) (hi:i≤H.m) (b:Nat→Bool):((H.settle1 i b).2=false→q3g (H.settle1 i b).1=q3g H)∧((H.settle1 i b).2=true→q3g (H.settle1 i b).1+1=q3g H):=by
 obtain⟨f,g⟩:=q2t H i b
 unfold q3g
 rw[f.sm.m]
 constructor
 ·intro h
  congr 1
  apply List.filter_congr
  intro a _
  by_cases e:a=i
  ·subst e;rw[f.no h]
  ·rw[f.other a e]
 ·intro h
  refine(q6c (i:=i) (by simp[f.yes h]) (by simp[g h]) List.nodup_range' (List.mem_range'_1.2 ⟨h1,by omega⟩) (fun k _ e=>by rw[f.other k e])).symm
theorem q90 (bs:Nat→Nat→Bool):∀ (k i:Nat) (r:Hs×Bool),Hs.round bs (k+1) i r=(((Hs.round bs k i r).1.settle1 (i+k) (bs (i+k))).1,((Hs.round bs k i r).1.settle1 (i+k) (bs (i+k))).2 || (Hs.round bs k i r).2)
 | 0,i,r=>rfl
 | k+1,i,r=>by
  have:=q90 bs k (i+1) ((r.1.settle1 i (bs i)).1,(r.1.settle1 i (bs i)).2 || r.2)
  show Hs.round bs (k+1) (i+1) _=_
  rw[this,show i+1+k=i+(k+1) by omega]
  rfl
theorem q7f {bs bs':Nat→Nat→Bool} : ∀ (k i:Nat) (r:Hs×Bool),(∀ a,i≤a→a<i+k→bs a=bs' a)→Hs.round bs k i r=Hs.round bs' k i r
 | 0,_,_,_=>rfl
 | k+1,i,r,h=>by
  show Hs.round bs k (i+1) ((r.1.settle1 i (bs i)).1,_)=Hs.round bs' k (i+1) ((r.1.settle1 i (bs' i)).1,_)
  rw[h i (Nat.le_refl _) (by omega)]
  exact q7f k (i+1) _ (fun a h1 h2=>h a (by omega) (by omega))
def Lv (H:Hs) (s j:Nat):Prop:=j<H.n∧(H.sh s).dead ((H.sh s).nd j).id=false
theorem q1i {H:Hs} {s j:Nat} : j∈(H.sh s).liveIx H.n↔Lv H s j:=by simp[Shd.liveIx,Lv]
def idn (s j:Nat):Int:=10*s+j
def lg (H:Hs) (s j:Nat):List Cm:=((H.sh s).nd j).log
structure Cfg (H:Hs) (s:Nat) (L:List Nat):Prop where
 sorted:L.Pairwise (· < ·)
 lt:∀ j∈L,j<H.n
 mem:∀ j,Lv H s j→j∈L
 nd:∀ j,Lv H s j→((H.sh s).nd j).epoch=(H.sh s).epoch∧((H.sh s).nd j).nodes=L.map (idn s)∧∃ p,L[p]? = some j∧((H.sh s).nd j).at_=(p:Nat)
structure MsI (H:Hs) (s j:Nat) (m:Ms):Prop where
 ep:m.epoch≤(H.sh s).epoch
 fwd:m.epoch=(H.sh s).epoch→m.kind=3→∃ k:Nat,m.n=k∧(lg H s j)[k]? = some m.cmd
 st:m.epoch=(H.sh s).epoch→m.kind=4→∀ i,Lv H s i→m.n≤(lg H s i).length
structure ChI (H:Hs):Prop where
 n4:H.n≤4
 ids:∀ s j,s<H.c→j<H.n→((H.sh s).nd j).id=idn s j
 cfg:∀ s,s<H.c→∃ L,Cfg H s L
 pre:∀ s,s<H.c→∀ i j,i≤j→Lv H s i→Lv H s j→lg H s j <+: lg H s i
 st:∀ s,s<H.c→∀ i j,Lv H s i→Lv H s j→((H.sh s).nd i).stable≤(lg H s j).length
 dn:∀ s j,s<H.c→j<H.n→H.net.dead (idn s j)=(H.sh s).dead (idn s j)
 ms:∀ m∈H.net.l,H.net.dead m.from_=false∧H.net.dead m.to_=false∧∃ s j,s<H.c∧j<H.n∧m.from_=idn s j∧MsI H s j m
theorem idn_inj {s j t i:Nat} (hj:j<10) (hi:i<10) (h:idn s j=idn t i):s=t∧j=i:=by unfold idn at h;omega
structure q09 (H H':Hs):Prop where
 n:H'.n=H.n
 c:H'.c=H.c
 net:H'.net=H.net
 nd:∀ s,(H'.sh s).nd=(H.sh s).nd
 dead:∀ s,(H'.sh s).dead=(H.sh s).dead
 epoch:∀ s,(H'.sh s).epoch=(H.sh s).epoch
theorem q09.refl (H:Hs):q09 H H:=⟨rfl,rfl,rfl,fun _=>rfl,fun _=>rfl,fun _=>rfl⟩
theorem q09.trans {A B C:Hs} (h:q09 A B) (k:q09 B C):q09 A C:=
 ⟨k.n.trans h.n,k.c.trans h.c,k.net.trans h.net,fun s=>(k.nd s).trans (h.nd s),fun s=>(k.dead s).trans (h.dead s),fun s=>(k.epoch s).trans (h.epoch s)⟩
section
variable {H H':Hs}
theorem q09.lv (h:q09 H H') {s j:Nat} : Lv H' s j↔Lv H s j:=by unfold Lv;rw[h.n,h.dead,h.nd]
theorem q09.lg (h:q09 H H') (s j:Nat):lg H' s j=lg H s j:=by unfold Go.Proofs.YtccahlhdifadfaaGreatDoor.lg;rw[h.nd]
theorem q09.cfg (h:q09 H H') {s:Nat} {L:List Nat} (k:Cfg H s L):Cfg H' s L:=
 ⟨k.sorted,by rw[h.n];exact k.lt,fun j hj=>k.mem j (h.lv.1 hj),fun j hj=>by rw[h.nd,h.epoch];exact k.nd j (h.lv.1 hj)⟩
theorem q09.msI (h:q09 H H') {s j:Nat} {m:Ms} (k:MsI H s j m):MsI H' s j m:=
 ⟨by rw[h.epoch];exact k.ep,by rw[h.epoch,h.lg];exact k.fwd,by rw[h.epoch];exact fun e e2 i hi=>by rw[h.lg];exact k.st e e2 i (h.lv.1 hi)⟩
theorem ChI.same (h:ChI H) (k:q09 H H'):ChI H':=
 ⟨by rw[k.n];exact h.n4,by rw[k.n,k.c];exact fun s j hs hj=>by rw[k.nd];exact h.ids s j hs hj,by rw[k.c];exact fun s hs=>(h.cfg s hs).imp fun _ g=>k.cfg g,
  by rw[k.c];exact fun s hs i j hij hi hj=>by rw[k.lg,k.lg];exact h.pre s hs i j hij (k.lv.1 hi) (k.lv.1 hj),
  by rw[k.c];exact fun s hs i j hi hj=>by rw[k.lg,k.nd];exact h.st s hs i j (k.lv.1 hi) (k.lv.1 hj),
  by rw[k.c,k.n,k.net];exact fun s j hs hj=>by rw[k.dead];exact h.dn s j hs hj,
  by rw[k.c,k.n,k.net];exact fun m hm=>by obtain⟨h1,h2,s,j,hs,hj,hf,hI⟩:=h.ms m hm;exact⟨h1,h2,s,j,hs,hj,hf,k.msI hI⟩⟩
theorem q09.take (H:Hs) (s:Nat):q09 H (H.take s):=by
 have h:=q0b.take H s
 have hs:∀ k,((H.take s).sh k).nd=(H.sh k).nd∧((H.take s).sh k).dead=(H.sh k).dead∧((H.take s).sh k).epoch=(H.sh k).epoch:=fun k=>by
  by_cases e:k=s
  ·subst e;exact⟨h.nd,h.dead,h.epoch⟩
  ·rw[h.sh k e];exact⟨rfl,rfl,rfl⟩
 exact⟨h.n,h.c,h.net,fun k=>(hs k).1,fun k=>(hs k).2.1,fun k=>(hs k).2.2⟩
theorem q09.setTx (H:Hs) (i:Nat) (t:Txn):q09 H (H.setTx i t):=⟨rfl,rfl,rfl,fun _=>rfl,fun _=>rfl,fun _=>rfl⟩
theorem q09.granted (H:Hs) (T:Tb) (tx:Int):q09 H (H.granted T tx):=⟨rfl,rfl,rfl,fun _=>rfl,fun _=>rfl,fun _=>rfl⟩
theorem q09.setSh {H:Hs} {s:Nat} {x:Shd} (h1:x.nd=(H.sh s).nd) (h2:x.dead=(H.sh s).dead) (h3:x.epoch=(H.sh s).epoch):q09 H (H.setSh s x):=by
 have hs:∀ k,((H.setSh s x).sh k).nd=(H.sh k).nd∧((H.setSh s x).sh k).dead=(H.sh k).dead∧((H.setSh s x).sh k).epoch=(H.sh k).epoch:=fun k=>by
  by_cases e:k=s
  ·subst e;rw[q0d];exact⟨h1,h2,h3⟩
  ·rw[show(H.setSh s x).sh k=H.sh k from q07 e _];exact⟨rfl,rfl,rfl⟩
 exact⟨rfl,rfl,rfl,fun k=>(hs k).1,fun k=>(hs k).2.1,fun k=>(hs k).2.2⟩
theorem q09.rel (H:Hs) (s:Nat) (tx:Int):q09 H (H.rel s tx):=(q09.setSh (x:={ H.sh s with tab:=relT (H.sh s).tab tx }) rfl rfl rfl).trans (q09.granted _ _ _)
theorem sendS_mem {s:NetS} {m x:Ms} (h:x∈(sendS s m).l):x∈s.l∨(x=m∧s.dead m.from_=false∧s.dead m.to_=false):=by
 unfold sendS at h
 split at h
 ·exact .inl h
 ·rename_i hn
  unfold stopB at hn
  simp only[Bool.or_eq_true,not_or,Bool.not_eq_true] at hn
  rcases List.mem_append.1 h with h|h
  ·exact .inl h
  ·exact .inr ⟨List.mem_singleton.1 h,hn.1.1,hn.1.2⟩
theorem q7d:∀ (ms:List Ms) {s:NetS} {x:Ms},x∈(q0o s ms).l→x∈s.l∨(x∈ms∧s.dead x.from_=false∧s.dead x.to_=false)
 | [],_,_,h=>.inl h
 | m::ms,s,x,h=>by
  have h2:x∈(q0o (sendS s m) ms).l:=h
  rcases q7d ms h2 with h3|⟨h3,h4⟩
  ·rcases sendS_mem h3 with h5|⟨rfl,h5⟩
   ·exact .inl h5
   ·exact .inr ⟨List.mem_cons_self,h5⟩
  ·rw[q5v] at h4;exact .inr ⟨List.mem_cons_of_mem _ h3,h4⟩
theorem ChI.netSub (h:ChI H) {l:List Ms} (hl:∀ m∈l,m∈H.net.l):ChI { H with net:=⟨l,H.net.dead⟩ }:=
 ⟨h.n4,h.ids,fun s hs=>(h.cfg s hs).imp fun _ g=>⟨g.sorted,g.lt,g.mem,g.nd⟩,h.pre,h.st,h.dn,fun m hm=>by
  obtain⟨h1,h2,s,j,hs,hj,hf,hI⟩:=h.ms m (hl m hm)
  exact⟨h1,h2,s,j,hs,hj,hf,hI.ep,hI.fwd,hI.st⟩⟩
theorem q0t (H:Hs) (s j:Nat) (d:Nd):(H.setNd s j d).sh s = { H.sh s with nd:=upd (H.sh s).nd j d }:=q0d _ _ _
theorem q1w (H:Hs) {s k:Nat} (j:Nat) (d:Nd) (h:k≠s):(H.setNd s j d).sh k=H.sh k:=q07 h _
theorem q59 {s j:Nat} {d:Nd} (hid:d.id=((H.sh s).nd j).id) {t i:Nat} : Lv (H.setNd s j d) t i↔Lv H t i:=by
 unfold Lv
 by_cases e:t=s
 ·subst e
  rw[q0t]
  by_cases e2:i=j
  ·subst e2;simp only[q03,hid];exact Iff.rfl
  ·simp only[q07 e2];exact Iff.rfl
 ·rw[q1w H j d e];exact Iff.rfl
theorem q4b (H:Hs) (s j:Nat) (d:Nd) (t i:Nat):lg (H.setNd s j d) t i=if t=s∧i=j then d.log else lg H t i:=by
 unfold lg
 by_cases e:t=s
 ·subst e
  rw[q0t]
  by_cases e2:i=j
  ·subst e2;simp[q03]
  ·simp[q07 e2,e2]
 ·rw[q1w H j d e];simp[e]
structure NdT (H:Hs) (s j:Nat) (d:Nd) (ms:List Ms):Prop where
 id:d.id=((H.sh s).nd j).id
 epoch:d.epoch=((H.sh s).nd j).epoch
 nodes:d.nodes=((H.sh s).nd j).nodes
 at_:d.at_=((H.sh s).nd j).at_
 grows:lg H s j <+: d.log
 lo:∀ i,i<j→Lv H s i→d.log <+: lg H s i
 st:d.stable≤d.log.length∧∀ i,i≠j→Lv H s i→d.stable≤(lg H s i).length
 ms:∀ m∈ms,m.from_=d.id∧m.epoch=d.epoch∧(m.kind=3→∃ k:Nat,m.n=k∧d.log[k]? = some m.cmd)∧(m.kind=4→m.n≤d.stable)
theorem getElem?_prefix {α:Type} {l l':List α} (h:l <+: l') {k:Nat} {a:α} (hk:l[k]? = some a):l'[k]? = some a:=by
 obtain⟨t,rfl⟩:=h
 rw[List.getElem?_append_left (List.getElem?_eq_some_iff.1 hk).1];exact hk
theorem ChI.node (h:ChI H) {s j:Nat} (hs:s<H.c) (hl:Lv H s j) {d:Nd} {ms:List Ms} (t:NdT H s j d ms):ChI ((H.setNd s j d).send ms):=by
 have hlv:∀ {a i},Lv ((H.setNd s j d).send ms) a i↔Lv H a i:=fun {a i}=>q59 (H:=H) t.id
 have hlg:∀ a i,lg ((H.setNd s j d).send ms) a i=if a=s∧i=j then d.log else lg H a i:=q4b H s j d
 have hsh:∀ a,((H.setNd s j d).send ms).sh a=(H.setNd s j d).sh a:=fun a=>rfl
 have hep:∀ a,(((H.setNd s j d).send ms).sh a).epoch=(H.sh a).epoch:=fun a=>by
  rw[hsh]
  by_cases e:a=s
  ·subst e;rw[q0t]
  ·rw[q1w H j d e]
 have hgr:∀ a i,lg H a i <+: lg ((H.setNd s j d).send ms) a i:=fun a i=>by
  rw[hlg];split
  ·rename_i e;obtain⟨rfl,rfl⟩:=e;exact t.grows
  ·exact List.prefix_refl _
 have hdead:((H.setNd s j d).send ms).net.dead=H.net.dead:=q20 _ _
 refine⟨h.n4,fun a i ha hi=>?_,fun a ha=>?_,fun a ha i k hik hi hk=>?_,fun a ha i k hi hk=>?_,fun a i ha hi=>?_,fun m hm=>?_⟩
 ·rw[hsh]
  by_cases e:a=s
  ·subst e;rw[q0t]
   by_cases e2:i=j
   ·subst e2;simp only[q03,t.id];exact h.ids a i ha hi
   ·simp only[q07 e2];exact h.ids a i ha hi
  ·rw[q1w H j d e];exact h.ids a i ha hi
 ·obtain⟨L,g⟩:=h.cfg a ha
  refine⟨L,g.sorted,g.lt,fun i hi=>g.mem i (hlv.1 hi),fun i hi=>?_⟩
  have g2:=g.nd i (hlv.1 hi)
  rw[hep,hsh]
  by_cases e:a=s
  ·subst e;rw[q0t]
   by_cases e2:i=j
   ·subst e2;simp only[q03,t.epoch,t.nodes,t.at_];exact g2
   ·simp only[q07 e2];exact g2
  ·rw[q1w H j d e];exact g2
 ·have hi2:=hlv.1 hi
  have hk2:=hlv.1 hk
  have hp:=h.pre a ha i k hik hi2 hk2
  rw[hlg,hlg]
  by_cases e:a=s
  ·subst e
   by_cases e1:i=j
   ·subst e1
    by_cases e2:k=i
    ·subst e2;exact List.prefix_refl _
    ·rw[if_neg (by simp[e2]),if_pos ⟨rfl,rfl⟩];exact hp.trans t.grows
   ·rw[if_neg (c:=a=a∧i=j) (by simp[e1])]
    by_cases e2:k=j
    ·subst e2;rw[if_pos ⟨rfl,rfl⟩];exact t.lo i (by omega) hi2
    ·rw[if_neg (by simp[e2])];exact hp
  ·rw[if_neg (by simp[e]),if_neg (by simp[e])];exact hp
 ·have hi2:=hlv.1 hi
  have hk2:=hlv.1 hk
  have hst:=h.st a ha i k hi2 hk2
  have hlen:=(hgr a k).length_le
  by_cases e:a=s∧i=j
  ·obtain⟨rfl,rfl⟩:=e
   rw[hsh,q0t];simp only[q03]
   by_cases e:k=i
   ·subst e;rw[hlg,if_pos ⟨rfl,rfl⟩];exact t.st.1
   ·have:=t.st.2 k e hk2;omega
  ·have e3:(((H.setNd s j d).send ms).sh a).nd i=(H.sh a).nd i:=by
    rw[hsh]
    by_cases e1:a=s
    ·subst e1;rw[q0t];exact q07 (fun e2=>e ⟨rfl,e2⟩) _
    ·rw[q1w H j d e1]
   rw[e3];omega
 ·rw[hdead]
  have:=h.dn a i ha hi
  rw[hsh]
  by_cases e:a=s
  ·subst e;rw[q0t];exact this
  ·rw[q1w H j d e];exact this
 ·rw[hdead]
  have hup:∀ {a i:Nat} {x:Ms},MsI H a i x→MsI ((H.setNd s j d).send ms) a i x:=fun {a i x} g=>
   ⟨by rw[hep];exact g.ep,by rw[hep];exact fun e1 e2=>(g.fwd e1 e2).imp fun k hk=>⟨hk.1,getElem?_prefix (hgr a i) hk.2⟩,
    by rw[hep];exact fun e1 e2 k hk=>Int.le_trans (g.st e1 e2 k (hlv.1 hk)) (by have:=(hgr a k).length_le;omega)⟩
  rcases q7d ms hm with hm|⟨hm,h1,h2⟩
  ·obtain⟨h1,h2,a,i,ha,hi,hf,hI⟩:=h.ms m hm
   exact⟨h1,h2,a,i,ha,hi,hf,hup hI⟩
  ·obtain⟨m1,m2,m3,m4⟩:=t.ms m hm
   obtain⟨L,g⟩:=h.cfg s hs
   have ge:d.epoch=(H.sh s).epoch:=t.epoch.trans (g.nd j hl).1
   refine⟨h1,h2,s,j,hs,hl.1,by rw[m1,t.id];exact h.ids s j hs hl.1,by rw[hep,m2,ge];exact Int.le_refl _,fun _ e2=>?_,fun _ e2 i hi=>?_⟩
   ·rw[hlg,if_pos ⟨rfl,rfl⟩];exact m3 e2
   ·have:=m4 e2
    by_cases e:i=j
    ·subst e;rw[hlg,if_pos ⟨rfl,rfl⟩];have:=t.st.1;omega
    ·have h5:=t.st.2 i e (hlv.1 hi)
     have:=(hgr s i).length_le
     omega
end
theorem q2k {L:List Nat} (hs:L.Pairwise (· < ·)) {p q i j:Nat} (hi:L[p]? = some i) (hj:L[q]? = some j):(p<q→i<j)∧(p≤q→i≤j):=by
 rw[List.getElem?_eq_some_iff] at hi hj
 obtain⟨h1,e1⟩:=hi
 obtain⟨h2,e2⟩:=hj
 have h:=List.pairwise_iff_getElem.1 hs
 refine⟨fun hpq=>by have:=h p q h1 h2 hpq;omega,fun hpq=>?_⟩
 by_cases e:p=q
 ·subst e;omega
 ·have:=h p q h1 h2 (by omega);omega
theorem sorted_inv {L:List Nat} (hs:L.Pairwise (· < ·)) {p q i j:Nat} (hi:L[p]? = some i) (hj:L[q]? = some j) (h:i<j):p<q:=by
 rcases Nat.lt_or_ge p q with h1|h1
 ·exact h1
 ·have:=(q2k hs hj hi).2 h1;omega
section
variable {H:Hs} {s j:Nat}
structure At (H:Hs) (s j:Nat) (L:List Nat) (p:Nat):Prop where
 cfg:Cfg H s L
 ix:L[p]? = some j
 at_:((H.sh s).nd j).at_=(p:Nat)
 nodes:((H.sh s).nd j).nodes=L.map (idn s)
 epoch:((H.sh s).nd j).epoch=(H.sh s).epoch
theorem ChI.at_ (h:ChI H) (hs:s<H.c) (hl:Lv H s j):∃ L p,At H s j L p:=by
 obtain⟨L,g⟩:=h.cfg s hs
 obtain⟨h1,h2,p,h3,h4⟩:=g.nd j hl
 exact⟨L,p,g,h3,h4,h2,h1⟩
theorem At.tail {L:List Nat} {p:Nat} (a:At H s j L p):((H.sh s).nd j).tail=decide (p+1=L.length):=by
 unfold Nd.tail
 rw[a.at_,a.nodes,List.length_map]
 have:=(List.getElem?_eq_some_iff.1 a.ix).1
 rw[Bool.eq_iff_iff]
 simp only[ge_iff_le,Bool.and_eq_true,decide_eq_true_eq,beq_iff_eq]
 omega
theorem At.head {L:List Nat} {p:Nat} (a:At H s j L p):((H.sh s).nd j).head=decide (p=0):=by
 unfold Nd.head
 rw[a.at_,Bool.eq_iff_iff]
 simp only[beq_iff_eq,decide_eq_true_eq]
 omega
theorem At.last {L:List Nat} {p:Nat} (a:At H s j L p) (ht:p+1=L.length) {i:Nat} (hi:Lv H s i):i≤j:=by
 obtain⟨q,hq⟩:=List.mem_iff_getElem?.1 (a.cfg.mem i hi)
 have:=(List.getElem?_eq_some_iff.1 hq).1
 exact(q2k a.cfg.sorted hq a.ix).2 (by omega)
theorem At.first {L:List Nat} (a:At H s j L 0) {i:Nat} (hi:Lv H s i):j≤i:=by
 obtain⟨q,hq⟩:=List.mem_iff_getElem?.1 (a.cfg.mem i hi)
 exact(q2k a.cfg.sorted a.ix hq).2 (by omega)
theorem At.to_ {L:List Nat} {p:Nat} (a:At H s j L p) {b:Int} {q i:Nat} (hb:(p:Int)+b=q) (hi:L[q]? = some i):((H.sh s).nd j).to_ b=idn s i:=by
 unfold Nd.to_
 rw[a.at_,a.nodes,hb]
 simp[hi]
theorem q6t (h:ChI H) (hs:s<H.c) (hl:Lv H s j) {ms:List Ms} (hm:∀ m∈ms,m.from_=((H.sh s).nd j).id∧m.epoch=((H.sh s).nd j).epoch∧(m.kind=3→∃ k:Nat,m.n=k∧((H.sh s).nd j).log[k]? = some m.cmd)∧(m.kind=4→m.n≤((H.sh s).nd j).stable)):NdT H s j ((H.sh s).nd j) ms:=
 ⟨rfl,rfl,rfl,rfl,List.prefix_refl _,fun i hi hli=>h.pre s hs i j (Nat.le_of_lt hi) hli hl,⟨h.st s hs j j hl hl,fun i _ hi=>h.st s hs j i hl hi⟩,hm⟩
theorem ndT_tick (h:ChI H) (hs:s<H.c) (hl:Lv H s j):NdT H s j ((H.sh s).nd j).tick.1 ((H.sh s).nd j).tick.2:=by
 obtain⟨L,p,a⟩:=h.at_ hs hl
 unfold Nd.tick
 rw[if_neg (by rw[a.at_];omega),a.tail]
 by_cases ht:p+1=L.length
 ·rw[decide_eq_true ht,if_pos rfl]
  refine⟨rfl,rfl,rfl,rfl,List.prefix_refl _,fun i hi hli=>h.pre s hs i j (Nat.le_of_lt hi) hli hl,⟨Int.le_refl _,fun i _ hi=>?_⟩,fun m hm=>?_⟩
  ·have:=(h.pre s hs i j (a.last ht hi) hi hl).length_le
   show((lg H s j).length:Int)≤_
   omega
  ·simp only at hm
   split at hm
   ·rw[List.mem_singleton] at hm;subst hm
    exact⟨rfl,rfl,fun e=>(by simp[Nd.msg] at e),fun _=>Int.le_refl _⟩
   ·cases hm
 ·rw[decide_eq_false ht,if_neg (by simp)]
  refine q6t h hs hl (fun m hm=>?_)
  rw[List.mem_singleton] at hm;subst hm
  exact⟨rfl,rfl,fun e=>(by simp[Nd.msg] at e),fun e=>(by simp[Nd.msg] at e)⟩
theorem ndT_grow (h:ChI H) (hs:s<H.c) (hl:Lv H s j) (c:Cm) (hc:∀ i,i<j→Lv H s i→lg H s j++[c] <+: lg H s i):NdT H s j (((H.sh s).nd j).grow c).1 (((H.sh s).nd j).grow c).2:=by
 obtain⟨L,p,a⟩:=h.at_ hs hl
 have hgr:lg H s j <+: lg H s j++[c]:=List.prefix_append _ _
 have hst0:=h.st s hs j j hl hl
 unfold Nd.grow
 rw[a.tail]
 by_cases ht:p+1=L.length
 ·rw[decide_eq_true ht,if_pos rfl]
  unfold Nd.tick
  rw[if_neg (by show ¬((H.sh s).nd j).at_<0;rw[a.at_];omega),show(((H.sh s).nd j).push c).tail=true from(show _=((H.sh s).nd j).tail from rfl).trans (by rw[a.tail,decide_eq_true ht]),if_pos rfl]
  refine⟨rfl,rfl,rfl,rfl,hgr,hc,⟨Int.le_refl _,fun i hij hi=>?_⟩,fun m hm=>?_⟩
  ·have:=(hc i (by have:=a.last ht hi;omega) hi).length_le
   show((lg H s j++[c]).length:Int)≤_
   omega
  ·simp only at hm
   split at hm
   ·rw[List.mem_singleton] at hm;subst hm
    exact⟨rfl,rfl,fun e=>(by simp[Nd.msg] at e),fun _=>Int.le_refl _⟩
   ·cases hm
 ·rw[decide_eq_false ht,if_neg (by simp)]
  refine⟨rfl,rfl,rfl,rfl,hgr,hc,⟨?_,fun i _ hi=>h.st s hs j i hl hi⟩,fun m hm=>?_⟩
  ·show _≤((lg H s j++[c]).length:Int)
   rw[List.length_append]
   show((H.sh s).nd j).stable≤_
   omega
  ·rw[List.mem_singleton] at hm;subst hm
   refine⟨rfl,rfl,fun _=>⟨((H.sh s).nd j).log.length,rfl,?_⟩,fun e=>(by simp[Nd.forward] at e)⟩
   show(((H.sh s).nd j).log++[c])[((H.sh s).nd j).log.length]? = some ((((((H.sh s).nd j).log++[c])[((H.sh s).nd j).log.length]?)).getD cm0)
   simp
theorem ChI.sender (h:ChI H) {m:Ms} (hm:m∈H.net.l) (hs:s<H.c) {i:Nat} (hi:i<H.n) (hf:m.from_=idn s i):Lv H s i∧MsI H s i m:=by
 obtain⟨h1,_,s2,j2,hs2,hj2,hf2,hI⟩:=h.ms m hm
 have hn:=h.n4
 obtain⟨rfl,rfl⟩:=idn_inj (by omega) (by omega) (hf.symm.trans hf2)
 refine⟨⟨hi,?_⟩,hI⟩
 rw[h.ids s i hs hi,← h.dn s i hs hi,← hf];exact h1
theorem q9u (h:ChI H) (hs:s<H.c) (hl:Lv H s j) {m:Ms} (hm:m∈H.net.l):NdT H s j (((H.sh s).nd j).step m).1 (((H.sh s).nd j).step m).2:=by
 have hno:NdT H s j ((H.sh s).nd j) []:=q6t h hs hl (fun m hm=>by cases hm)
 obtain⟨L,p,a⟩:=h.at_ hs hl
 unfold Nd.step
 split
 ·exact hno
 ·rename_i hg
  simp only[not_or] at hg
  obtain⟨_,hep,_⟩:=hg
  have hep:m.epoch=(H.sh s).epoch:=(Classical.not_not.1 hep).trans a.epoch
  have hahead:(decide (((H.sh s).nd j).at_ > 0) && m.from_ == ((H.sh s).nd j).to_ (-1))=true→∃ i,L[p-1]? = some i∧0<p∧Lv H s i∧MsI H s i m:=fun e=>by
   simp only[Bool.and_eq_true,decide_eq_true_eq,beq_iff_eq] at e
   obtain⟨e1,e2⟩:=e
   rw[a.at_] at e1
   have hp:p-1<L.length:=by have:=(List.getElem?_eq_some_iff.1 a.ix).1;omega
   obtain⟨i,hi⟩:∃ i,L[p-1]? = some i:=⟨_,List.getElem?_eq_getElem hp⟩
   have hin:=a.cfg.lt i (List.mem_of_getElem? hi)
   obtain⟨g1,g2⟩:=h.sender hm hs hin (e2.trans (a.to_ (by omega) hi))
   exact⟨i,hi,by omega,g1,g2⟩
  have hnext:(!((H.sh s).nd j).tail && m.from_ == ((H.sh s).nd j).to_ 1)=true→∃ i,Lv H s i∧MsI H s i m:=fun e=>by
   simp only[Bool.and_eq_true,beq_iff_eq,Bool.not_eq_true'] at e
   obtain⟨e1,e2⟩:=e
   rw[a.tail,decide_eq_false_iff_not] at e1
   have hp:p+1<L.length:=by have:=(List.getElem?_eq_some_iff.1 a.ix).1;omega
   obtain⟨i,hi⟩:∃ i,L[p+1]? = some i:=⟨_,List.getElem?_eq_getElem hp⟩
   exact⟨i,h.sender hm hs (a.cfg.lt i (List.mem_of_getElem? hi)) (e2.trans (a.to_ (by omega) hi))⟩
  simp only
  split
  ·refine q6t h hs hl (fun x hx=>?_)
   rw[List.mem_singleton] at hx;subst hx
   exact⟨rfl,rfl,fun e=>(by simp[Nd.msg] at e),fun e=>(by simp[Nd.msg] at e)⟩
  ·split
   ·refine q6t h hs hl (fun x hx=>?_)
    obtain⟨k,hk,rfl⟩:=List.mem_map.1 hx
    rw[List.mem_range'_1] at hk
    refine⟨rfl,rfl,fun _=>⟨k,rfl,?_⟩,fun e=>(by simp[Nd.forward] at e)⟩
    show((H.sh s).nd j).log[k]? = some ((((H.sh s).nd j).log[k]?).getD cm0)
    rw[List.getElem?_eq_getElem (by omega)];rfl
   ·split
    ·rename_i hk
     obtain⟨hk3,hah,hn,_⟩:=hk
     obtain⟨i,hi,hp,hli,hI⟩:=hahead hah
     obtain⟨k,hk,hc⟩:=hI.fwd hep hk3
     have hkl:k=(lg H s j).length:=by have h5:(k:Int)=((lg H s j).length:Nat):=hk.symm.trans hn;omega
     subst hkl
     have hij:i<j:=(q2k a.cfg.sorted hi a.ix).1 (by omega)
     have hpi:=h.pre s hs i j (Nat.le_of_lt hij) hli hl
     have hgi:lg H s j++[m.cmd] <+: lg H s i:=by
      obtain⟨t,ht⟩:=hpi
      rw[← ht,List.getElem?_append_right (Nat.le_refl _),Nat.sub_self] at hc
      cases t with
      | nil=>simp at hc
      | cons x t=>
       simp only[List.getElem?_cons_zero,Option.some.injEq] at hc
       subst hc
       exact⟨t,by rw[← ht];simp⟩
     refine ndT_grow h hs hl m.cmd (fun q hq hlq=>?_)
     obtain⟨r,hr⟩:=List.mem_iff_getElem?.1 (a.cfg.mem q hlq)
     have h1:=sorted_inv a.cfg.sorted hr a.ix hq
     exact hgi.trans (h.pre s hs q i ((q2k a.cfg.sorted hr hi).2 (by omega)) hlq hli)
    ·split
     ·rename_i hk
      obtain⟨hk4,hnx,h0,hle⟩:=hk
      obtain⟨i,hli,hI⟩:=hnext hnx
      have hst:=hI.st hep hk4
      refine⟨rfl,rfl,rfl,rfl,List.prefix_refl _,fun q hq hlq=>h.pre s hs q j (Nat.le_of_lt hq) hlq hl,⟨?_,fun q _ hlq=>?_⟩,fun x hx=>?_⟩
      ·exact Int.max_le.2 ⟨h.st s hs j j hl hl,hle⟩
      ·exact Int.max_le.2 ⟨h.st s hs j q hl hlq,hst q hlq⟩
      ·simp only at hx
       split at hx
       ·rw[List.mem_singleton] at hx;subst hx
        exact⟨rfl,rfl,fun e=>(by simp[Nd.msg] at e),fun _=>Int.le_refl _⟩
       ·cases hx
     ·exact hno
theorem q3f {j:Nat} (h:H.head s=some j):Lv H s j∧((H.sh s).nd j).head=true:=by
 have h1:=List.mem_of_find?_eq_some h
 have h2:=List.find?_some h
 exact⟨q1i.1 h1,h2⟩
theorem ChI.tickNd (h:ChI H) (hs:s<H.c) (hl:Lv H s j):ChI (Hs.tickNd s H j):=h.node hs hl (ndT_tick h hs hl)
theorem ChI.add (h:ChI H) (hs:s<H.c) (hh:H.head s=some j) (c:Cm) (b:Bool):ChI (H.add s j c b).2:=by
 obtain⟨hl,hd⟩:=q3f hh
 unfold Hs.add
 split
 ·exact h
 ·rename_i he
  have e:(((H.sh s).nd j).add c b).1=((H.sh s).nd j).grow c:=by
   unfold Nd.add at *
   rw[hd] at *
   simp only[Bool.not_true,Bool.false_eq_true,if_false] at *
   split
   ·rename_i h5;rw[if_pos h5] at he;simp at he
   ·rfl
  simp only[e]
  obtain⟨L,p,a⟩:=h.at_ hs hl
  rw[a.head] at hd
  have hp:p=0:=by simpa using hd
  subst hp
  exact(h.node hs hl (ndT_grow h hs hl c (fun i hi hli=>absurd (a.first hli) (by omega)))).same (q09.take _ _)
theorem q7p {id:Int} {q:Nat×Nat} (hc:H.c=3) (h:H.node id=some q):q.1<H.c∧Lv H q.1 q.2∧((H.sh q.1).nd q.2).id=id:=by
 have h1:=List.mem_of_find?_eq_some h
 have h2:=List.find?_some h
 rw[List.mem_flatMap] at h1
 obtain⟨s,hs,h1⟩:=h1
 obtain⟨j,hj,rfl⟩:=List.mem_map.1 h1
 refine⟨?_,q1i.1 hj,by simpa using h2⟩
 rw[hc]
 simp at hs
 show s<3
 omega
theorem ChI.takeS (h:ChI H) (k:Nat):ChI { H with net:=Go.Proofs.YtccahlhdifadfaaGreatDoor.takeS H.net k }:=h.netSub (fun _ hm=>List.mem_of_mem_eraseIdx hm)
theorem ChI.arrive (h:ChI H) (hc:H.c=3) {k:Nat} {m:Ms} (hk:H.net.l[k]? = some m):ChI (({ H with net:=Go.Proofs.YtccahlhdifadfaaGreatDoor.takeS H.net k } : Hs).arrive m):=by
 unfold Hs.arrive
 cases hn:Hs.node { H with net:=Go.Proofs.YtccahlhdifadfaaGreatDoor.takeS H.net k } m.to_ with
 | none=>exact h.takeS k
 | some q=>
  obtain⟨s,j⟩:=q
  obtain⟨hs,hl,_⟩:=q7p (H:={ H with net:=Go.Proofs.YtccahlhdifadfaaGreatDoor.takeS H.net k }) hc hn
  have t:=q9u h (s:=s) (j:=j) hs hl (List.mem_of_getElem? hk)
  have t2:NdT { H with net:=Go.Proofs.YtccahlhdifadfaaGreatDoor.takeS H.net k } s j (((H.sh s).nd j).step m).1 (((H.sh s).nd j).step m).2:=⟨t.id,t.epoch,t.nodes,t.at_,t.grows,t.lo,t.st,t.ms⟩
  exact((h.takeS k).node hs hl t2).same (q09.take _ _)
theorem ChI.fail (h:ChI H) (hc:H.c=3) (id:Int):ChI (H.fail id):=by
 unfold Hs.fail
 cases hn:H.node id with
 | none=>exact h
 | some q=>
  obtain⟨s,j⟩:=q
  obtain⟨hs,hl,hid⟩:=q7p hc hn
  have hs:s<H.c:=hs
  have hid:((H.sh s).nd j).id=id:=hid
  have hij:id=idn s j:=hid.symm.trans (h.ids s j hs hl.1)
  show ChI ({ H.setSh s { H.sh s with dead:=fun i=>decide (i=id) || (H.sh s).dead i } with net:=downS H.net id } : Hs)
  generalize hH:({ H.setSh s { H.sh s with dead:=fun i=>decide (i=id) || (H.sh s).dead i } with net:=downS H.net id } : Hs)=H2
  have esh:∀ a,H2.sh a=if a=s then { H.sh s with dead:=fun i=>decide (i=id) || (H.sh s).dead i } else H.sh a:=fun a=>by rw[← hH];rfl
  have en:H2.n=H.n:=by rw[← hH];rfl
  have ec:H2.c=H.c:=by rw[← hH];rfl
  have enet:H2.net=downS H.net id:=by rw[← hH]
  have end_:∀ a,(H2.sh a).nd=(H.sh a).nd∧(H2.sh a).epoch=(H.sh a).epoch:=fun a=>by
   rw[esh];split
   ·rename_i e;subst e;exact⟨rfl,rfl⟩
   ·exact⟨rfl,rfl⟩
  have hlv:∀ {a i},Lv H2 a i→Lv H a i:=fun {a i} hl2=>by
   obtain⟨h1,h2⟩:=hl2
   rw[(end_ a).1,esh] at h2
   rw[en] at h1
   refine⟨h1,?_⟩
   split at h2
   ·rename_i e;subst e
    simp only[Bool.or_eq_false_iff] at h2
    exact h2.2
   ·exact h2
  have hlg:∀ a i,lg H2 a i=lg H a i:=fun a i=>by unfold lg;rw[(end_ a).1]
  clear hH
  refine⟨by rw[en];exact h.n4,fun a i ha hi=>by rw[(end_ a).1];exact h.ids a i (by omega) (by omega),fun a ha=>?_,fun a ha i k hik hi hk=>?_,fun a ha i k hi hk=>?_,fun a i ha hi=>?_,fun m hm=>?_⟩
  ·obtain⟨L,g⟩:=h.cfg a (by omega)
   exact⟨L,g.sorted,by rw[en];exact g.lt,fun i hi=>g.mem i (hlv hi),fun i hi=>by rw[(end_ a).1,(end_ a).2];exact g.nd i (hlv hi)⟩
  ·rw[hlg,hlg];exact h.pre a (by omega) i k hik (hlv hi) (hlv hk)
  ·rw[hlg,(end_ a).1];exact h.st a (by omega) i k (hlv hi) (hlv hk)
  ·have h0:=h.dn a i (by omega) (by omega)
   rw[enet,esh]
   show(decide (idn a i=id) || H.net.dead (idn a i))=_
   split
   ·rename_i e;subst e;rw[h0]
   ·rename_i e
    rw[h0]
    have:idn a i≠id:=fun e2=>e (idn_inj (by have:=h.n4;omega) (by have:=h.n4;have:=hl.1;omega) (e2.trans hij)).1
    simp[this]
  ·rw[enet] at hm ⊢
   have hm2:=List.mem_filter.1 hm
   obtain⟨h1,h2,a,i,ha,hi,hf,hI⟩:=h.ms m hm2.1
   have hg:=hm2.2
   unfold gone at hg
   simp only[Bool.not_eq_true',Bool.or_eq_false_iff,decide_eq_false_iff_not] at hg
   exact⟨by show(decide (m.from_=id) || H.net.dead m.from_)=false;simp[hg.1,h1],by show(decide (m.to_=id) || H.net.dead m.to_)=false;simp[hg.2,h2],a,i,by omega,by omega,hf,
    ⟨by rw[(end_ a).2];exact hI.ep,by rw[(end_ a).2,hlg];exact hI.fwd,by rw[(end_ a).2];exact fun e1 e2 x hx=>by rw[hlg];exact hI.st e1 e2 x (hlv hx)⟩⟩
end
theorem idxI_map {s:Nat} {L:List Nat} {j:Nat} (hj:j∈L) (hL:∀ i∈L,i<10):∃ p,L[p]? = some j∧idxI (idn s j) (L.map (idn s))=(p:Nat):=by
 unfold idxI
 rcases hh:(L.map (idn s)).findIdx? (fun y=>idn s j == y) with _|i
 ·rw[List.findIdx?_eq_none_iff] at hh
  have:=hh (idn s j) (List.mem_map.2 ⟨j,hj,rfl⟩)
  simp at this
 ·rw[List.findIdx?_eq_some_iff_getElem] at hh
  obtain⟨hl,he,_⟩:=hh
  simp only[List.getElem_map,beq_iff_eq] at he
  rw[List.length_map] at hl
  refine⟨i,?_,rfl⟩
  rw[List.getElem?_eq_getElem hl,(idn_inj (hL j hj) (hL _ (List.getElem_mem hl)) he).2]
structure ChF (H:Hs) (s:Nat):Prop where
 hs:s<H.c
 n4:H.n≤4
 ids:∀ s j,s<H.c→j<H.n→((H.sh s).nd j).id=idn s j
 cfg:∀ a,a<H.c→a≠s→∃ L,Cfg H a L
 pre:∀ s,s<H.c→∀ i j,i≤j→Lv H s i→Lv H s j→lg H s j <+: lg H s i
 st:∀ s,s<H.c→∀ i j,Lv H s i→Lv H s j→((H.sh s).nd i).stable≤(lg H s j).length
 dn:∀ s j,s<H.c→j<H.n→H.net.dead (idn s j)=(H.sh s).dead (idn s j)
 ms:∀ m∈H.net.l,H.net.dead m.from_=false∧H.net.dead m.to_=false∧∃ s j,s<H.c∧j<H.n∧m.from_=idn s j∧MsI H s j m
 at_:∀ j,Lv H s j→0≤((H.sh s).nd j).at_∨(lg H s j=[]∧((H.sh s).nd j).stable=0)
 ep:0≤(H.sh s).epoch∧(H.sh s).epoch≤1000000
theorem ChI.toF {H:Hs} (h:ChI H) {s:Nat} (hs:s<H.c) (he:0≤(H.sh s).epoch∧(H.sh s).epoch≤1000000):ChF H s:=
 ⟨hs,h.n4,h.ids,fun a ha _=>h.cfg a ha,h.pre,h.st,h.dn,h.ms,fun j hj=>by obtain⟨L,p,a⟩:=h.at_ hs hj;left;rw[a.at_];omega,he⟩
structure FxI (H0 H:Hs) (s:Nat) (e:Int) (L:List Nat) (D:Nat→Prop):Prop where
 n:H.n=H0.n
 c:H.c=H0.c
 sh:∀ a,a≠s→H.sh a=H0.sh a
 dead:(H.sh s).dead=(H0.sh s).dead
 epoch:(H.sh s).epoch=e
 nd0:∀ j,¬D j→(H.sh s).nd j=(H0.sh s).nd j
 nd1:∀ j,D j→((H.sh s).nd j).id=((H0.sh s).nd j).id∧((H.sh s).nd j).epoch=e∧((H.sh s).nd j).nodes=L.map (idn s)∧(∃ p,L[p]? = some j∧((H.sh s).nd j).at_=(p:Nat))∧lg H s j=lg H0 s j∧
  ∀ i,Lv H0 s i→((H.sh s).nd j).stable≤(lg H0 s i).length
 nl:∀ m∈H.net.l,H0.net.dead m.from_=false∧H0.net.dead m.to_=false∧(m∈H0.net.l∨∃ j,j<H0.n∧m.from_=idn s j∧m.epoch=e∧m.kind≠3∧(m.kind=4→∀ i,Lv H0 s i→m.n≤(lg H0 s i).length))
 ndd:H.net.dead=H0.net.dead
section
variable {H0 H:Hs} {s:Nat} {e:Int} {L:List Nat} {D:Nat→Prop}
theorem FxI.join (h:FxI H0 H s e L D) (hf:ChF H0 s) (hL:∀ i,i∈L↔Lv H0 s i) (hso:L.Pairwise (· < ·)) {j:Nat} (hj:Lv H0 s j) (hd:¬D j) :
  FxI H0 (Hs.joinNd s (L.map (idn s)) H j) s e L (fun i=>i=j∨D i):=by
 have hn4:=hf.n4
 obtain⟨p,hp,hix⟩:=idxI_map (s:=s) ((hL j).2 hj) (fun i hi=>by have:=((hL i).1 hi).1;omega)
 have hid:=hf.ids s j hf.hs hj.1
 have h0:=h.nd0 j hd
 have hst:=fun i hi=>hf.st s hf.hs j i hj hi
 have hplt:=(List.getElem?_eq_some_iff.1 hp).1
 have hjn:(((H.sh s).nd j).join (H.sh s).epoch (L.map (idn s)))=⟨idn s j,e,L.map (idn s),(p:Nat),lg H0 s j,((H0.sh s).nd j).stable⟩:=by
  rw[h0,h.epoch]
  unfold Nd.join
  rcases hf.at_ j hj with ha|⟨ha,hb⟩
  ·rw[if_neg (by omega),hid,hix];rfl
  ·split
   ·rw[hid,hix,ha,hb]
   ·rw[hid,hix];rfl
 have hlast:p+1=L.length→∀ i,Lv H0 s i→(lg H0 s j).length≤(lg H0 s i).length:=fun hpl i hi=>by
  obtain⟨q,hq⟩:=List.mem_iff_getElem?.1 ((hL i).2 hi)
  have:=(List.getElem?_eq_some_iff.1 hq).1
  exact(hf.pre s hf.hs i j ((q2k hso hq hp).2 (by omega)) hi hj).length_le
 have key:∃ d ms,Hs.joinNd s (L.map (idn s)) H j=(H.setNd s j d).send ms∧d.id=idn s j∧d.epoch=e∧d.nodes=L.map (idn s)∧d.at_=(p:Nat)∧d.log=lg H0 s j∧(∀ i,Lv H0 s i→d.stable≤(lg H0 s i).length)∧
   ∀ m∈ms,m.from_=idn s j∧m.epoch=e∧m.kind≠3∧(m.kind=4→∀ i,Lv H0 s i→m.n≤(lg H0 s i).length):=by
  unfold Hs.joinNd
  rw[hjn]
  unfold Nd.tick
  rw[if_neg (show ¬((p:Nat):Int)<0 by omega)]
  have ht:(Nd.mk (idn s j) e (L.map (idn s)) (p:Nat) (lg H0 s j) ((H0.sh s).nd j).stable).tail=decide (p+1=L.length):=by
   unfold Nd.tail
   rw[Bool.eq_iff_iff]
   simp only[List.length_map,ge_iff_le,Bool.and_eq_true,decide_eq_true_eq,beq_iff_eq]
   omega
  rw[ht]
  by_cases hpl:p+1=L.length
  ·rw[decide_eq_true hpl,if_pos rfl]
   refine⟨_,_,rfl,rfl,rfl,rfl,rfl,rfl,fun i hi=>?_,fun m hm=>?_⟩
   ·have:=hlast hpl i hi
    show((lg H0 s j).length:Int)≤_
    omega
   ·simp only at hm
    split at hm
    ·rw[List.mem_singleton] at hm;subst hm
     refine⟨rfl,rfl,by simp[Nd.msg],fun _ i hi=>?_⟩
     have:=hlast hpl i hi
     show((lg H0 s j).length:Int)≤_
     omega
    ·cases hm
  ·rw[decide_eq_false hpl,if_neg (by simp)]
   refine⟨_,_,rfl,rfl,rfl,rfl,rfl,rfl,hst,fun m hm=>?_⟩
   rw[List.mem_singleton] at hm;subst hm
   exact⟨rfl,rfl,by simp[Nd.msg],fun e2=>by simp[Nd.msg] at e2⟩
 obtain⟨d,ms,hH,d1,d2,d3,d4,d5,d6,d7⟩:=key
 rw[hH]
 refine⟨h.n,h.c,fun a ha=>(q1w H j d ha).trans (h.sh a ha),?_,?_,fun i hi=>?_,fun i hi=>?_,fun m hm=>?_,?_⟩
 ·show((H.setNd s j d).sh s).dead=_;rw[q0t];exact h.dead
 ·show((H.setNd s j d).sh s).epoch=_;rw[q0t];exact h.epoch
 ·show((H.setNd s j d).sh s).nd i=_
  rw[q0t]
  exact(q07 (fun e=>hi (.inl e)) _).trans (h.nd0 i (fun h=>hi (.inr h)))
 ·show(((H.setNd s j d).sh s).nd i).id=_∧(((H.setNd s j d).sh s).nd i).epoch=_∧(((H.setNd s j d).sh s).nd i).nodes=_∧(∃ p,L[p]? = some i∧(((H.setNd s j d).sh s).nd i).at_=(p:Nat))∧lg (H.setNd s j d) s i=_∧∀ k,Lv H0 s k→(((H.setNd s j d).sh s).nd i).stable≤_
  rw[q4b,q0t]
  by_cases e1:i=j
  ·subst e1
   simp only[q03]
   exact⟨d1.trans hid.symm,d2,d3,⟨p,hp,d4⟩,by simpa using d5,d6⟩
  ·simp only[q07 e1]
   rw[if_neg (by simp[e1])]
   exact h.nd1 i (hi.resolve_left e1)
 ·rcases q7d ms hm with hm|⟨hm,h1,h2⟩
  ·exact h.nl m hm
  ·have h1:H.net.dead m.from_=false:=h1
   have h2:H.net.dead m.to_=false:=h2
   rw[h.ndd] at h1 h2
   obtain⟨a1,a2,a3,a4⟩:=d7 m hm
   exact⟨h1,h2,.inr ⟨j,hj.1,a1,a2,a3,a4⟩⟩
 ·exact(q20 _ _).trans h.ndd
theorem FxI.congr {D':Nat→Prop} (h:FxI H0 H s e L D) (hd:∀ j,D j↔D' j):FxI H0 H s e L D':=by
 have:D=D':=funext fun j=>propext (hd j)
 rw[← this];exact h
theorem FxI.joins (hf:ChF H0 s) (hL:∀ i,i∈L↔Lv H0 s i) (hso:L.Pairwise (· < ·)):∀ (l:List Nat) {H:Hs} {D:Nat→Prop},FxI H0 H s e L D→(∀ j∈l,Lv H0 s j∧¬D j)→l.Nodup→FxI H0 (l.foldl (Hs.joinNd s (L.map (idn s))) H) s e L (fun i=>i∈l∨D i)
 | [],_,_,h,_,_=>h.congr (fun j=>by simp)
 | j::l,H,D,h,hl,hn=>by
  rw[List.nodup_cons] at hn
  have h1:=h.join hf hL hso (hl j List.mem_cons_self).1 (hl j List.mem_cons_self).2
  have h2:=FxI.joins hf hL hso l h1 (fun i hi=>⟨(hl i (List.mem_cons_of_mem _ hi)).1,fun hd=>hd.elim (fun e=>hn.1 (e▸hi)) (hl i (List.mem_cons_of_mem _ hi)).2⟩) hn.2
  refine h2.congr (fun i=>?_)
  rw[List.mem_cons]
  constructor
  ·rintro (h|h|h)
   ·exact .inl (.inr h)
   ·exact .inl (.inl h)
   ·exact .inr h
  ·rintro ((h|h)|h)
   ·exact .inr (.inl h)
   ·exact .inl h
   ·exact .inr (.inr h)
theorem q5b (x:Shd) (n:Nat):(x.liveIx n).Pairwise (· < ·):=List.Pairwise.filter _ List.pairwise_lt_range
theorem FxI.done (h:FxI H0 H s e L D) (hf:ChF H0 s) (hL:∀ i,i∈L↔Lv H0 s i) (hso:L.Pairwise (· < ·)) (hD:∀ i,D i↔Lv H0 s i) (he:e=(H0.sh s).epoch+1):ChI H:=by
 have hid:∀ a i,a<H.c→i<H.n→((H.sh a).nd i).id=idn a i:=fun a i ha hi=>by
  rw[h.c] at ha
  rw[h.n] at hi
  by_cases e1:a=s
  ·subst e1
   by_cases e2:D i
   ·rw[(h.nd1 i e2).1];exact hf.ids a i ha hi
   ·rw[h.nd0 i e2];exact hf.ids a i ha hi
  ·rw[h.sh a e1];exact hf.ids a i ha hi
 have hlv:∀ {a i},a<H.c→(Lv H a i↔Lv H0 a i):=fun {a i} ha=>by
  have ha0:a<H0.c:=h.c▸ha
  have hdd:(H.sh a).dead=(H0.sh a).dead:=by
   by_cases e1:a=s
   ·subst e1;exact h.dead
   ·rw[h.sh a e1]
  unfold Lv
  rw[hdd,h.n]
  constructor
  ·rintro ⟨h1,h2⟩;rw[hid a i ha (by rw[h.n];exact h1)] at h2;rw[hf.ids a i ha0 h1];exact⟨h1,h2⟩
  ·rintro ⟨h1,h2⟩;rw[hf.ids a i ha0 h1] at h2;rw[hid a i ha (by rw[h.n];exact h1)];exact⟨h1,h2⟩
 have hlg:∀ a i,lg H a i=lg H0 a i:=fun a i=>by
  by_cases e1:a=s
  ·subst e1
   by_cases e2:D i
   ·exact(h.nd1 i e2).2.2.2.2.1
   ·unfold lg;rw[h.nd0 i e2]
  ·unfold lg;rw[h.sh a e1]
 have hsc:s<H.c:=by rw[h.c];exact hf.hs
 refine⟨by rw[h.n];exact hf.n4,hid,fun a ha=>?_,fun a ha i k hik hi hk=>?_,fun a ha i k hi hk=>?_,fun a i ha hi=>?_,fun m hm=>?_⟩
 ·by_cases e1:a=s
  ·subst e1
   refine⟨L,hso,fun i hi=>by rw[h.n];exact((hL i).1 hi).1,fun i hi=>(hL i).2 ((hlv ha).1 hi),fun i hi=>?_⟩
   obtain⟨_,a2,a3,a4,_⟩:=h.nd1 i ((hD i).2 ((hlv ha).1 hi))
   rw[h.epoch]
   exact⟨a2,a3,a4⟩
  ·obtain⟨M,g⟩:=hf.cfg a (h.c▸ha) e1
   refine⟨M,g.sorted,by rw[h.n];exact g.lt,fun i hi=>g.mem i ((hlv ha).1 hi),fun i hi=>?_⟩
   rw[h.sh a e1];exact g.nd i ((hlv ha).1 hi)
 ·rw[hlg,hlg];exact hf.pre a (h.c▸ha) i k hik ((hlv ha).1 hi) ((hlv ha).1 hk)
 ·rw[hlg]
  by_cases e1:a=s
  ·subst e1
   exact(h.nd1 i ((hD i).2 ((hlv ha).1 hi))).2.2.2.2.2 k ((hlv ha).1 hk)
  ·rw[h.sh a e1];exact hf.st a (h.c▸ha) i k ((hlv ha).1 hi) ((hlv ha).1 hk)
 ·rw[h.ndd]
  have:=hf.dn a i (h.c▸ha) (h.n▸hi)
  by_cases e1:a=s
  ·subst e1;rw[h.dead];exact this
  ·rw[h.sh a e1];exact this
 ·rw[h.ndd]
  obtain⟨h1,h2,h3⟩:=h.nl m hm
  refine⟨h1,h2,?_⟩
  rcases h3 with h3|⟨j,hj,hf2,hep,hk3,hk4⟩
  ·obtain⟨_,_,a,i,ha,hi,hfr,hI⟩:=hf.ms m h3
   refine⟨a,i,by rw[h.c];exact ha,by rw[h.n];exact hi,hfr,?_⟩
   by_cases e1:a=s
   ·subst e1
    have:=hI.ep
    exact⟨by rw[h.epoch];omega,by rw[h.epoch];exact fun e2=>by omega,by rw[h.epoch];exact fun e2=>by omega⟩
   ·exact⟨by rw[h.sh a e1];exact hI.ep,by rw[h.sh a e1,hlg];exact hI.fwd,by rw[h.sh a e1];exact fun e2 e3 k hk=>by rw[hlg];exact hI.st e2 e3 k ((hlv (by rw[h.c];exact ha)).1 hk)⟩
  ·exact⟨s,j,hsc,by rw[h.n];exact hj,hf2,by rw[h.epoch];omega,fun _ e2=>absurd e2 hk3,fun _ e2 i hi=>by rw[hlg];exact hk4 e2 i ((hlv hsc).1 hi)⟩
end
structure FixF (H H':Hs) (s:Nat):Prop where
 chi:ChI H'
 n:H'.n=H.n
 c:H'.c=H.c
 m:H'.m=H.m
 lv:∀ a i,a<H.c→(Lv H' a i↔Lv H a i)
 lg:∀ a i,lg H' a i=lg H a i
 sh:∀ a,a≠s→H'.sh a=H.sh a
 dead:∀ a,(H'.sh a).dead=(H.sh a).dead
 epoch:((H'.sh s).epoch=(H.sh s).epoch∧(H.sh s).liveIx H.n=[])∨(H'.sh s).epoch=(H.sh s).epoch+1
 time:H'.time=H.time
 tx:∀ i,(H'.tx i).state=(H.tx i).state∧(H'.tx i).writes=(H.tx i).writes∧(H'.tx i).shards=(H.tx i).shards∧(H'.tx i).places=(H.tx i).places∧(H'.tx i).time=(H.tx i).time
theorem q7x (s:Nat) (ids:List Int):∀ (l:List Nat) (H:Hs),(l.foldl (Hs.joinNd s ids) H).n=H.n∧(l.foldl (Hs.joinNd s ids) H).c=H.c∧(l.foldl (Hs.joinNd s ids) H).m=H.m∧(l.foldl (Hs.joinNd s ids) H).time=H.time∧(l.foldl (Hs.joinNd s ids) H).tx=H.tx
 | [],_=>⟨rfl,rfl,rfl,rfl,rfl⟩
 | j::l,H=>by
  obtain⟨h1,h2,h3,h4,h5⟩:=q7x s ids l (Hs.joinNd s ids H j)
  exact⟨h1,h2,h3,h4,h5⟩
theorem Shd.ids_eq {H:Hs} {s:Nat} (h:∀ j,Lv H s j→((H.sh s).nd j).id=idn s j):(H.sh s).ids H.n=((H.sh s).liveIx H.n).map (idn s):=by
 unfold Shd.ids
 exact List.map_congr_left (fun j hj=>h j (q1i.1 hj))
theorem fix_some {H:Hs} {s:Nat} (hl:(H.sh s).liveIx H.n≠[]):H.fix s=H.fixIn s:=by unfold Hs.fix;rw[if_neg hl]
theorem fix_none {H:Hs} {s:Nat} (hl:(H.sh s).liveIx H.n=[]):H.fix s=H:=by unfold Hs.fix;rw[if_pos hl]
theorem ChF.fix {H:Hs} {s:Nat} (h:ChF H s):FixF H (H.fix s) s:=by
 by_cases hl:(H.sh s).liveIx H.n=[]
 ·rw[fix_none hl]
  have hno:∀ i,¬Lv H s i:=fun i hi=>by have:=q1i.2 hi;rw[hl] at this;cases this
  refine⟨⟨h.n4,h.ids,fun a ha=>?_,h.pre,h.st,h.dn,h.ms⟩,rfl,rfl,rfl,fun _ _ _=>Iff.rfl,fun _ _=>rfl,fun _ _=>rfl,fun _=>rfl,.inl ⟨rfl,hl⟩,rfl,fun _=>⟨rfl,rfl,rfl,rfl,rfl⟩⟩
  by_cases e:a=s
  ·subst e
   exact⟨[],List.Pairwise.nil,fun _ h=>(nomatch h),fun i hi=>absurd hi (hno i),fun i hi=>absurd hi (hno i)⟩
  ·exact h.cfg a ha e
 ·rw[fix_some hl]
  have hw:wrap64 ((H.sh s).epoch+1)=(H.sh s).epoch+1:=IntWalk.wrap64_in _ ⟨by have:=h.ep;omega,by have:=h.ep;omega⟩
  have hLm:∀ i,i∈(H.sh s).liveIx H.n↔Lv H s i:=fun i=>q1i
  have hso:=q5b (H.sh s) H.n
  have hids:=Shd.ids_eq (H:=H) (s:=s) (fun j hj=>h.ids s j h.hs hj.1)
  unfold Hs.fixIn
  simp only[hids,hw]
  generalize hL:(H.sh s).liveIx H.n=L at *
  generalize hH1:H.setSh s { H.sh s with epoch:=(H.sh s).epoch+1,size:=L.length } = H1
  have hs1:H1.sh s = { H.sh s with epoch:=(H.sh s).epoch+1,size:=L.length }:=by rw[← hH1];exact q0d _ _ _
  have hF0:FxI H H1 s ((H.sh s).epoch+1) L (fun _=>False):=by
   refine⟨by rw[← hH1];rfl,by rw[← hH1];rfl,fun a ha=>by rw[← hH1];exact q07 ha _,by rw[hs1],by rw[hs1],fun j _=>by rw[hs1],fun j hj=>hj.elim,fun m hm=>?_,by rw[← hH1];rfl⟩
   rw[← hH1] at hm
   obtain⟨h1,h2,_⟩:=h.ms m hm
   exact⟨h1,h2,.inl hm⟩
  have hF:=FxI.joins h hLm hso L hF0 (fun j hj=>⟨(hLm j).1 hj,fun h=>h⟩) (hso.imp (fun {a b} h=>by omega))
  have hsame:=q7x s (L.map (idn s)) L H1
  have htx1:H1.tx=H.tx:=by rw[← hH1];rfl
  have ht1:H1.time=H.time:=by rw[← hH1];rfl
  have hm1:H1.m=H.m:=by rw[← hH1];rfl
  generalize List.foldl (Hs.joinNd s (L.map (idn s))) H1 L=H2 at *
  have hc2:=hF.done h hLm hso (fun i=>by rw[hLm];simp) rfl
  generalize hH3:H2.setSh s { H2.sh s with tab:=fun _=>none,sto:=fun _=>[],done:=0 } = H3
  have hs23:q09 H2 H3:=by rw[← hH3];exact q09.setSh rfl rfl rfl
  have hs24:q09 H2 (H3.take s):=hs23.trans (q09.take H3 s)
  have htk:=q0b.take H3 s
  have hlg2:∀ a i,lg H2 a i=lg H a i:=fun a i=>by
   by_cases e1:a=s
   ·subst e1
    by_cases e2:i∈L∨False
    ·exact(hF.nd1 i e2).2.2.2.2.1
    ·unfold lg;rw[hF.nd0 i e2]
   ·unfold lg;rw[hF.sh a e1]
  have hdd:∀ a,(H2.sh a).dead=(H.sh a).dead:=fun a=>by
   by_cases e1:a=s
   ·subst e1;exact hF.dead
   ·rw[hF.sh a e1]
  refine⟨hc2.same hs24,?_,?_,?_,fun a i ha=>?_,fun a i=>(hs24.lg a i).trans (hlg2 a i),fun a ha=>?_,fun a=>(hs24.dead a).trans (hdd a),.inr ?_,?_,fun i=>?_⟩
  ·exact hs24.n.trans hF.n
  ·exact hs24.c.trans hF.c
  ·rw[htk.m,← hH3];exact hsame.2.2.1.trans hm1
  ·rw[hs24.lv]
   unfold Lv
   rw[hF.n,hdd]
   constructor
   ·rintro ⟨h1,h2⟩;rw[hc2.ids a i (by rw[hF.c];exact ha) (by rw[hF.n];exact h1)] at h2;rw[h.ids a i ha h1];exact⟨h1,h2⟩
   ·rintro ⟨h1,h2⟩;rw[h.ids a i ha h1] at h2;rw[hc2.ids a i (by rw[hF.c];exact ha) (by rw[hF.n];exact h1)];exact⟨h1,h2⟩
  ·rw[htk.sh a ha,← hH3];exact(q07 ha _).trans (hF.sh a ha)
  ·exact(hs24.epoch s).trans hF.epoch
  ·rw[htk.time,← hH3];exact hsame.2.2.2.1.trans ht1
  ·have:=htk.tx i
   have e:H3.tx i=H.tx i:=by rw[← hH3];show H2.tx i=_;rw[hsame.2.2.2.2,htx1]
   rw[e] at this;exact this
theorem q3j (bs:Nat→Nat→Bool):∀ (k i:Nat) (r:Hs×Bool),Sm r.1 (Hs.round bs k i r).1
 | 0,_,_r=>Sm.refl _
 | k+1,i,r=>(q2t r.1 i (bs i)).1.sm.trans (q3j bs k (i+1) ((r.1.settle1 i (bs i)).1,(r.1.settle1 i (bs i)).2 || r.2))
theorem Wf.round {bs:Nat→Nat→Bool} : ∀ (k i:Nat) {r:Hs×Bool},Wf r.1→r.1.c=3→1≤i→i+k≤r.1.m+1→Wf (Hs.round bs k i r).1
 | 0,_,_,h,_,_,_=>h
 | k+1,i,r,h,hc,h1,hi=>by
  have f:=(q2t r.1 i (bs i)).1.sm
  exact Wf.round k (i+1) (h.settle1 hc h1 (by omega) _) (f.c.trans hc) (by omega) (by show i+1+k≤(r.1.settle1 i (bs i)).1.m+1;rw[f.m];omega)
theorem Sm.settle {H H':Hs} (h:q10 H H'):Sm H H':=by
 induction h with
 | @stop H bs _=>exact q3j bs H.m 1 (H,false)
 | @more H H' bs _ _ ih=>exact(q3j bs H.m 1 (H,false)).trans ih
theorem Wf.settle {H H':Hs} (h:q10 H H'):Wf H→H.c=3→Wf H':=by
 induction h with
 | @stop H bs _=>exact fun hw hc=>Wf.round (r:=(H,false)) H.m 1 hw hc (Nat.le_refl _) (by show 1+H.m≤H.m+1;omega)
 | @more H H' bs _ _ ih=>exact fun hw hc=>ih (Wf.round (r:=(H,false)) H.m 1 hw hc (Nat.le_refl _) (by show 1+H.m≤H.m+1;omega)) ((q3j bs H.m 1 (H,false)).c.trans hc)
def cntW (P:Ptr) (m:Nat) (w:World):Nat:=((List.range' 1 m).filter fun a=>decide (intOf ((w.cell? ⟨P.gt a,1,none⟩).getD undef)=2)).length
def againM (P:Ptr) (m:Nat) (v:Value) (w:World):Nat:=match v with
 | .bool true=>1+cntW P m w
 | _=>0
section
variable {w w':World} {own own':Own} {P:Ptr} {H:Hs}
theorem HI.cnt (h:HI w own P H):cntW P H.m w=q3g H:=by
 unfold cntW q3g
 congr 1
 apply List.filter_congr
 intro a ha
 rw[List.mem_range'_1] at ha
 obtain⟨v,hv⟩:=h.tx a (by omega) (by omega)
 rw[hv.cells.2.1]
 rfl
def OuRel (P:Ptr) (own:Own) (H:Hs) (w:World) (v2:Value) (wr:World):Prop:=
 ∃ (a:Bool) (H2:Hs),v2=.bool a∧GsP P own H2 w wr∧Wf H2∧H2.c=3∧H2.m=H.m∧(a=true→∀ H',q10 H2 H'→q10 H H')∧(a=false→q10 H H2)
def InRel2 (P:Ptr) (own:Own) (H2:Hs) (w:World) (v2 v11:Value) (wr:World):Prop:=
 ∃ (q:Nat) (a:Bool) (bs:Nat→Nat→Bool) (H3:Hs),v11=.int .i64 q∧v2=.bool a∧q≤H2.m∧GsP P own H3 w wr∧Wf H3∧H3.c=3∧H3.m=H2.m∧Hs.round bs q 1 (H2,false)=(H3,a)∧q3g H3+(if a then 1 else 0)≤q3g H2
theorem in_next {H2 H3:Hs} {q:Nat} {a:Bool} {bs:Nat→Nat→Bool} (h:Hs.round bs q 1 (H2,false)=(H3,a)) (b:Nat→Bool):Hs.round (upd bs (q+1) b) (q+1) 1 (H2,false)=((H3.settle1 (q+1) b).1,(H3.settle1 (q+1) b).2 || a):=by
 rw[q90,q7f (bs:=upd bs (q+1) b) (bs':=bs) q 1 (H2,false) (fun x h1 h2=>q07 (by omega) _),h]
 rw[show 1+q=q+1 by omega,q03]
theorem in_cnt {H2 H3:Hs} {q:Nat} {a:Bool} (hc:q3g H3+(if a then 1 else 0)≤q3g H2) (hq:q+1≤H3.m) (b:Nat→Bool):q3g (H3.settle1 (q+1) b).1+(if (H3.settle1 (q+1) b).2 || a then 1 else 0)≤q3g H2:=by
 obtain⟨h1,h2⟩:=settle1_cnt H3 (i:=q+1) (by omega) hq b
 cases e:(H3.settle1 (q+1) b).2 with
 | false=>rw[h1 e,Bool.false_or];exact hc
 | true=>
  have:=h2 e
  rw[Bool.true_or,if_pos rfl]
  omega
def SetP (P:Ptr) (own:Own) (H:Hs) (w:World) (e:Ending) (w':World):Prop:=e=.returned (.tuple #[])∧∃ H',q10 H H'∧GsP P own H' w w'
theorem q3c (h:HI w own P H) (wf:Wf H) (hc:H.c=3):Calls Tryz.prog 38 #[pw P.g] w (SetP P own H w):=by
 have HH:=LH h
 have HWF:=LH wf
 clear h wf
 unfold pw
 go_enter Tryz.func38,Tryz.ntmps38
 go_wp2_with fail
 go_loopw [2] (OuRel P own H w) (fun v wr=>againM P H.m v wr)
 case atStart=>exact⟨true,H,rfl,⟨own,HH.out,HZ.refl _ _ _⟩,HWF.out,hc,rfl,fun _ H' h=>h,fun h=>(by cases h)⟩
 case round=>
  obtain⟨a,H2,rfl,⟨own2,hI2,hZ2⟩,hW2,hc2,hm2,hyes,hno⟩:=hrel
  cases a with
  | false=>
   have HF:=LH (show SetP P own H w (.returned (.tuple #[])) wr from⟨rfl,H2,hno rfl,own2,hI2,hZ2⟩)
   clear hI2 hZ2 hyes hno hW2
   go_wp2_with fail
   go_end0
   exact HF.out
  | true=>
   have HYES:=LH (hyes rfl)
   have hcnt:=hI2.cnt
   have HCNT:=LH hcnt
   have HI2:=LH hI2
   have HZ2:=LH hZ2
   have HW2:=LH hW2
   obtain⟨vh,hvh⟩:=hI2.hs
   obtain⟨_,_,c4,_,gl⟩:=hvh.cells
   obtain⟨A,c,hV,_,_⟩:=q01 hvh.txr
   rw[hV] at c4
   have HRZ:=LH (fun W own' (hz:HStep wr own2 W own')=>(hV▸hz.fr.own hvh.txr (fun b hb hs=>(hs.tag (hvh.txrt b hb)).1 rfl):W.ownsRow 0 74 1 (.slice A H2.m c) H2.m ((List.range' 1 H2.m).map fun i=>pw (P.gt i))))
   have HM60:=LH hW2.m60
   clear hyes hno hcnt hI2 hZ2 hW2 hvh hV
   go_wp2_with fail
   clear c4
   rename World=>W0
   go_loopw [2,11] (InRel2 P own2 H2 W0) (fun _ u _=>H2.m-(intOf u).toNat)
   case atStart=>exact⟨0,false,fun _ _=>false,H2,rfl,rfl,Nat.zero_le _,⟨own2,HI2.out,HZ.refl _ _ _⟩,HW2.out,hc2,rfl,rfl,by simp⟩
   case round=>
    obtain⟨q,a,bs,H3,rfl,rfl,hq,⟨own3,hI3,hZ3⟩,hW3,hc3,hm3,hrd,hct⟩:=hrel
    by_cases hlt:(q:Int)<H2.m
    ·obtain⟨r,c',hV,hr,u,hu,hcu⟩:=q2g (HRZ.out _ _ hZ3) (k:=q) (by omega)
     injection hV with hA _ hcp
     subst hA hcp
     rw[List.getElem?_map,List.getElem?_range' (by omega)] at hu
     simp only[Option.map_some,Option.some.injEq] at hu
     rw[show 1+1*q=q+1 by omega] at hu
     subst hu
     unfold pw at hcu
     obtain⟨vt,hvt⟩:=hI3.tx (q+1) (by omega) (by omega)
     obtain⟨_,k1,_,_,_,_,_,kl⟩:=hvt.cells
     have HI3:=LH hI3
     have HZ3:=LH hZ3
     have HW3:=LH hW3
     have HNX:=LH (fun b=>in_next hrd b)
     have HCT:=LH (fun b=>in_cnt hct (show q+1≤H3.m by omega) b)
     have HWN:=LH (fun b=>hW3.settle1 hc3 (show 1≤q+1 by omega) (show q+1≤H3.m by omega) b)
     have HSF:=LH (fun b=>(q2t H3 (q+1) b).1.sm)
     have hrel:∀ (b:Nat→Bool) (W:World) (own4:Own) (H4:Hs) (y:Bool),H3.settle1 (q+1) b=(H4,y)→HI W own4 P H4→HStep W0 own2 W own4→InRel2 P own2 H2 W0 (.bool (y || a)) (.int .i64 ((q+1:Nat):Int)) W:=fun b W own4 H4 y e hI hZ=>by
      have e1:=HNX.out b
      have e2:=HCT.out b
      have e3:=HWN.out b
      have e4:=HSF.out b
      rw[e] at e1 e2 e3 e4
      exact⟨q+1,y || a,_,H4,rfl,rfl,by omega,⟨own4,hI,hZ⟩,e3,e4.c.trans hc3,e4.m.trans hm3,e1,e2⟩
     have HREL:=LH hrel
     have hq60:q≤60:=by have:=HM60.out;omega
     have hm60:H2.m≤60:=HM60.out
     clear hrel hvt hI3 hZ3 hW3 hrd hct
     by_cases s2:(H3.tx (q+1)).state=2
     ·rw[s2] at k1
      have HEN:=LH (ends_any HI3.out HW3.out hc3 (show 1≤q+1 by omega) (show q+1≤H3.m by omega))
      have HS1:=LH (fun b=>show H3.settle1 (q+1) b=H3.ends (q+1) b by unfold Hs.settle1;rw[if_pos s2])
      unfold pw at HEN
      clear s2
      go_wp2_with fail
      refine HEN.out.mono ?_
      rintro e w5 ⟨b,rfl,own5,hI5,hZ5⟩
      rcases hE:H3.ends (q+1) b with ⟨H4,y⟩
      rw[hE] at hI5
      have HR:=LH (HREL.out b w5 own5 H4 y ((HS1.out b).trans hE) hI5 (HZ3.out.trans hZ5))
      clear hI5 hZ5 k1 hcu hE
      dsimp only
      cases y with
      | false=>
       rw[Bool.false_or] at HR
       go_wp2_with fail
       go_roundw
       case rel=>exact HR.out
       case measure=>simp[intOf];omega
      | true=>
       rw[Bool.true_or] at HR
       go_wp2_with fail
       go_roundw
       case rel=>exact HR.out
       case measure=>simp[intOf];omega
     ·have e2:((H3.tx (q+1)).state == 2)=false:=by simpa using s2
      by_cases s3:(H3.tx (q+1)).state=3
      ·have HTL:=LH (q50 (kind:=3) HI3.out HW3.out hc3 (show 1≤q+1 by omega) (show q+1≤H3.m by omega))
       have HS1:=LH (show H3.settle1 (q+1) (fun _=>false)=(H3.tells (q+1) 3,false) by unfold Hs.settle1;rw[if_neg s2,if_pos s3])
       unfold pw at HTL
       rw[s3] at k1
       clear s2 e2 s3
       go_wp2_with fail
       refine HTL.out.mono ?_
       rintro e w5 ⟨rfl,own5,hI5,hZ5⟩
       have HR:=LH (HREL.out _ w5 own5 _ _ HS1.out hI5 (HZ3.out.trans hZ5))
       clear hI5 hZ5 k1 hcu
       rw[Bool.false_or] at HR
       go_wp2_with fail
       go_roundw
       case rel=>exact HR.out
       case measure=>simp[intOf];omega
      ·have e3:((H3.tx (q+1)).state == 3)=false:=by simpa using s3
       by_cases s4:(H3.tx (q+1)).state=4
       ·have HTL:=LH (q50 (kind:=4) HI3.out HW3.out hc3 (show 1≤q+1 by omega) (show q+1≤H3.m by omega))
        have HS1:=LH (show H3.settle1 (q+1) (fun _=>false)=(H3.tells (q+1) 4,false) by unfold Hs.settle1;rw[if_neg s2,if_neg s3,if_pos s4])
        unfold pw at HTL
        rw[s4] at k1
        clear s2 e2 s3 e3 s4
        go_wp2_with fail
        refine HTL.out.mono ?_
        rintro e w5 ⟨rfl,own5,hI5,hZ5⟩
        have HR:=LH (HREL.out _ w5 own5 _ _ HS1.out hI5 (HZ3.out.trans hZ5))
        clear hI5 hZ5 k1 hcu
        rw[Bool.false_or] at HR
        go_wp2_with fail
        go_roundw
        case rel=>exact HR.out
        case measure=>simp[intOf];omega
       ·have e4:((H3.tx (q+1)).state == 4)=false:=by simpa using s4
        have HR:=LH (HREL.out (fun _=>false) wr own3 H3 false (by unfold Hs.settle1;rw[if_neg s2,if_neg s3,if_neg s4]) HI3.out HZ3.out)
        rw[Bool.false_or] at HR
        clear s2 s3 s4
        go_wp2_with fail
        go_roundw
        case rel=>exact HR.out
        case measure=>simp[intOf];omega
    ·obtain rfl:q=H2.m:=by omega
     have hcn:=hI3.cnt
     have hOU:OuRel P own H w (.bool a) wr:=by
      refine⟨a,H3,rfl,⟨own3,hI3,HZ2.out.trans hZ3⟩,hW3,hc3,hm3.trans hm2,fun ha H' hs=>HYES.out H' ?_,fun ha=>HYES.out H3 ?_⟩
      ·have:=q10.more (H:=H2) bs (by rw[hrd];exact ha) (H':=H') (by rw[hrd];exact hs)
       exact this
      ·have:=q10.stop (H:=H2) bs (by rw[hrd];exact ha)
       rw[hrd] at this
       exact this
     have hms:againM P H.m (.bool a) wr<againM P H.m (.bool true) W0:=by
      have e0:=HCNT.out
      rw[hm2] at e0
      rw[hm3,hm2] at hcn
      cases a with
      | false=>show 0<1+cntW P H.m W0;omega
      | true=>
       show 1+cntW P H.m wr<1+cntW P H.m W0
       rw[if_pos rfl] at hct
       omega
     have HO:=LH hOU
     have HMS:=LH hms
     clear hOU hms hcn hI3 hZ3 hW3 hrd hct
     go_wp2_with fail
     go_roundw
     case rel=>exact HO.out
     case measure=>exact HMS.out
end
def ErP (P:Ptr) (own:Own) (w:World) (r:Int×Hs) (e:Ending) (w':World):Prop:=e=.returned (erV r.1)∧GsP P own r.2 w w'
theorem q5g {P:Ptr} {m:Nat} {id:Int} (h:id<1∨m<id):findV P m id=.pointer none:=by unfold findV;rw[if_pos h]
theorem q45 {P:Ptr} {m i:Nat} (h1:1≤i) (hi:i≤m):findV P m i=pw (P.gt i):=by unfold findV;rw[if_neg (by omega)];rfl
section
variable {w w':World} {own own':Own} {P:Ptr} {H:Hs}
theorem drop_any (h:HI w own P H) (wf:Wf H) (hc:H.c=3) (id:Int):Calls Tryz.prog 16 #[pw P.g,.int .i64 id] w (ErP P own w (H.drop id)):=by
 have HF:=LH (q3o h (by have:=wf.m60;omega) id)
 by_cases hb:id<1∨H.m<id
 ·have HR:=LH (show ErP P own w (H.drop id) (.returned (.iface 79 (.int .i64 7))) w from by unfold Hs.drop;rw[if_pos hb];exact⟨rfl,own,h,HZ.refl _ _ _⟩)
  rw[q5g hb] at HF
  clear h wf hb
  unfold pw at *
  go_enter Tryz.func16,Tryz.ntmps16
  go_wp2_with fail
  refine HF.out.mono ?_
  rintro e w1 ⟨rfl,rfl⟩
  go_wp2_with fail
  go_ret
  exact HR.out
 ·obtain⟨i,rfl⟩:∃ i:Nat,id=i:=⟨id.toNat,by omega⟩
  have h1:1≤i:=by omega
  have hi:i≤H.m:=by omega
  rw[q45 h1 hi] at HF
  obtain⟨v,hv⟩:=h.tx i h1 hi
  obtain⟨_,k1,_,_,_,_,_,gl⟩:=hv.cells
  by_cases s1:(H.tx i).state=1
  ·have HD:=LH (show H.drop i=(0,H.abort i) by unfold Hs.drop;rw[if_neg hb,if_neg (fun h=>h s1)];rfl)
   have HA:=LH (q33 h wf hc h1 hi)
   rw[s1] at k1
   clear h wf hb hv s1
   unfold pw at *
   go_enter Tryz.func16,Tryz.ntmps16
   go_wp2_with fail
   refine HF.out.mono ?_
   rintro e w1 ⟨rfl,rfl⟩
   go_wp2_with fail
   refine HA.out.mono ?_
   rintro e w2 ⟨rfl,hg⟩
   have HR:=LH (show ErP P own w (H.drop i) (.returned .nilIface) w2 from by rw[HD.out];exact⟨rfl,hg⟩)
   clear hg k1
   go_wp2_with fail
   go_ret
   exact HR.out
  ·have HR:=LH (show ErP P own w (H.drop i) (.returned (.iface 79 (.int .i64 6))) w from by unfold Hs.drop;rw[if_neg hb,if_pos (by exact s1)];exact⟨rfl,own,h,HZ.refl _ _ _⟩)
   have e1:((H.tx i).state != 1)=true:=by simpa using s1
   clear h wf hb hv s1
   unfold pw at *
   go_enter Tryz.func16,Tryz.ntmps16
   go_wp2_with fail
   refine HF.out.mono ?_
   rintro e w1 ⟨rfl,rfl⟩
   go_wp2_with fail
   go_ret
   exact HR.out
end
theorem msOf_erase (L:List MsR) (k:Nat):msOf (L.eraseIdx k)=(msOf L).eraseIdx k:=by
 unfold msOf
 rw[List.eraseIdx_eq_take_drop_succ,List.eraseIdx_eq_take_drop_succ,List.map_append,List.map_take,List.map_drop]
theorem msOf_get {L:List MsR} {k:Nat} {x:MsR} (h:L[k]? = some x):(msOf L)[k]? = some x.m:=by unfold msOf;rw[List.getElem?_map,h];rfl
def MTakeP (P:Ptr) (H:Hs) (own:Own) (k:Nat) (w:World) (e:Ending) (w':World):Prop:=
 ∃ x:MsR,H.net.l[k]? = some x.m∧e=.returned (.tuple #[mrV x,.nilIface])∧HI w' own P { H with net:=takeS H.net k }∧HZ q3z w own w' own∧OwnW w' 0 x∧x.n≤100000∧(∀ b,Value.ownBlock (.slice x.A x.n x.k)=some b→own b=some .net)
section
variable {w w':World} {own own':Own} {P:Ptr} {H:Hs}
theorem HI.netLen (h:HI w own P H):H.net.l.length≤200:=by
 obtain⟨v,hv⟩:=h.hs
 rw[← hv.msgs]
 unfold msOf
 rw[List.length_map]
 exact hv.nt.len
theorem net_back (h:HI w own P H) {v:HsV} (hv:HsI w own P H.c H.m H.net H.time v) {V':Value} {k:Nat} {lost':Int} (hF:Fr (NetB P.g v.Vn v.D) w w')
  (hN:NetI w' 0 P.g 0 92 (q2e { v with Vn:=V',L:=v.L.eraseIdx k,lost:=lost' } H.time) V' v.D 100 (v.L.eraseIdx k) H.net.dead lost') (hV:V'.ownBlock=v.Vn.ownBlock):HI w' own P { H with net:=takeS H.net k }∧HZ q3z w own w' own:=by
 have hf:=net_fr hv hF
 have he:Ext own own w.heap.size:=Ext.refl _ _
 have hsi:=hv.renet (net':=takeS H.net k) (v':={ v with Vn:=V',L:=v.L.eraseIdx k,lost:=lost' }) hf he rfl rfl hN (by show msOf (v.L.eraseIdx k)=H.net.l.eraseIdx k;rw[msOf_erase,hv.msgs]) (fun b hb=>by
  rcases hb with hb|hb|⟨x,hx,hb⟩
  ·exact hv.nett b (.inl (by rw[← hV];exact hb))
  ·exact hv.nett b (.inr (.inl hb))
  ·exact hv.nett b (.inr (.inr ⟨x,List.mem_of_mem_eraseIdx hx,hb⟩))) (fun x hx=>hv.few x (List.mem_of_mem_eraseIdx hx))
 exact⟨h.setHs' (net':=takeS H.net k) (time':=H.time) (q27 hf (fun t ht=>ht.elim .inl (fun e=>.inr (.inl e)))) he (fun b hb=>Nat.lt_of_lt_of_le (h.lt b hb) hf.size) ⟨_,hsi⟩,⟨he,hf,(by first|exact q1f (by simp)|exact fun _ _ h=>h)⟩⟩
theorem mtake_any (h:HI w own P H) {k:Nat} (hk:k<H.net.l.length):Calls Tryz.prog 48 #[pw P.g,.int .i64 k] w (MTakeP P H own k w):=by
 obtain⟨v,hv⟩:=h.hs
 have hkl:k<v.L.length:=by rw[← hv.msgs] at hk;unfold msOf at hk;rwa [List.length_map] at hk
 refine(take_yes 0 P.g 0 100 _ _ v.Vn v.D v.L H.net.dead v.lost k w hv.nt hkl).mono ?_
 rintro e w' ⟨V',x,hx,rfl,hN,hO,hF,hV⟩
 obtain⟨h1,h2⟩:=net_back (lost':=v.lost) h hv hF hN hV
 exact⟨x,by rw[← hv.msgs];exact msOf_get hx,rfl,h1,h2,hO,hv.few x (List.mem_of_getElem? hx),fun b hb=>hv.nett b (.inr (.inr ⟨x,List.mem_of_getElem? hx,hb⟩))⟩
theorem mlose_any (h:HI w own P H) {k:Nat} (hk:k<H.net.l.length):Calls Tryz.prog 53 #[pw P.g,.int .i64 k] w fun e w'=>e=.returned .nilIface∧HI w' own P (H.lose k)∧HZ q3z w own w' own:=by
 obtain⟨v,hv⟩:=h.hs
 have hkl:k<v.L.length:=by rw[← hv.msgs] at hk;unfold msOf at hk;rwa [List.length_map] at hk
 refine(lose_yes 0 P.g 0 100 _ _ v.Vn v.D v.L H.net.dead v.lost w k hv.nt hkl).mono ?_
 rintro e w' ⟨V',lost',rfl,hN,hF,hV⟩
 obtain⟨h1,h2⟩:=net_back (lost':=lost') h hv hF hN hV
 exact⟨rfl,h1,h2⟩
theorem hlose_any (h:HI w own P H) {k:Nat} (hk:k<H.net.l.length):Calls Tryz.prog 29 #[pw P.g,.int .i64 k] w (ErP P own w (0,H.lose k)):=by
 have HL:=LH (mlose_any h hk)
 obtain⟨vh,hvh⟩:=h.hs
 have gl:=hvh.cells.2.2.2.2
 clear h hk hvh
 unfold pw at *
 go_enter Tryz.func29,Tryz.ntmps29
 go_wp2_with fail
 refine HL.out.mono ?_
 rintro e w1 ⟨rfl,hI,hZ⟩
 have HR:=LH (show ErP P own w (0,H.lose k) (.returned .nilIface) w1 from⟨rfl,own,hI,hZ.mono (fun _=>q6h)⟩)
 clear hI hZ
 go_wp2_with fail
 go_ret
 exact HR.out
end
section
variable {w w':World} {own own':Own} {P:Ptr} {H:Hs}
theorem net_sent (h:HI w own P H) {v:HsV} (hv:HsI w own P H.c H.m H.net H.time v) {V':Value} {L':List MsR} {lost':Int} {net':NetS} (hF:Fr (NetB P.g v.Vn v.D) w w') (hpr:∀ y∈L',y∈v.L∨NewR w.heap.size y)
  (hN:NetI w' 0 P.g 0 92 (q2e { v with Vn:=V',L:=L',lost:=lost' } H.time) V' v.D 100 L' H.net.dead lost') (hV:V'.ownBlock=v.Vn.ownBlock∨∃ b,V'.ownBlock=some b∧w.heap.size≤b) (hn:net'=⟨msOf L',H.net.dead⟩) (hwf:∀ m∈net'.l,WfM m) :
  ∃ own',HI w' own' P { H with net:=net' }∧HZ q3z w own w' own':=by
 have hf:=net_fr hv hF
 have he:Ext own (q15 own w.heap.size (NetF { v with Vn:=V',L:=L',lost:=lost' }) .net) w.heap.size:=q14
 have hnt:∀ b,NetF { v with Vn:=V',L:=L',lost:=lost' } b→own b=some .net∨w.heap.size≤b:=fun b hb=>by
  rcases hb with hb|hb|⟨x,hx,hb⟩
  ·rcases hV with h1|⟨q,h1,h2⟩
   ·exact .inl (hv.nett b (.inl (by rw[← h1];exact hb)))
   ·have hb':V'.ownBlock=some b:=hb
    rw[h1] at hb';injection hb' with hb';exact .inr (by omega)
  ·exact .inl (hv.nett b (.inr (.inl hb)))
  ·rcases hpr x hx with h1|h1
   ·exact .inl (hv.nett b (.inr (.inr ⟨x,h1,hb⟩)))
   ·exact .inr (h1 b hb)
 have hsi:=hv.renet (net':=net') (v':={ v with Vn:=V',L:=L',lost:=lost' }) hf he rfl rfl (by rw[hn];exact hN) (by rw[hn]) (fun b hb=>q1l (hnt b hb) hb) (fun x hx=>by
  have h1:x.m∈net'.l:=by rw[hn];exact List.mem_map.2 ⟨x,hx,rfl⟩
  have h2:=(hwf x.m h1).few
  rw[(hN.own x hx).2] at h2
  omega)
 exact⟨_,h.setHs' (net':=net') (time':=H.time) (q27 hf (fun t ht=>ht.elim .inl (fun e=>.inr (.inl e)))) he (q1m hf.size (fun b hb=>hN.foot_lt hb)) ⟨_,hsi⟩,⟨he,hf,(by first|exact q1f (by simp)|exact fun _ _ h=>h)⟩⟩
def q8p (H:Hs):Int:=if H.net.l.length=200 then 4 else 0
theorem sendS_wf {s:NetS} {m:Ms} (h:∀ x∈s.l,WfM x) (hm:WfM m):∀ x∈(sendS s m).l,WfM x:=by
 intro x hx
 unfold sendS at hx
 split at hx
 ·exact h x hx
 ·rcases List.mem_append.1 hx with hx|hx
  ·exact h x hx
  ·rw[List.mem_singleton] at hx;subst hx;exact hm
theorem mtwice_any (h:HI w own P H) (wf:Wf H) {k:Nat} (hk:k<H.net.l.length):Calls Tryz.prog 54 #[pw P.g,.int .i64 k] w fun e w'=>e=.returned (erV (q8p H))∧∃ own',HI w' own' P (H.twice k)∧HZ q3z w own w' own':=by
 obtain⟨v,hv⟩:=h.hs
 have hmL:v.L.length=H.net.l.length:=by rw[← hv.msgs];unfold msOf;rw[List.length_map]
 have hkl:k<v.L.length:=by omega
 have hx:v.L[k]? = some v.L[k]:=List.getElem?_eq_getElem hkl
 have hm:H.net.l[k]? = some (v.L[k]).m:=by rw[← hv.msgs];exact msOf_get hx
 have ht:H.twice k = { H with net:=sendS H.net (v.L[k]).m }:=by unfold Hs.twice;rw[hm]
 have hwm:WfM (v.L[k]).m:=wf.net _ (List.mem_of_getElem? hm)
 by_cases h2:H.net.l.length=200
 ·refine(twice_full 0 P.g 0 100 _ _ v.Vn v.D v.L H.net.dead v.lost w k hv.nt hkl (by omega)).mono ?_
  rintro e w' ⟨rfl,rfl⟩
  refine⟨by unfold q8p;rw[if_pos h2];rfl,own,?_,HZ.refl _ _ _⟩
  have:sendS H.net (v.L[k]).m=H.net:=by unfold sendS stopB;rw[decide_eq_true h2,Bool.or_true,if_pos rfl]
  rw[ht,this];exact h
 ·have hl:=hv.nt.len
  refine(twice_yes 0 P.g 0 100 _ _ v.Vn v.D v.L H.net.dead v.lost w k _ hv.nt hx (by omega) ⟨(wf_okI hwm).1,(wf_okI hwm).2,hv.few _ (List.mem_of_getElem? hx)⟩).mono ?_
  rintro e w' ⟨V',L',lost',rfl,hpr,hN,hs,hF,hV⟩
  refine⟨by unfold q8p;rw[if_neg h2];rfl,?_⟩
  rw[ht]
  have e2:H.net=⟨msOf v.L,H.net.dead⟩:=by rw[hv.msgs]
  exact net_sent h hv hF hpr hN hV (by rw[e2];exact hs) (sendS_wf wf.net hwm)
theorem htwice_any (h:HI w own P H) (wf:Wf H) {k:Nat} (hk:k<H.net.l.length):Calls Tryz.prog 30 #[pw P.g,.int .i64 k] w (ErP P own w (q8p H,H.twice k)):=by
 have HL:=LH (mtwice_any h wf hk)
 obtain⟨vh,hvh⟩:=h.hs
 have gl:=hvh.cells.2.2.2.2
 clear h hk hvh wf
 unfold pw at *
 go_enter Tryz.func30,Tryz.ntmps30
 go_wp2_with fail
 refine HL.out.mono ?_
 rintro e w1 ⟨rfl,own1,hI,hZ⟩
 have HR:=LH (show ErP P own w (q8p H,H.twice k) (.returned (erV (q8p H))) w1 from⟨rfl,own1,hI,hZ.mono (fun _=>q6h)⟩)
 clear hI hZ
 go_wp2_with fail
 go_ret
 exact HR.out
end
def nodesL (_:Hs) (s:Nat) (l:List Nat):List (Nat×Nat):=l.map fun j=>(s,j)
def q4q (H:Hs) (ss:List Nat):List (Nat×Nat):=ss.flatMap fun s=>((H.sh s).liveIx H.n).map fun j=>(s,j)
def isNd (H:Hs) (id:Int) (q:Nat×Nat):Bool:=((H.sh q.1).nd q.2).id == id
theorem node_eq (H:Hs) (id:Int):H.node id=(q4q H [0,1,2]).find? (isNd H id):=rfl
theorem nodesFr_cons (H:Hs) {ss:List Nat} {q s:Nat} (h:ss[q]? = some s):q4q H (ss.drop q)=nodesL H s ((H.sh s).liveIx H.n)++q4q H (ss.drop (q+1)):=by
 obtain⟨hq,e⟩:=List.getElem?_eq_some_iff.1 h
 rw[List.drop_eq_getElem_cons hq,e]
 unfold q4q
 rw[List.flatMap_cons]
 rfl
theorem nodesL_cons (H:Hs) {l:List Nat} {s i j:Nat} {rest:List (Nat×Nat)} {id:Int} (h:l[i]? = some j):(nodesL H s (l.drop i)++rest).find? (isNd H id)=if isNd H id (s,j) then some (s,j) else(nodesL H s (l.drop (i+1))++rest).find? (isNd H id):=by
 obtain⟨hi,e⟩:=List.getElem?_eq_some_iff.1 h
 rw[List.drop_eq_getElem_cons hi,e]
 unfold nodesL
 rw[List.map_cons,List.cons_append,List.find?_cons]
 cases isNd H id (s,j) <;> rfl
def nodeV (P:Ptr):Option (Nat×Nat)→Array Value|none=>#[.pointer none,.pointer none]|some (s,j)=>#[pw (P.gs s),pw (P.gn s j)]
def NodeQ (P:Ptr) (H:Hs) (id:Int) (w:World) (e:Ending) (w':World):Prop:=e=.returned (.tuple (nodeV P (H.node id)))∧Below w.heap.size w w'
def NoRel (H:Hs) (id:Int) (w:World) (v:Value) (wr:World):Prop:=∃ q:Nat,v=.int .i64 q∧q≤3∧H.node id=(q4q H ([0,1,2].drop q)).find? (isNd H id)∧Below w.heap.size w wr
def NiRel (H:Hs) (id:Int) (s q:Nat) (l:List Nat) (w1:World) (v:Value) (wr:World):Prop:=∃ i:Nat,v=.int .i64 i∧i≤l.length∧H.node id=(nodesL H s (l.drop i)++q4q H ([0,1,2].drop (q+1))).find? (isNd H id)∧wr=w1
section
variable {w w':World} {own own':Own} {P:Ptr} {H:Hs}
theorem q43 {s:Nat} (h:HI w own P H) (wf:Wf H) (hs:s<H.c):Calls Tryz.prog 43 #[pw (P.gs s)] w (LiveP P H.n s (H.sh s) w):=
 live_any h hs (by have:=wf.n4;omega) (fun j hj=>wf.idOk hs hj)
theorem q36 {H:Hs} {s j:Nat} (h:j∈(H.sh s).liveIx H.n):j<H.n:=by unfold Shd.liveIx at h;exact List.mem_range.1 (List.mem_filter.1 h).1
theorem node_any (h:HI w own P H) (wf:Wf H) (hc:H.c=3) (id:Int):Calls Tryz.prog 49 #[pw P.g,.int .i64 id] w (NodeQ P H id w):=by
 have HH:=LH h
 have HWF:=LH wf
 have hn4:=wf.n4
 obtain⟨vh,hvh⟩:=h.hs
 obtain⟨_,c3,_,_,gl⟩:=hvh.cells
 obtain⟨r3,k3,hVr,hr3,hc3⟩:=hvh.shAt (s:=0) (by omega)
 rw[hVr,hc] at c3
 have HSH:=LH (fun(s:Nat) (hs:s<3) W (hb:Below w.heap.size w W)=>(by
  obtain⟨r,k,e,hr,hc⟩:=hvh.shAt (s:=s) (by omega)
  rw[hVr] at e
  injection e with e _ _
  injection e with e
  injection e with e _ _
  subst e
  exact⟨(hb.cell (p:=⟨r3,s,none⟩) hr).trans hc,Nat.lt_of_lt_of_le hr hb.size⟩:W.cell? ⟨r3,s,none⟩=some (pw (P.gs s))∧r3<W.heap.size))
 clear h wf hvh hVr hc3 hr3
 unfold pw at *
 go_enter Tryz.func49,Tryz.ntmps49
 go_wp2_with fail
 clear c3
 go_loopw [15] (NoRel H id w) (fun v _=>3-(intOf v).toNat)
 case atStart=>exact⟨0,rfl,Nat.zero_le _,node_eq H id,Below.refl _ _⟩
 case round=>
  obtain⟨q,rfl,hq,hnd,hbw⟩:=hrel
  by_cases hlt:(q:Int)<3
  ·obtain⟨hcs,hrl⟩:=HSH.out q (by omega) wr hbw
   have hss:([0,1,2]:List Nat)[q]? = some q:=by
    have:q=0∨q=1∨q=2:=by omega
    rcases this with rfl|rfl|rfl <;> rfl
   rw[nodesFr_cons H hss] at hnd
   have HND:=LH hnd
   have HB:=LH hbw
   have HHr:=LH (HH.out.below hbw)
   have HL:=LH (q43 HHr.out HWF.out (s:=q) (by omega))
   have hll:=q1r (H.sh q) H.n
   have HM:=LH (fun j (hj:j∈(H.sh q).liveIx H.n)=>q36 hj)
   unfold LiveP pw at HL
   clear hnd hbw
   generalize (H.sh q).liveIx H.n=l at *
   go_wp2_with fail
   refine HL.out.mono ?_
   rintro e w1 ⟨V,rfl,hrow,hb1⟩
   obtain⟨A,c,rfl,_,_⟩:=q01 hrow
   have HR:=LH (Rd.of_own hrow)
   have HB1:=LH (HB.out.trans (hb1.mono HB.out.size))
   have HH1:=LH (HHr.out.below hb1)
   clear hrow hb1 HL hcs hrl HB HHr
   go_wp2_with fail
   go_loopw [22] (NiRel H id q q l w1) (fun v _=>l.length-(intOf v).toNat)
   case atStart=>exact⟨0,rfl,Nat.zero_le _,HND.out,rfl⟩
   case round=>
    obtain⟨i,rfl,hi,hfd,rfl⟩:=hrel
    by_cases hli:(i:Int)<l.length
    ·have hin:i<l.length:=by omega
     obtain⟨r,o,u,hA,hr,hu,hcc⟩:=HR.out.at1 (k:=i) hin
     have hx:l[i]? = some l[i]:=List.getElem?_eq_getElem hin
     rw[List.getElem?_map,hx] at hu
     simp only[Option.map_some,Option.some.injEq] at hu
     subst hu hA
     have hjn:=HM.out l[i] (List.getElem_mem hin)
     obtain⟨C,V,L,hN,_⟩:=HH1.out.nd q l[i] (by omega) hjn
     have HQ:=LH (id_any hN)
     rw[nodesL_cons H hx] at hfd
     have HFD:=LH hfd;clear hfd hN
     generalize l[i]=j at *
     rcases hp:(((H.sh q).nd j).id == id) with _|_
     ·have HFE:=LH (HFD.out.trans (if_neg (by show ¬(((H.sh q).nd j).id == id)=true;rw[hp];simp)))
      clear HFD
      go_wp2_with fail
      refine HQ.out.mono ?_
      rintro e w2 ⟨rfl,rfl⟩
      go_wp2_with fail
      go_roundw
      case rel=>exact⟨i+1,rfl,by omega,HFE.out,rfl⟩
      case measure=>simp[intOf];omega
     ·have HFE:=LH (HFD.out.trans (if_pos (by show(((H.sh q).nd j).id == id)=true;exact hp)))
      clear HFD
      go_wp2_with fail
      refine HQ.out.mono ?_
      rintro e w2 ⟨rfl,rfl⟩
      go_wp2_with fail
      go_ret2
      exact⟨by rw[HFE.out];rfl,HB1.out⟩
    ·obtain rfl:i=l.length:=by omega
     rw[List.drop_length] at hfd
     have HN:=LH (show NoRel H id w (.int .i64 ((q+1:Nat):Int)) wr from⟨q+1,rfl,by omega,hfd,HB1.out⟩)
     clear hfd
     go_wp2_with fail
     go_roundw
     case rel=>exact HN.out
     case measure=>simp[intOf];omega
  ·obtain rfl:q=3:=by omega
   have HFE:=LH (show H.node id=none from hnd)
   clear hnd
   go_wp2_with fail
   go_ret2
   exact⟨by rw[HFE.out];rfl,hbw⟩
end
end Go.Proofs.YtccahlhdifadfaaGreatDoor
