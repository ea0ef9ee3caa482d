/- Part 15 of the texts that the claim rests on (of 19): Ph4, Ph5, Ph6, IxP, HfV, HfW, Hh1, Hh2. -/
import Derived.Test.YtccahlhdifadfaaGreatDoorPk13
import Derived.StillTailTactics
import Derived.RangeFuncNested
import Derived.RangeFuncBound
import Derived.RangeFuncCalls
import Derived.RangeFuncLeaves
import Derived.Shelf.Abstract
import Derived.Shelf.RegionOpen
import Derived.WalkKit
import Derived.OwnWalkIn
import Derived.TacticsInMore
import Derived.LoopNIn
import Derived.LoopIn
namespace Go.Proofs.YtccahlhdifadfaaGreatDoor
open Go.RowKit
set_option maxRecDepth 100000
set_option maxHeartbeats 16000000
section
variable {x y:Cs} {H:Hs}
theorem nstep_ids (d:Nd) (m:Ms):(d.step m).1.id=d.id∧(d.step m).1.at_=d.at_:=by
 have hg:∀ c,(d.grow c).1.id=d.id∧(d.grow c).1.at_=d.at_:=fun c=>by
  unfold Nd.grow
  split
  ·exact⟨(q0n _).1,(q0n _).2.2.2.2⟩
  ·exact⟨rfl,rfl⟩
 unfold Nd.step
 simp only
 repeat' split
 all_goals first|exact⟨rfl,rfl⟩|exact hg _
theorem nstep_head {d:Nd} (h:d.at_=0) (m:Ms):(d.step m).1.log=d.log:=by
 unfold Nd.step
 simp only[h]
 repeat' split
 all_goals first|rfl|(rename_i g;simp at g)
theorem SimH.netT (h:SimH x H) (l:List Ms):SimH { x with net:=l } { H with net:=⟨l,fun _=>false⟩ }:=by
 have hg:∀ s j,({ x with net:=l } : Cs).get s j=x.get s j:=fun s j=>by unfold Cs.get;split <;> rfl
 have hd:∀ s,({ x with net:=l } : Cs).dn s=x.dn s:=fun s=>by unfold Cs.dn;split <;> rfl
 exact⟨h.n,h.c,h.m,fun s j hs hj=>(h.nd s j hs hj).trans (hg s j).symm,h.dead,h.epoch,h.tab,h.sto,fun s hs=>(h.done s hs).trans (hd s).symm,rfl,h.time,h.tx,
  fun s j hs hj=>by rw[hg];exact h.ids s j hs hj,fun s hs=>by rw[hg];exact h.heads s hs,fun s hs=>by rw[hg];exact h.heads1 s hs,by rw[hg];exact h.lgp⟩
theorem SimH.node_ (h:SimH x H) (id:Int):H.node id=cnode id:=by
 have e:([0,1,2].flatMap fun s=>((H.sh s).liveIx H.n).map fun j=>(s,j))=[(0,0),(0,1),(1,0),(1,1),(2,0),(2,1)]:=by
  simp only[List.flatMap_cons,List.flatMap_nil]
  rw[h.live (s:=0) (by omega),h.live (s:=1) (by omega),h.live (s:=2) (by omega)]
  rfl
 have i0:∀ s j,s<3→j<2→((H.sh s).nd j).id=10*s+j:=fun s j hs hj=>by rw[h.nd s j hs hj,h.ids s j hs hj]
 have a0:((H.sh 0).nd 0).id=0:=(i0 0 0 (by omega) (by omega)).trans (by decide)
 have a1:((H.sh 0).nd 1).id=1:=(i0 0 1 (by omega) (by omega)).trans (by decide)
 have a2:((H.sh 1).nd 0).id=10:=(i0 1 0 (by omega) (by omega)).trans (by decide)
 have a3:((H.sh 1).nd 1).id=11:=(i0 1 1 (by omega) (by omega)).trans (by decide)
 have a4:((H.sh 2).nd 0).id=20:=(i0 2 0 (by omega) (by omega)).trans (by decide)
 have a5:((H.sh 2).nd 1).id=21:=(i0 2 1 (by omega) (by omega)).trans (by decide)
 unfold Hs.node cnode
 rw[e]
 simp only[List.find?_cons,List.find?_nil,a0,a1,a2,a3,a4,a5]
 repeat' split
 all_goals first|rfl|(simp_all;done)|(exfalso;simp_all;omega)
theorem SimH.tick1 (h:SimH x H) {s j:Nat} (hs:s<3) (hj:j<2):SimH (q4j x s j) (Hs.tickNd s H j):=by
 unfold q4j Hs.tickNd
 rw[h.nd s j hs hj]
 refine h.node hs hj (q0n _).1 (q0n _).2.2.2.2 ?_
 rw[(q0n _).2.1]
 rintro rfl rfl
 exact h.lgp
theorem SimH.tickS (h:SimH x H) {s:Nat} (hs:s<3):SimH (q4j (q4j x s 0) s 1) (H.tickSh s):=by
 unfold Hs.tickSh
 rw[h.live hs]
 exact(h.tick1 hs (by omega)).tick1 hs (by omega)
theorem SimH.ticks (h:SimH x H):SimH (cticks x) H.ticks:=((h.tickS (s:=0) (by omega)).tickS (s:=1) (by omega)).tickS (s:=2) (by omega)
theorem SimH.deliver (h:SimH x H) {L:List Cs} (hc:q6x x=some L) {H':Hs} (r:q1t H 0 H'):∃ y∈L,SimH y H':=by
 unfold q6x at hc
 cases r with
 | none hl=>
  rw[h.net] at hl
  have:x.net=[]:=by cases hx:x.net with
   | nil=>rfl
   | cons a b=>rw[hx] at hl;simp at hl
  rw[this] at hc
  injection hc with hc
  subst hc
  exact⟨x,List.mem_singleton.2 rfl,h⟩
 | @some m hm _ r=>
  rw[h.net] at hm
  cases hx:x.net with
  | nil=>rw[hx] at hm;simp at hm
  | cons a net=>
   rw[hx] at hm hc
   simp only[List.getElem?_cons_zero,Option.some.injEq] at hm
   subst hm
   have h1:=h.netT net
   have e1:({ H with net:=takeS H.net 0 } : Hs) = { H with net:=⟨net,fun _=>false⟩ }:=by
    rw[h.net,hx];rfl
   rw[e1] at r
   unfold Hs.arrive at r
   rw[h1.node_] at r
   simp only at hc
   cases hcn:cnode a.to_ with
   | none=>
    rw[hcn] at r hc
    exact h1.settle r hc
   | some q=>
    obtain⟨s,j⟩:=q
    rw[hcn] at r hc
    simp only at r hc
    have hsj:s<3∧j<2:=by
     unfold cnode at hcn
     repeat' split at hcn
     all_goals first|(injection hcn with hcn;injection hcn with h1 h2;omega)|cases hcn
    obtain⟨hs,hj⟩:=hsj
    have eg:({ x with net:=net } : Cs).get s j=x.get s j:=by unfold Cs.get;split <;> rfl
    have e2:=h1.nd s j hs hj
    rw[eg] at e2
    have h2:=h1.node hs hj (d:=((x.get s j).step a).1) (ms:=((x.get s j).step a).2) (by rw[eg];exact(nstep_ids _ _).1) (by rw[eg];exact(nstep_ids _ _).2) (by
     rintro rfl rfl c hcl hk
     rw[nstep_head (h.heads 1 (by omega))] at hcl
     exact h.lgp c hcl hk)
    split at hc
    ·rename_i g
     have g:=beq_iff_eq.1 g
     rw[← e2] at g hc h2
     rw[h2.take hs g] at r
     exact h2.settle r hc
    ·cases hc
theorem SimH.drain {k:Nat} {H':Hs} (r:q4k k H H'):∀ {x:Cs} {L:List Cs},SimH x H→q8c k x=some L→∃ y∈L,SimH y H':=by
 induction r with
 | zero H=>
  intro x L h hc
  injection hc with hc
  subst hc
  exact⟨x,List.mem_singleton.2 rfl,h⟩
 | @none k H hl=>
  intro x L h hc
  rw[h.net] at hl
  have hl:x.net=[]:=hl
  have:q8c k x=some [x]:=by
   cases k with
   | zero=>rfl
   | succ k=>unfold q8c;rw[if_pos (by simp[hl])]
  rw[this] at hc
  injection hc with hc
  subst hc
  exact⟨x,List.mem_singleton.2 rfl,h⟩
 | @more k H H1 H' hl d _ ih=>
  intro x L h hc
  rw[h.net] at hl
  have hl:x.net≠[]:=hl
  unfold q8c at hc
  rw[if_neg (by simpa using hl)] at hc
  cases h1:q6x x with
  | none=>rw[h1] at hc;cases hc
  | some l=>
   rw[h1] at hc
   obtain⟨y,hy,hs⟩:=h.deliver h1 d
   obtain⟨a,ha,hb⟩:=q2m hc hy
   obtain⟨z,hz,hsz⟩:=ih hs ha
   exact⟨z,hb z hz,hsz⟩
theorem SimH.calm {k:Nat} {H':Hs} (r:CalmR k H H'):∀ {x:Cs} {L:List Cs},SimH x H→ccalm k x=some L→∃ y∈L,SimH y H':=by
 induction r with
 | zero H=>
  intro x L h hc
  injection hc with hc
  subst hc
  exact⟨x,List.mem_singleton.2 rfl,h⟩
 | @more k H H1 H2 H' t d _ ih=>
  intro x L h hc
  unfold ccalm at hc
  cases h1:q38 5 (cticks x) with
  | none=>rw[h1] at hc;cases hc
  | some l=>
   rw[h1] at hc
   simp only at hc
   cases h2:bindO (q8c 5000) l with
   | none=>rw[h2] at hc;cases hc
   | some l2=>
    rw[h2] at hc
    simp only at hc
    obtain⟨y,hy,hs⟩:=h.ticks.settle t h1
    obtain⟨a,ha,hb⟩:=q2m h2 hy
    obtain⟨z,hz,hsz⟩:=SimH.drain d hs ha
    obtain⟨a2,ha2,hb2⟩:=q2m hc (hb z hz)
    obtain⟨u,hu,hsu⟩:=ih hsz ha2
    exact⟨u,hb2 u hu,hsu⟩
end
def ids2 (s:Nat):List Int:=[10*(s:Int)+((0:Nat):Int),10*(s:Int)+((1:Nat):Int)]
def n0 (s j:Nat):Nd×List Ms:=((nd0 (10*s+j)).join 1 (ids2 s)).tick
def x0:Cs:=⟨(n0 0 0).1,(n0 0 1).1,(n0 1 0).1,(n0 1 1).1,(n0 2 0).1,(n0 2 1).1,
 (q0o ⟨[],fun _=>false⟩ ((n0 0 0).2++(n0 0 1).2++(n0 1 0).2++(n0 1 1).2++(n0 2 0).2++(n0 2 1).2)).l,2,0,some (-1),true,false,0,0,0⟩
def endOk (z:Cs):Bool:=z.state == 3 && z.st && !z.lk
def q8d (y:Cs):Bool:=y.state == 2 && match ccalm 4 y with|none=>false|some l=>l.all endOk
def allOk:Bool:=match q38 5 x0 with|none=>false|some l=>l.all q8d
theorem allOk_true:allOk=true:=by decide +kernel
def t1:Txn:={ txn0 with shards:=setF (fun _=>none) 1 1 }
theorem put_fresh {H:Hs} (hm:H.m=1) (ht:H.tx 1=txn0) (hh:H.head 1=some 0) (hT:(H.sh 1).tab=fun _=>none) (he:(H.sh 1).epoch=1) :
  H.put 1 prA=(0,{ H with sh:=upd H.sh 1 { H.sh 1 with tab:=tabA },tx:=upd H.tx 1 ⟨1,[prA],setF (fun _=>none) 1 1,fun _=>none,0,[]⟩ }):=by
 have hk:q00 (sx prA.key)=1:=rfl
 unfold Hs.put
 rw[if_neg (by decide)]
 have hl:H.lock 1 (sx prA.key) 2=(0,{ H with sh:=upd H.sh 1 { H.sh 1 with tab:=tabA },tx:=upd H.tx 1 { txn0 with shards:=setF (fun _=>none) 1 1 } }):=by
  unfold Hs.lock
  have e1:Int.toNat 1=1:=rfl
  rw[if_neg (by rw[hm];omega),e1,ht,if_neg (by simp[txn0]),if_neg (by decide),hk,if_neg (by rw[hh];simp),if_neg (by simp[txn0]),he]
  simp only
  have e2:((H.setTx 1 { txn0 with shards:=setF txn0.shards ((1:Nat):Int) 1 }).tx 1)=t1:=q03 H.tx 1 t1
  rw[e2]
  rw[if_neg (by simp[t1,txn0,q0u])]
  unfold Hs.lockIn
  rw[hk]
  simp only
  have e3:((H.setTx 1 { txn0 with shards:=setF txn0.shards ((1:Nat):Int) 1 }).sh 1).tab=fun _=>none:=hT
  rw[e3]
  have e4:atT (fun _=>none) (sx prA.key)=k0:=rfl
  rw[e4,if_neg (by simp[k0,q0w]),if_pos (show freeB k0.h ((1:Nat):Int) 2 k0.ws=true from free_k0 1 2)]
  have e5:lockT (fun _=>none) ((1:Nat):Int) (sx prA.key) 2=tabA:=lock_new
  rw[e5]
  rfl
 rw[hl]
 simp only
 rw[if_neg (by simp),show Int.toNat 1=1 from rfl,q03]
 have e6:putPr txn0.writes ⟨prA.key,if prA.gone=true then⟨#[]⟩ else prA.val,prA.gone⟩=some [prA]:=rfl
 rw[e6]
 unfold Hs.setTx
 simp only[q9j]
 rfl
def shX (s:Nat):Shd:=⟨upd (upd (shd0 s).nd 0 (n0 s 0).1) 1 (n0 s 1).1,fun _=>false,1,2,fun _=>none,fun _=>[],0⟩
theorem live2 {x:Shd} (h:x.dead=fun _=>false):x.liveIx 2=[0,1]:=by
 unfold Shd.liveIx;rw[h];rfl
theorem take_none {H:Hs} {s:Nat} (hn:H.n=2) (hd:(H.sh s).dead=fun _=>false) (h0:((H.sh s).nd 0).log=[]) (h1:((H.sh s).nd 0).at_=0):H.take s=H:=by
 have hh:H.head s=some 0:=by
  unfold Hs.head Shd.headIx
  rw[hn,live2 hd,List.find?_cons_of_pos]
  unfold Nd.head;rw[h1];rfl
 unfold Hs.take
 rw[hh]
 simp only
 rw[h0,List.length_nil,Nat.zero_sub]
 rfl
theorem n0_log (s j:Nat):(n0 s j).1.log=[]:=by unfold n0;rw[(q0n _).2.1];rfl
theorem n0_at (s:Nat):(n0 s 0).1.at_=0∧(n0 s 1).1.at_=1:=by
 unfold n0
 rw[(q0n _).2.2.2.2,(q0n _).2.2.2.2]
 constructor
 ·show idxI (10*(s:Int)+((0:Nat):Int)) (ids2 s)=0
  unfold idxI ids2
  simp[List.findIdx?_cons]
 ·show idxI (10*(s:Int)+((1:Nat):Int)) (ids2 s)=1
  unfold idxI ids2
  have h:¬(10*(s:Int)+1=10*s):=by omega
  simp[List.findIdx?_cons,h]
theorem joinNd_eq {H:Hs} {s:Nat} (ids:List Int) (j:Nat) {X:Shd} (hX:H.sh s=X):Hs.joinNd s ids H j = { H with sh:=upd H.sh s { X with nd:=upd X.nd j ((X.nd j).join X.epoch ids).tick.1 },net:=q0o H.net ((X.nd j).join X.epoch ids).tick.2 }:=by subst hX;rfl
def shY (s:Nat):Shd:=⟨(shd0 s).nd,fun _=>false,1,2,fun _=>none,fun _=>[],0⟩
theorem more2 {H:Hs} (hn:H.n=2) (hx:H.sh H.c=shd0 H.c):H.more = { H with c:=H.c+1,sh:=upd H.sh H.c (shX H.c),net:=q0o (q0o H.net (n0 H.c 0).2) (n0 H.c 1).2 }:=by
 rw[q64]
 have hlv:(H.cc.sh H.c).liveIx H.cc.n=[0,1]:=by
  show(H.sh H.c).liveIx H.n=_
  rw[hn,hx];exact live2 rfl
 unfold Hs.fix
 rw[hlv,if_neg (by simp)]
 unfold Hs.fixIn
 simp only
 have hids:(H.cc.sh H.c).ids H.cc.n=ids2 H.c:=by
  unfold Shd.ids
  rw[hlv]
  show [((H.sh H.c).nd 0).id,((H.sh H.c).nd 1).id]=_
  rw[hx]
  rfl
 rw[hlv,hids]
 simp only[List.foldl_cons,List.foldl_nil]
 have e0:H.cc.setSh H.c { H.cc.sh H.c with epoch:=wrap64 ((H.cc.sh H.c).epoch+1),size:=(([0,1]:List Nat).length:Int) } = { H.cc with sh:=upd H.sh H.c (shY H.c) }:=by
  have:({ H.cc.sh H.c with epoch:=wrap64 ((H.cc.sh H.c).epoch+1),size:=(([0,1]:List Nat).length:Int) } : Shd)=shY H.c:=by
   show({ H.sh H.c with epoch:=wrap64 ((H.sh H.c).epoch+1),size:=(([0,1]:List Nat).length:Int) } : Shd)=shY H.c
   rw[hx]
   have hw:wrap64 ((shd0 H.c).epoch+1)=1:=by show wrap64 (0+1)=1;unfold wrap64;decide
   rw[hw];rfl
  rw[this];rfl
 rw[e0]
 rw[joinNd_eq (X:=shY H.c) (ids2 H.c) 0 (q03 _ _ _)]
 have e1:((shY H.c).nd 0).join (shY H.c).epoch (ids2 H.c)=(nd0 (10*(H.c:Int)+((0:Nat):Int))).join 1 (ids2 H.c):=rfl
 rw[e1]
 rw[joinNd_eq (ids2 H.c) 1 (q03 _ _ _)]
 have e2:(upd (shY H.c).nd 0 ((nd0 (10*(H.c:Int)+((0:Nat):Int))).join 1 (ids2 H.c)).tick.1) 1=nd0 (10*(H.c:Int)+((1:Nat):Int)):=q07 (by omega) _
 simp only[e2,q9j]
 have hR:({ H with c:=H.c+1,sh:=upd H.sh H.c (shX H.c),net:=q0o (q0o H.net (n0 H.c 0).2) (n0 H.c 1).2 } : Hs).sh H.c=shX H.c:=q03 _ _ _
 have e5:(shX H.c).nd 0=(n0 H.c 0).1:=by
  rfl
 refine Eq.trans (congrArg (fun K=>Hs.take K H.c) (?_:_=({ H with c:=H.c+1,sh:=upd H.sh H.c (shX H.c),net:=q0o (q0o H.net (n0 H.c 0).2) (n0 H.c 1).2 } : Hs))) (take_none hn (by rw[hR];rfl) (by rw[hR,e5];exact n0_log _ _) (by rw[hR,e5];exact(n0_at _).1))
 unfold Hs.setSh
 simp only[q03,q9j]
 rfl
theorem more3 {H:Hs} {c:Nat} (hc:H.c=c) (hn:H.n=2) (hx:H.sh c=shd0 c):H.more=⟨2,c+1,q0o (q0o H.net (n0 c 0).2) (n0 c 1).2,upd H.sh c (shX c),H.m,H.tx,H.time⟩:=by
 subst hc
 rw[more2 hn hx,hn]
theorem hs0_2:(hs0 2).n=2∧(hs0 2).c=3∧(hs0 2).m=0∧(hs0 2).time=0∧(hs0 2).net=⟨x0.net,fun _=>false⟩∧∀ s,s<3→(hs0 2).sh s=shX s:=by
 have a1:=more3 (H:=hsE 2) (c:=0) rfl rfl rfl
 have a2:=more3 (H:=(hsE 2).more) (c:=1) (by rw[a1]) (by rw[a1]) (by rw[a1];rfl)
 have a3:=more3 (H:=(hsE 2).more.more) (c:=2) (by rw[a2]) (by rw[a2]) (by rw[a2,a1];rfl)
 have e:hs0 2=(hsE 2).more.more.more:=rfl
 rw[e,a3,a2,a1]
 refine⟨rfl,rfl,rfl,rfl,?_,fun s hs=>?_⟩
 ·show q0o (q0o (q0o (q0o (q0o (q0o ⟨[],fun _=>false⟩ _) _) _) _) _) _=_
  have hd:∀ S:NetS,S.dead=(fun _=>false)→S=⟨S.l,fun _=>false⟩:=fun S h=>by cases S;simp only at h;rw[h]
  refine(hd _ (by simp only[q20])).trans ?_
  unfold x0 q0o
  simp only[List.foldl_append]
 ·have h1:s=0∨s=1∨s=2:=by omega
  rcases h1 with rfl|rfl|rfl <;> rfl
def tP:Txn:=⟨1,[prA],setF (fun _=>none) 1 1,fun _=>none,0,[]⟩
noncomputable def hP:Hs:={ (hs0 2).begin with sh:=upd (hs0 2).sh 1 { (hs0 2).sh 1 with tab:=tabA },tx:=upd (hs0 2).begin.tx 1 ⟨1,[prA],setF (fun _=>none) 1 1,fun _=>none,0,[]⟩ }
theorem q97:(hs0 2).begin.put 1 prA=(0,hP):=by
 obtain⟨hn,hc,hm,ht,hnet,hsh⟩:=hs0_2
 refine put_fresh (H:=(hs0 2).begin) (by show(hs0 2).m+1=1;rw[hm]) ?_ ?_ ?_ ?_
 ·show upd (hs0 2).tx ((hs0 2).m+1) txn0 1=txn0
  rw[hm,q03]
 ·show((hs0 2).sh 1).headIx (hs0 2).n=some 0
  rw[hsh 1 (by omega),hn]
  unfold Shd.headIx
  rw[live2 rfl,List.find?_cons_of_pos]
  show((n0 1 0).1).head=true
  unfold Nd.head;rw[(n0_at 1).1];rfl
 ·show((hs0 2).sh 1).tab=_
  rw[hsh 1 (by omega)];rfl
 ·show((hs0 2).sh 1).epoch=_
  rw[hsh 1 (by omega)];rfl
theorem q96:SimH x0 (hP.ending 1)∧hP.m=1∧(hP.tx 1).state=1∧(hP.tx 1).wants=[]:=by
 obtain⟨hn,hc,hm,ht,hnet,hsh⟩:=hs0_2
 have htx:hP.tx 1=⟨1,[prA],setF (fun _=>none) 1 1,fun _=>none,0,[]⟩:=q03 (hs0 2).begin.tx 1 tP
 have key:∀ s,s<3→(hP.ending 1).sh s=if s=1 then { shX 1 with tab:=tabA } else shX s:=fun s hs=>by
  show upd (hs0 2).sh 1 _ s=_
  unfold upd
  split
  ·rw[hsh 1 (by omega)]
  ·exact hsh s hs
 have h3:∀ s,s<3→s=0∨s=1∨s=2:=fun s hs=>by omega
 refine⟨⟨hn,hc,by show(hs0 2).m+1=1;rw[hm],fun s j hs hj=>?_,fun s hs=>?_,fun s hs=>?_,fun s hs=>?_,fun s hs=>?_,fun s hs=>?_,hnet,ht,?_,fun s j hs hj=>?_,fun s hs=>?_,fun s hs=>?_,?_⟩,by show(hs0 2).m+1=1;rw[hm],by rw[htx],by rw[htx]⟩
 ·rw[key s hs]
  have hj2:j=0∨j=1:=by omega
  rcases h3 s hs with rfl|rfl|rfl <;> rcases hj2 with rfl|rfl <;> rfl
 ·rw[key s hs];rcases h3 s hs with rfl|rfl|rfl <;> rfl
 ·rw[key s hs];rcases h3 s hs with rfl|rfl|rfl <;> rfl
 ·rw[key s hs];rcases h3 s hs with rfl|rfl|rfl <;> rfl
 ·rw[key s hs];rcases h3 s hs with rfl|rfl|rfl <;> rfl
 ·rw[key s hs];rcases h3 s hs with rfl|rfl|rfl <;> rfl
 ·have e1:(hP.ending 1).tx 1 = { hP.tx 1 with state:=2,places:=fun k=>if ((hP.tx 1).shards k).isSome then some (-1) else(hP.tx 1).places k }:=q03 hP.tx 1 _
  rw[e1,htx]
  have e2:(fun k=>if (setF (fun _=>none) 1 1 k).isSome then some (-1) else none:Int→Option Int)=fun k=>if k=1 then x0.pl else none:=by
   funext k
   unfold setF
   by_cases e:k=1 <;> simp[e,x0]
  show(⟨2,[prA],setF (fun _=>none) 1 1,(fun k=>if (setF (fun _=>none) 1 1 k).isSome then some (-1) else none:Int→Option Int),0,[]⟩:Txn)=_
  rw[e2]
  rfl
 ·have hj2:j=0∨j=1:=by omega
  rcases h3 s hs with rfl|rfl|rfl <;> rcases hj2 with rfl|rfl <;> rfl
 ·rcases h3 s hs with rfl|rfl|rfl <;> rfl
 ·rcases h3 s hs with rfl|rfl|rfl <;> rfl
 ·intro c hcl
  rw[show(x0.get 1 0).log=[] from n0_log 1 0] at hcl
  cases hcl
theorem housed_end {e:Int} {H3:Hs} (r:EndR hP 1 e H3):e=0∧∃ y,q8d y=true∧SimH y H3:=by
 obtain⟨hs,hm,h1,h2⟩:=q96
 have e1:Int.toNat 1=1:=rfl
 cases r with
 | missing h=>rw[hm] at h;omega
 | state h g=>rw[e1,h1] at g;exact absurd rfl g
 | waits h _ g=>rw[e1,h2] at g;exact absurd rfl g
 | ends _ _ _ r=>
  rw[e1] at r
  refine⟨rfl,?_⟩
  have ha:=allOk_true
  unfold allOk at ha
  cases hc:q38 5 x0 with
  | none=>rw[hc] at ha;cases ha
  | some l=>
   rw[hc] at ha
   obtain⟨y,hy,hsy⟩:=SimH.settle r hs hc
   exact⟨y,List.all_eq_true.1 ha y hy,hsy⟩
theorem housed_state {y:Cs} {H3:Hs} (hy:q8d y=true) (h:SimH y H3):H3.state 1=2:=by
 unfold q8d at hy
 simp only[Bool.and_eq_true,beq_iff_eq] at hy
 unfold Hs.state
 rw[h.m,if_neg (by omega)]
 show(H3.tx 1).state=2
 rw[h.tx];exact hy.1
theorem housed_calm {y:Cs} {H3 H4:Hs} (hy:q8d y=true) (h:SimH y H3) (r:CalmR 4 H3 H4):∃ z,endOk z=true∧SimH z H4:=by
 unfold q8d at hy
 simp only[Bool.and_eq_true] at hy
 have h2:=hy.2
 cases hc:ccalm 4 y with
 | none=>rw[hc] at h2;cases h2
 | some l=>
  rw[hc] at h2
  obtain⟨z,hz,hsz⟩:=SimH.calm r h hc
  exact⟨z,List.all_eq_true.1 h2 z hz,hsz⟩
theorem housed_get {z:Cs} {H4:Hs} (hz:endOk z=true) (h:SimH z H4):(H4.begin.get 2 kA).1=(0,[120],true)∧(H4.begin.get 2 kA).2.state 1=3∧(H4.begin.get 2 kA).2.state 2=1:=by
 unfold endOk at hz
 simp only[Bool.and_eq_true,beq_iff_eq,Bool.not_eq_true'] at hz
 obtain⟨⟨z1,z2⟩,z3⟩:=hz
 have hm:H4.begin.m=2:=by show H4.m+1=2;rw[h.m]
 have ht:H4.begin.tx 2=txn0:=by show upd H4.tx (H4.m+1) txn0 2=_;rw[h.m];exact q03 _ _ _
 have ht1:H4.begin.tx 1=H4.tx 1:=by show upd H4.tx (H4.m+1) txn0 1=_;rw[h.m];exact q07 (by omega) _
 have hh:H4.begin.head 1=some 0:=h.head (by omega)
 have hT:(H4.begin.sh 1).tab=fun _=>none:=by
  show(H4.sh 1).tab=_
  rw[h.tab 1 (by omega),z3,if_neg (by simp)]
 have hS:(H4.begin.sh 1).sto=stoA:=by
  show(H4.sh 1).sto=_
  rw[h.sto 1 (by omega),z2,if_pos ⟨rfl,rfl⟩]
 have hk:q00 kA=1:=rfl
 have he:(H4.begin.sh 1).epoch=1:=h.epoch 1 (by omega)
 have hl:H4.begin.lock 2 kA 1=(0,(H4.begin.setTx 2 t1).setSh 1 { H4.begin.sh 1 with tab:=lockT (fun _=>none) 2 kA 1 }):=by
  unfold Hs.lock
  have e1:Int.toNat 2=2:=rfl
  rw[if_neg (by rw[hm];omega),e1,ht,if_neg (by simp[txn0]),if_neg (by decide),hk,if_neg (by rw[hh];simp),if_neg (by simp[txn0]),he]
  simp only
  have e2:((H4.begin.setTx 2 { txn0 with shards:=setF txn0.shards ((1:Nat):Int) 1 }).tx 2)=t1:=q03 H4.begin.tx 2 t1
  rw[e2]
  rw[if_neg (by simp[t1,txn0,q0u])]
  unfold Hs.lockIn
  rw[hk]
  simp only
  have e3:((H4.begin.setTx 2 { txn0 with shards:=setF txn0.shards ((1:Nat):Int) 1 }).sh 1).tab=fun _=>none:=hT
  rw[e3]
  have e4:atT (fun _=>none) kA=k0:=rfl
  rw[e4,if_neg (by simp[k0,q0w]),if_pos (show freeB k0.h ((2:Nat):Int) 1 k0.ws=true from free_k0 2 1)]
  rfl
 unfold Hs.get
 rw[hl]
 simp only
 rw[if_neg (by simp)]
 have e1:Int.toNat 2=2:=rfl
 have e2:((H4.begin.setTx 2 t1).setSh 1 { H4.begin.sh 1 with tab:=lockT (fun _=>none) 2 kA 1 }).tx 2=t1:=q03 H4.begin.tx 2 t1
 rw[e1,e2,hk]
 have e3:t1.writes.reverse.find? (fun p=>sx p.key == kA)=none:=rfl
 rw[e3]
 simp only
 have e4:(((H4.begin.setTx 2 t1).setSh 1 { H4.begin.sh 1 with tab:=lockT (fun _=>none) 2 kA 1 }).sh 1).sto=stoA:=by
  rw[q0d];exact hS
 rw[e4]
 refine⟨?_,?_,?_⟩
 ·have e5:tellV (getV (stoA kA) 1099511627776)=([120],true):=rfl
  rw[e5]
 ·unfold Hs.state
  have e5:((H4.begin.setTx 2 t1).setSh 1 { H4.begin.sh 1 with tab:=lockT (fun _=>none) 2 kA 1 }).tx 1=H4.tx 1:=(q07 (f:=H4.begin.tx) (show(1:Nat)≠2 by omega) t1).trans ht1
  rw[if_neg (by show ¬((1:Int)<1∨(H4.begin.m:Int)<1);rw[hm];omega),show Int.toNat 1=1 from rfl,e5,h.tx]
  exact z1
 ·unfold Hs.state
  rw[if_neg (by show ¬((2:Int)<1∨(H4.begin.m:Int)<2);rw[hm];omega),e1,e2]
  rfl
def prV (x:Pr):Value:=.agg #[.string x.key,.string x.val,.bool x.gone]
theorem rflat:∀ (l:List (Pr)) (j:Nat) (x:Pr),l[j]? = some x→∀ i,i<3→(l.flatMap q0g)[j*3+i]? = (q0g x)[i]?
 | [],j,p,h,i,hi=>by simp at h
 | q::l,0,p,h,i,hi=>by
  simp at h
  subst h
  rw[List.flatMap_cons,List.getElem?_append_left (by show _<3;omega)]
  simp
 | q::l,j+1,p,h,i,hi=>by
  have h':l[j]? = some p:=by simpa using h
  have e:(j+1)*3+i=(j*3+i)+3:=by omega
  have e3:(q0g q).length=3:=rfl
  rw[e,List.flatMap_cons,List.getElem?_append_right (by rw[e3];omega),e3,Nat.add_sub_cancel]
  exact rflat l j p h' i hi
def rCells (w:World) (g o:Nat) (x:Pr):Prop:=w.cell? ⟨g,o,none⟩=some (.string x.key)∧w.cell? ⟨g,o+1,none⟩=some (.string x.val)∧w.cell? ⟨g,o+2,none⟩=some (.bool x.gone)
theorem rat {w:World} {B n j:Nat} {A:Option Addr} {l:List (Pr)} (h:Rd w B 3 A n (l.flatMap q0g)) (hl:l.length=n) (hj:j<n):∃ g off x,A=some ⟨g,off,none⟩∧g<B∧l[j]? = some x∧rCells w g (off+j*3) x:=by
 obtain⟨g,off,e,hb,hc⟩:=h.2 (by omega)
 have hx:l[j]? = some l[j]:=List.getElem?_eq_getElem (by omega)
 have hf:=rflat l j _ hx
 exact⟨g,off,l[j],e,hb,hx,hc (j*3) _ (hf 0 (by omega)),hc (j*3+1) _ (hf 1 (by omega)),hc (j*3+2) _ (hf 2 (by omega))⟩
def rPred (F:Nat) (lb:Array Value) (p:Pr→Bool) (g:Option Nat) (w:World):Prop:=
 ∀ (W:World) (x:Pr),Fr (fun k=>g=some k) w W→Calls Tryz.prog F (#[prV x]++lb) W fun e w'=>e=.returned (.bool (p x))∧Below W.heap.size W w'
def rIdx (p:Pr→Bool) (L:List (Pr)):Int:=match L.findIdx? p with|some i=>(i:Int)|none=>-1
theorem rIdx_lo (p:Pr→Bool) (L:List (Pr)):-1≤rIdx p L∧rIdx p L≤L.length:=by
 unfold rIdx
 rcases h:L.findIdx? p with _|i
 ·simp only;omega
 ·rw[List.findIdx?_eq_some_iff_getElem] at h
  obtain⟨hl,h1,_⟩:=h
  simp only;omega
def rIRel (p:Pr→Bool) (L:List (Pr)) (n:Nat) (w:World) (v:Value) (wr:World):Prop:=∃ j:Nat,v=.int .i64 j∧j≤n∧(∀ x∈L.take j,p x=false)∧Below w.heap.size w wr
theorem rbfr {g:Option Nat} {w W:World} (hb:Below w.heap.size w W):Fr (fun k=>g=some k) w W:=⟨hb.os,hb.tape,hb.output,hb.size,fun k hk _=>hb.block k hk⟩
theorem rindex_any (F:Nat) (lb:Array Value) (p:Pr→Bool) (gg:Option Nat) (A:Option Addr) (n k:Nat) (L:List (Pr)) (w:World) (eg:∀ args w,(callFunc F args).run Tryz.prog w=.ok (.enter F args) w)
  (hp:rPred F lb p gg w) (hr:Rd w w.heap.size 3 A n (L.flatMap q0g)) (hl:L.length=n) (hn:n≤100000) :
  Calls Tryz.prog 36 #[.slice A n k,.func (.func F) #[] lb] w fun e w'=>e=.returned (.int .i64 (rIdx p L))∧Below w.heap.size w w':=by
 have HR:=LH hr;clear hr
 have HP:=LH hp;clear hp
 go_enter Tryz.func36,Tryz.ntmps36
 go_wp2_with fail
 go_loopw [8] (rIRel p L n w) (fun v _=>n-(intOf v).toNat)
 case atStart=>exact⟨0,rfl,Nat.zero_le _,(fun x hx=>by simp at hx),Below.refl _ _⟩
 case round=>
  obtain⟨j,rfl,hj,hno,hbw⟩:=hrel
  by_cases hlt:(j:Int)<n
  ·obtain⟨g',o',x,rfl,hga,hx,h0,h1,h2⟩:=rat (HR.out.below hbw) hl (j:=j) (by omega)
   have hgw:g'<wr.heap.size:=Nat.lt_of_lt_of_le hga hbw.size
   have hcall:=HP.out wr x (rbfr hbw)
   have hjl:j<L.length:=by omega
   have hyes:p x=true→rIdx p L=j:=fun hp=>by
    have:L.findIdx? p=some j:=by
     rw[List.findIdx?_eq_some_iff_getElem]
     refine⟨hjl,?_,fun i hi=>?_⟩
     ·rw[← Option.some.inj ((List.getElem?_eq_getElem hjl).symm.trans hx)] at hp;exact hp
     ·simp only[Bool.not_eq_true]
      exact hno _ (by rw[List.mem_take_iff_getElem];exact⟨i,by omega,rfl⟩)
    unfold rIdx
    rw[this]
   have hstep:p x=false→∀ y∈L.take (j+1),p y=false:=fun hp y hy=>by
    rw[List.take_add_one,hx] at hy
    rcases List.mem_append.1 hy with hy|hy
    ·exact hno y hy
    ·simp at hy;rw[hy];exact hp
   have HYES:=LH hyes;clear hyes
   have HSTEP:=LH hstep;clear hstep
   have HNO:=LH hno;clear hno
   have HX:=LH hx;clear hx
   unfold prV at hcall
   rcases hp:p x with _|_
   ·rw[hp] at hcall
    have HPX:=LH hp;clear hp
    have HC:=LH hcall;clear hcall
    go_wp2_with fail
    refine HC.out.mono ?_
    rintro e w2 ⟨rfl,hb2⟩
    clear HC
    have HB2:=LH (hbw.trans (hb2.mono hbw.size));clear hb2
    go_wp2_with fail
    go_roundw
    case rel=>exact⟨j+1,rfl,by omega,HSTEP.out HPX.out,HB2.out⟩
    case measure=>simp[intOf];omega
   ·rw[hp] at hcall
    have HPX:=LH hp;clear hp
    have HC:=LH hcall;clear hcall
    go_wp2_with fail
    refine HC.out.mono ?_
    rintro e w2 ⟨rfl,hb2⟩
    clear HC
    have HB2:=LH (hbw.trans (hb2.mono hbw.size));clear hb2
    go_wp2_with fail
    go_ret
    exact⟨by rw[HYES.out HPX.out];rfl,HB2.out⟩
  ·obtain rfl:j=n:=by omega
   have hnone:rIdx p L = -1:=by
    have:L.findIdx? p=none:=by
     rw[List.findIdx?_eq_none_iff]
     intro x hx
     exact hno x (by rw[List.take_of_length_le (by omega)];exact hx)
    unfold rIdx
    rw[this]
   have HN:=LH hnone;clear hnone hno
   go_wp2_with fail
   go_ret
   rw[HN.out]
   exact⟨rfl,hbw⟩
section
variable {H:Hs} {id:Int} {i:Nat} {k:Sx} {mode:Int}
theorem lockIn_facts (h:Wf H) (hc:H.c=3) (h1:1≤i) (hi:i≤H.m) (hk:k∈names) (hw:q0u (H.tx i).wants k=false):Wf (H.lockIn i k mode).2∧Sz H (H.lockIn i k mode).2:=by
 have hs:q00 k<H.c:=by have:=q18 k;omega
 have w1:Wf (H.lkd i (q00 k) k mode):=h.lkd h1 hi hs hk
 have s1:Sz H (H.lkd i (q00 k) k mode):=⟨rfl,rfl,rfl⟩
 cases e1:q0w (atT (H.sh (q00 k)).tab k).ws i with
 | true=>rw[q41 e1];exact⟨w1,s1⟩
 | false=>
  cases e2:freeB (atT (H.sh (q00 k)).tab k).h i mode (atT (H.sh (q00 k)).tab k).ws with
  | true=>rw[q68 e1 e2];exact⟨w1,s1⟩
  | false=>
   by_cases e3:(atT (H.sh (q00 k)).tab k).ws.length=50
   ·rw[q4r e1 e2 e3];exact⟨w1,s1⟩
   ·rw[q40 e1 e2 e3]
    have w2:Wf ((H.lkd i (q00 k) k mode).wantd i k mode):=w1.wantd h1 hi hk hw
    exact⟨w2.woundd _ hc,Sz.trans (b:=(H.lkd i (q00 k) k mode).wantd i k mode) ⟨rfl,rfl,rfl⟩ (q39 _ _)⟩
theorem q4a (h:Wf H) (hc:H.c=3) (hk:k∈names):Wf (H.lock id k mode).2∧Sz H (H.lock id k mode).2:=by
 by_cases hb:id<1∨H.m<id
 ·rw[q1o hb];exact⟨h,Sz.refl _⟩
 ·obtain⟨i,rfl⟩:∃ i:Nat,id=i:=⟨id.toNat,by omega⟩
  have h1:1≤i:=by omega
  have hi:i≤H.m:=by omega
  have hkl:=q1n hk
  by_cases s1:(H.tx i).state=1
  ·by_cases h5:H.head (q00 k)=none
   ·rw[q7t h1 hi s1 hkl h5];exact⟨h,Sz.refl _⟩
   ·by_cases h6:q6m H i (q00 k)
    ·rw[q67 h1 hi s1 hkl h5 h6];exact⟨h.abort hc h1 hi,(q1d H i).1.sz⟩
    ·have w1:Wf (H.came i (q00 k)):=h.came h1 hi (q18 k)
     have s2:Sz H (H.came i (q00 k)):=⟨rfl,rfl,rfl⟩
     cases h7:q0u (H.tx i).wants k with
     | true=>rw[q65 h1 hi s1 hkl h5 h6 h7];exact⟨w1,s2⟩
     | false=>
      rw[lock_in h1 hi s1 hkl h5 h6 h7]
      obtain⟨a,b⟩:=lockIn_facts (mode:=mode) w1 hc h1 (show i≤(H.came i (q00 k)).m from hi) hk (by unfold Hs.came;rw[q2f];exact h7)
      exact⟨a,s2.trans b⟩
  ·rw[q66 h1 hi s1];exact⟨h,Sz.refl _⟩
theorem lock_zero (h:(H.lock id k mode).1=0):1≤id∧id≤H.m:=by
 by_cases hb:id<1∨H.m<id
 ·rw[q1o hb] at h;cases h
 ·omega
def keyP (k:ByteArray) (p:Pr):Bool:=p.key == k
theorem putPr_eq (l:List Pr) (p:Pr):putPr l p=if rIdx (keyP p.key) l<0 then(if l.length=20 then none else some (l++[p])) else some (l.set (rIdx (keyP p.key) l).toNat p):=by
 unfold putPr rIdx keyP
 cases l.findIdx? fun o=>o.key == p.key with
 | none=>rfl
 | some q=>simp only;rw[if_neg (by omega)];rfl
end
theorem beq_ba (a b:ByteArray):(a == b)=true↔a=b:=by
 cases a with
 | mk x=>
  cases b with
  | mk y=>
   show(x == y)=true↔_
   rw[beq_iff_eq]
   exact⟨fun h=>by rw[h],fun h=>by injection h⟩
theorem q8q (a b:ByteArray):(a.toList == b.toList)=(a == b):=by
 rw[Bool.eq_iff_iff,beq_iff_eq,beq_ba,q3t,q3t]
 exact⟨fun h=>by rw[← mk_sx a,← mk_sx b,h],fun h=>by rw[h]⟩
theorem put1_any (c:Nat) (k:ByteArray) (w:World) (h1:w.cell? ⟨c,0,none⟩=some (.string k)) :
  rPred 37 #[.pointer (some ⟨c,0,none⟩)] (keyP k) none w:=by
 intro W x hW
 have hl1:=World.block_lt_of_cell? w _ h1
 have k1:=(hW.cell (p:=⟨c,0,none⟩) hl1 (fun e=>nomatch e)).trans h1
 have l1:c<W.heap.size:=Nat.lt_of_lt_of_le hl1 hW.size
 have HBL:=LH (fun o=>(Below.refl W.heap.size W).alloc (Nat.le_refl _) o)
 clear h1 hl1 hW
 unfold prV
 show Calls _ _ #[_,_] _ fun e w'=>e=.returned (.bool (keyP k x))∧Below W.heap.size W w'
 cases d:(x.key == k) with
 | true=>
  rw[show keyP k x=true from d]
  have d2:(x.key.toList == k.toList)=true:=(q8q _ _).trans d
  go_enter Tryz.func37,Tryz.ntmps37
  go_wp2_with fail
  go_ret
  exact⟨rfl,HBL.out _⟩
 | false=>
  rw[show keyP k x=false from d]
  have d2:(x.key.toList == k.toList)=false:=(q8q _ _).trans d
  go_enter Tryz.func37,Tryz.ntmps37
  go_wp2_with fail
  go_ret
  exact⟨rfl,HBL.out _⟩
def PcRel (P:Ptr) (own own2:Own) (H:Hs) (kb:Nat) (k:Sx) (val:ByteArray) (gone:Bool) (w:World) (wx:World):Prop:=
 HI wx own2 P H∧HStep w own wx own2∧Blk wx kb 45 #[.string ⟨k.toArray⟩,.string (if gone then⟨#[]⟩ else val),.bool gone]
theorem put_no {H H2:Hs} {id:Int} {p:Pr} {er:Int} (hv:p.val.size≤40) (h:H.lock id (sx p.key) 2=(er,H2)) (he:er≠0):H.put id p=(er,H2):=by
 unfold Hs.put;rw[if_neg (by omega)];simp only[h];rw[if_pos he]
theorem put_yes {H H2:Hs} {id:Int} {p:Pr} (hv:p.val.size≤40) (h:H.lock id (sx p.key) 2=(0,H2)):H.put id p=match putPr (H2.tx id.toNat).writes ⟨p.key,if p.gone then⟨#[]⟩ else p.val,p.gone⟩ with
   | some l=>(0,H2.setTx id.toNat { H2.tx id.toNat with writes:=l })
   | none=>(4,H2):=by
 unfold Hs.put;rw[if_neg (by omega)];simp only[h];rw[if_neg (by simp)]
 rfl
theorem rIdx_lt (p:Pr→Bool) (L:List Pr):rIdx p L<0∨rIdx p L<L.length:=by
 unfold rIdx
 rcases hh:L.findIdx? p with _|i
 ·exact .inl (by simp)
 ·rw[List.findIdx?_eq_some_iff_getElem] at hh
  obtain⟨hl,_⟩:=hh
  exact .inr (by simp only;omega)
section
variable {w w':World} {own own':Own} {P:Ptr} {H:Hs}
theorem HI.fr0 {S:Nat→Prop} (h:HI w own P H) (hf:Fr S w w') (hn:∀ b,own b≠none→¬S b):HI w' own P H:=by
 have hs:∀ b t,own b=some t→¬S b:=fun b t e=>hn b (by rw[e];simp)
 refine⟨fun b hb=>Nat.lt_of_lt_of_le (h.lt b hb) hf.size,?_,fun s hsc=>?_,fun s j hsc hj=>?_,fun i h1 hi=>?_⟩
 ·obtain⟨v,h⟩:=h.hs
  exact⟨v,h.nt.frF hf (hs _ _ h.gt) (fun b hb=>hs b _ (h.nett b hb)),h.msgs,h.nett,h.few,hf.own h.shr (fun b hb=>hs b _ (h.shrt b hb)),h.shrt,hf.own h.txr (fun b hb=>hs b _ (h.txrt b hb)),h.txrt,h.gt⟩
 ·obtain⟨v,h⟩:=h.sh s hsc
  exact⟨v,hf.own h.row (fun b hb=>hs b _ (h.rowt b hb)),h.rowt,h.dd.fr hf (hs _ _ h.ddt),h.ddt,h.tab.fr hf (hs _ _ h.gt) (fun b hb=>hs b _ (h.tabt b hb)),h.tabt,h.sto.fr hf (fun b hb=>hb.elim (fun e=>e▸hs _ _ h.gt) (fun hb=>hs b _ (h.stot b hb))),h.stot,h.gt⟩
 ·obtain⟨C,V,L,h1,h2⟩:=h.nd s j hsc hj
  exact⟨C,V,L,h1.fr hf (fun b hb=>hs b _ (h2 b hb)),h2⟩
 ·obtain⟨v,h⟩:=h.tx i h1 hi
  exact⟨v,hf.blk h.blk (hs _ _ h.gt),hf.own h.writes (fun b hb=>hs b _ (h.wt b hb)),h.shards.fr hf (h.st.elim (hs _ _) (hs _ _)),h.places.fr hf (hs _ _ h.pt),hf.own h.wants (fun b hb=>hs b _ (h.xt b hb)),h.ne,h.gt,h.wt,h.st,h.pt,h.xt⟩
theorem hput_all (h:HI w own P H) (wf:Wf H) (hns:NoSm own) (hc:H.c=3) (id:Int) (k:Sx) (hk:k∈names) (val:ByteArray) (hv:val.size≤40) (gone:Bool):Calls Tryz.prog 12 #[pw P.g,.int .i64 id,.agg #[.string ⟨k.toArray⟩,.string val,.bool gone]] w (ErP P own w (H.put id ⟨⟨k.toArray⟩,val,gone⟩)):=by
 have hbx:Below w.heap.size w (w.alloc (.cells #[.string ⟨k.toArray⟩,.string val,.bool gone] 45)):=(Below.refl w.heap.size w).alloc (Nat.le_refl _) _
 have hbb:Blk (w.alloc (.cells #[.string ⟨k.toArray⟩,.string val,.bool gone] 45)) w.heap.size 45 #[.string ⟨k.toArray⟩,.string val,.bool gone]:=Blk.new w _ _
 have HZ1:=LH (HZ.below (Z:=StTag) own hbx)
 have HB1:=LH hbb
 have HN1:=LH (show own w.heap.size=none from h.free (Nat.le_refl _))
 have HLC:=LH (lock_any (h.below hbx) wf hns hc id k hk 2 (.inr rfl))
 have HNO:=LH (fun er H2 (e:H.lock id k 2=(er,H2)) he=>put_no (H:=H) (H2:=H2) (id:=id) (p:=⟨⟨k.toArray⟩,val,gone⟩) hv (by rw[sx_mk];exact e) he)
 have HYES:=LH (fun H2 (e:H.lock id k 2=(0,H2))=>put_yes (H:=H) (H2:=H2) (id:=id) (p:=⟨⟨k.toArray⟩,val,gone⟩) hv (by rw[sx_mk];exact e))
 have HLF:=LH (q4a (id:=id) (mode:=2) wf hc hk)
 have HLZ:=LH (fun e=>lock_zero (H:=H) (id:=id) (k:=k) (mode:=2) e)
 have q0:=hbb.cell 0
 have q1:=hbb.cell 1
 have q2:=hbb.cell 2
 have ql:=hbb.lt
 simp only[List.getElem?_toArray,List.getElem?_cons_zero,List.getElem?_cons_succ] at q0 q1 q2
 have hv1:¬(40:Int)<(val.size:Int):=by omega
 have hvn:(val.size:Int)≤40:=by omega
 clear h hbx hbb wf
 unfold pw at *
 go_enter Tryz.func12,Tryz.ntmps12
 go_upto_region 1 with (fail)
 generalize (w.alloc _)=w1 at *
 generalize hkw:w.heap.size=kb at *
 have HKW:=LH hkw
 clear hkw
 go_wp2_with fail
 refine HLC.out.mono ?_
 rintro e w2 ⟨rfl,own2,hI2,hZ2⟩
 have hkb:=q0v hZ2 HB1.out HN1.out
 have HB2:=LH hkb.1
 have HN2:=LH hkb.2
 have HZ2:=LH (HZ1.out.trans hZ2)
 have hlf:=HLF.out
 have hlz:=HLZ.out
 rcases hr:H.lock id k 2 with ⟨er,H2⟩
 rw[hr] at hI2 hlf hlz
 have hno:=HNO.out er H2 hr
 clear hkb hZ2 q0 q1 q2 ql HZ1 HB1 HLC HLF HLZ HNO
 by_cases he:er=0
 ·subst he
  obtain⟨hid1,hid2⟩:=hlz rfl
  have hyes:=HYES.out H2 hr
  obtain⟨i,rfl⟩:∃ i:Nat,id=i:=⟨id.toNat,by omega⟩
  have h1:1≤i:=by omega
  have hi:i≤H2.m:=by have:=hlf.2.m;show i≤H2.m;have e:H2.m=H.m:=this;omega
  rw[show lkV P i k 0=.tuple #[pw (P.gt i),pw (P.gs (q00 k)),.nilIface] from rfl]
  rw[show((i:Int)).toNat=i from rfl] at hyes
  have HYS:=LH hyes
  have HI2:=LH hI2
  have HW2:=LH hlf.1
  generalize H.put _ _=res at *
  unfold pw
  clear hr hlf hlz hid1 hid2 hyes hI2 hno HYES
  have b0:=HB2.out.cell 0
  have b1:=HB2.out.cell 1
  have b2:=HB2.out.cell 2
  have bl:=HB2.out.lt
  have bf:=HB2.out.frozen 1
  simp only[List.getElem?_toArray,List.getElem?_cons_zero,List.getElem?_cons_succ] at b0 b1 b2
  go_upto_if 29 with (fail)
  go_cut [] (fun wx=>PcRel P own own2 H2 kb k val gone w wx)
  case first=>
   cases gone with
   | true=>
    have hset:=Fr.set1 kb w2 1 (.string ⟨#[]⟩)
    have HP:=LH (show PcRel P own own2 H2 kb k val true w (w2.setCell ⟨kb,1,none⟩ (.string ⟨#[]⟩)) from⟨HI2.out.fr0 hset (fun b hb e=>hb (by rw[e];exact HN2.out)),⟨HZ2.out.ext,HZ2.out.fr.trans' hset (fun b hb (e:b=kb)=>by have:=HKW.out;omega),HZ2.out.sm⟩,HB2.out.set_ 1 _⟩)
    clear hset
    go_wp2_with fail
    go_meet
    exact HP.out
   | false=>
    have HP:=LH (show PcRel P own own2 H2 kb k val false w w2 from⟨HI2.out,HZ2.out,HB2.out⟩)
    go_wp2_with fail
    go_meet
    exact HP.out
  case rest=>
   obtain⟨hI3,hZ3,hB3⟩:=hcut
   clear b0 b1 b2 bl bf
   have b0:=hB3.cell 0
   have b1:=hB3.cell 1
   have b2:=hB3.cell 2
   have bl:=hB3.lt
   simp only[List.getElem?_toArray,List.getElem?_cons_zero,List.getElem?_cons_succ] at b0 b1 b2
   obtain⟨vt,hvt⟩:=hI3.tx i h1 hi
   obtain⟨_,_,m2,_,_,_,_,ml⟩:=hvt.cells
   obtain⟨A5,c5,hV5,_,_⟩:=q01 hvt.writes
   have hrow:=hvt.writes
   rw[hV5] at m2 hrow
   have hfew:=(HW2.out.tx i h1 hi).few
   have hix:=rindex_any 37 #[.pointer (some ⟨kb,0,none⟩)] (keyP ⟨k.toArray⟩) none A5 _ c5 (H2.tx i).writes wc (q1y Tryz.func37 (by kernel_rfl) rfl) (put1_any kb _ wc b0) (Rd.of_own hrow) rfl (by omega)
   have hys:=HYS.out
   rw[putPr_eq] at hys
   have hlo:=rIdx_lo (keyP ⟨k.toArray⟩) (H2.tx i).writes
   have HLT:=LH (rIdx_lt (keyP ⟨k.toArray⟩) (H2.tx i).writes)
   have HIX:=LH hix
   have HI3:=LH hI3
   have HZ3:=LH hZ3
   have HB3:=LH hB3
   have HV3:=LH hvt
   have HV5:=LH hV5
   clear hix hI3 hZ3 hB3 hvt hV5 hrow HYS HI2 HZ2 HB2
   have HYX:=LH hys
   clear hys b1 b2
   go_wp2_with fail
   refine HIX.out.mono ?_
   rintro e w4 ⟨rfl,hb4⟩
   have HI4:=LH (HI3.out.below hb4)
   have HZ4:=LH (HZ3.out.trans (HZ.below own2 hb4))
   have m4:=(hb4.cell (p:=⟨P.gt i,2,none⟩) ml).trans m2
   have ml4:=Nat.lt_of_lt_of_le ml hb4.size
   have HB4:=LH hb4
   clear m2 ml b0 bl hb4
   generalize rIdx (keyP ⟨k.toArray⟩) (H2.tx i).writes=z at *
   by_cases hz:z<0
   ·by_cases h20:(H2.tx i).writes.length=20
    ·have hys:=HYX.out
     rw[if_pos hz,if_pos h20] at hys
     have HR:=LH (show ErP P own w res (.returned (.iface 79 (.int .i64 4))) w4 from by rw[hys];exact⟨rfl,own2,HI4.out,HZ4.out⟩)
     rw[h20] at m4
     clear hys h20
     go_wp2_with fail
     go_ret
     exact HR.out
    ·have hne:(((H2.tx i).writes.length:Int) == 20)=false:=by simpa using (by omega:¬((H2.tx i).writes.length:Int)=20)
     have hys:=HYX.out
     rw[if_pos hz,if_neg h20] at hys
     have HRS:=LH hys
     generalize hval:(if gone=true then(⟨#[]⟩:ByteArray) else val)=val2 at *
     clear hval hys
     have hbx4:=(q06 HB4.out).blk HB3.out (fun hs=>by have:=HB3.out.lt;omega)
     have HBX4:=LH hbx4
     clear hbx4
     go_upto_region 14 with (fail)
     refine wp_region_any (by kernel_rfl) ?_
     change wpAny _ _ _ _ _ _ _ (World.drew _)
     refine q0e (fun W=>W.cell? ⟨P.gt i,2,none⟩=some (.slice A5 (H2.tx i).writes.length c5)∧W.cell? ⟨kb,0,none⟩=some (.string ⟨k.toArray⟩)∧W.cell? ⟨kb,1,none⟩=some (.string val2)∧W.cell? ⟨kb,2,none⟩=some (.bool gone)∧kb<W.heap.size) 8 (fun _ _ _ _ _ h=>h) (fun HQP=>?_)
     have HCC:w4.drew.cell? ⟨P.gt i,2,none⟩=some (.slice A5 (H2.tx i).writes.length c5)∧w4.drew.cell? ⟨kb,0,none⟩=some (.string ⟨k.toArray⟩)∧w4.drew.cell? ⟨kb,1,none⟩=some (.string val2)∧w4.drew.cell? ⟨kb,2,none⟩=some (.bool gone)∧kb<w4.drew.heap.size:=
      ⟨m4,(show Blk w4.drew _ _ _ from HBX4.out).cell 0,(show Blk w4.drew _ _ _ from HBX4.out).cell 1,(show Blk w4.drew _ _ _ from HBX4.out).cell 2,HBX4.out.lt⟩
     refine nA 0 [8,9,10] rfl rfl HQP HCC (fun w' hw'=>by go_simp;rfl) ?_
     refine nA 1 [2,3,4,7,8,9,10] rfl rfl HQP HCC (fun w' hw'=>by go_simp;rfl) ?_
     refine nA 2 [3,4,7,8,9,10] rfl rfl HQP HCC (fun w' hw'=>by go_simp;rfl) ?_
     refine nA 3 [4,7,8,9,10] rfl rfl HQP HCC (fun w' hw'=>by go_simp;rfl) ?_
     refine nA 4 [7,8,9,10] rfl rfl HQP HCC (fun w' hw'=>by obtain⟨p0,p1,p2,p3,pl⟩:=hw';go_simp;rfl) ?_
     refine nA 5 [6,7,8,9,10] rfl rfl HQP HCC (fun w' hw'=>by obtain⟨p0,p1,p2,p3,pl⟩:=hw';go_simp;rfl) ?_
     have hkeep:∀ o q p,q<w4.heap.size→(w4.alloc o).cell? ⟨q,p,none⟩=w4.cell? ⟨q,p,none⟩:=fun o q p hq=>World.cell?_alloc_lt w4 o ⟨q,p,none⟩ hq
     refine nO 6 rfl (fun KK hK=>?_)
     go_simp
     refine hK _ _ (fun _=>⟨(hkeep _ _ _ ml4).trans HCC.1,(hkeep _ _ _ HBX4.out.lt).trans HCC.2.1,(hkeep _ _ _ HBX4.out.lt).trans HCC.2.2.1,(hkeep _ _ _ HBX4.out.lt).trans HCC.2.2.2.1,by have:=HBX4.out.lt;simp;omega⟩) ?_
     clear hK KK HCC hkeep
     refine nO 7 rfl (fun KK hK=>?_)
     obtain⟨v4,hv4⟩:=HI4.out.tx i h1 hi
     have hc4:=hv4.cells.2.2.1
     rw[m4] at hc4
     injection hc4 with hc4
     have hrow4:=hv4.writes
     rw[← hc4] at hrow4
     refine q1g w4.drew w4.heap.size rfl _ (.tmp 57) (.tmp 59) 67 rfl 0 45 _ 3 40 Tryz.underlying67 pr_infoX rfl (by decide) _ _ _ #[.string ⟨k.toArray⟩,.string val2,.bool gone] rfl hrow4 1 rfl _ rfl rfl (by simp[Value.oneCell']) (by unfold maxLen;omega) (by omega) (Nat.zero_le _) ?_
     intro V2 w6 hrow6 hm6
     have hm6':Moved w4 w6 v4.Vw.ownBlock V2.ownBlock:=by rw[← hc4];exact⟨⟨hm6.1.os,hm6.1.tape,hm6.1.output,hm6.1.size,hm6.1.block⟩,hm6.2⟩
     obtain⟨own7,hI7,hZ7⟩:=HI4.out.pushWrite (i:=i) (x:=⟨⟨k.toArray⟩,val2,gone⟩) hv4 hm6' hrow6
     have hgV:¬some (P.gt i)=v4.Vw.ownBlock:=fun e=>hv4.rows_ne.1 e.symm
     have hxV:¬some kb=v4.Vw.ownBlock:=fun e=>by have:=hv4.wt kb e.symm;rw[HN2.out] at this;cases this
     have hg6:=hm6'.1.blk hv4.blk hgV
     have hk6:=hm6'.1.blk HBX4.out hxV
     have y1:=hg6.frozen 2
     have yl:=hg6.lt
     have y0:=hg6.cell 2
     unfold q28 at y0
     simp only[List.getElem?_toArray,List.getElem?_cons_zero,List.getElem?_cons_succ] at y0
     rw[← hc4] at y0
     have HC6:=LH (show w6.cell? ⟨P.gt i,2,none⟩=some (.slice A5 (H2.tx i).writes.length c5)∧w6.cell? ⟨kb,0,none⟩=some (.string ⟨k.toArray⟩)∧w6.cell? ⟨kb,1,none⟩=some (.string val2)∧w6.cell? ⟨kb,2,none⟩=some (.bool gone)∧kb<w6.heap.size from⟨y0,hk6.cell 0,hk6.cell 1,hk6.cell 2,hk6.lt⟩)
     have HR:=LH (show ErP P own w res (.returned .nilIface) (w6.setCell ⟨P.gt i,2,none⟩ V2) from by rw[HRS.out];exact⟨rfl,own7,hI7,HZ4.out.trans hZ7⟩)
     obtain⟨A7,c7,hV7,_,_⟩:=q01 hrow6
     subst hV7
     clear hm6 hm6' hgV hxV hg6 hk6 hI7 hZ7 hrow6 hrow4 hv4 hc4
     go_simp
     refine hK _ _ (fun _=>HC6.out) ?_
     clear hK KK
     refine nO 8 rfl (fun KK hK=>?_)
     go_simp
     refine hK _ _ (fun h=>absurd h (by decide)) ?_
     clear hK KK
     refine nO 9 rfl (fun KK hK=>?_)
     go_simp
     refine hK _ _ (fun h=>absurd h (by decide)) ?_
     clear hK KK
     refine nO 10 rfl (fun KK hK=>?_)
     go_simp
     refine hK _ _ (fun h=>absurd h (by decide)) ?_
     clear hK KK
     refine ndone (by kernel_rfl) ?_ _
     clear HQP y0 y1 yl HC6
     go_wp2_with fail
     go_ret
     exact HR.out
   ·have hys:=HYX.out
    rw[if_neg hz] at hys
    obtain⟨q,rfl⟩:∃ q:Nat,z=q:=⟨z.toNat,by omega⟩
    have hqlt:q<(H2.tx i).writes.length:=by have:=HLT.out;omega
    have HRS:=LH hys
    generalize hval:(if gone=true then(⟨#[]⟩:ByteArray) else val)=val2 at *
    clear hval hys
    have hbx4:=(q06 HB4.out).blk HB3.out (fun hs=>by have:=HB3.out.lt;omega)
    have HBX4:=LH hbx4
    clear hbx4
    go_upto_region 10 with (fail)
    refine wp_region_any (by kernel_rfl) ?_
    change wpAny _ _ _ _ _ _ _ (World.drew _)
    refine q0e (fun W=>W.cell? ⟨P.gt i,2,none⟩=some (.slice A5 (H2.tx i).writes.length c5)∧W.cell? ⟨kb,0,none⟩=some (.string ⟨k.toArray⟩)∧W.cell? ⟨kb,1,none⟩=some (.string val2)∧W.cell? ⟨kb,2,none⟩=some (.bool gone)∧kb<W.heap.size) 6 (fun _ _ _ _ _ h=>h) (fun HQP=>?_)
    have HCC:w4.drew.cell? ⟨P.gt i,2,none⟩=some (.slice A5 (H2.tx i).writes.length c5)∧w4.drew.cell? ⟨kb,0,none⟩=some (.string ⟨k.toArray⟩)∧w4.drew.cell? ⟨kb,1,none⟩=some (.string val2)∧w4.drew.cell? ⟨kb,2,none⟩=some (.bool gone)∧kb<w4.drew.heap.size:=
     ⟨m4,(show Blk w4.drew _ _ _ from HBX4.out).cell 0,(show Blk w4.drew _ _ _ from HBX4.out).cell 1,(show Blk w4.drew _ _ _ from HBX4.out).cell 2,HBX4.out.lt⟩
    refine nA 0 [1,2,3,6,7] rfl rfl HQP HCC (fun w' hw'=>by go_simp;rfl) ?_
    refine nA 1 [2,3,6,7] rfl rfl HQP HCC (fun w' hw'=>by go_simp;rfl) ?_
    refine nA 2 [3,6,7] rfl rfl HQP HCC (fun w' hw'=>by go_simp;rfl) ?_
    refine nA 3 [6,7] rfl rfl HQP HCC (fun w' hw'=>by obtain⟨p0,p1,p2,p3,pl⟩:=hw';go_simp;rfl) ?_
    refine nA 4 [6,7] rfl rfl HQP HCC (fun w' hw'=>by go_simp;rfl) ?_
    refine nA 5 [6,7] rfl rfl HQP HCC (fun w' hw'=>by obtain⟨p0,p1,p2,p3,pl⟩:=hw';go_simp;rfl) ?_
    have HB5:=LH (show Below w4.heap.size w4 w4.drew from⟨rfl,rfl,rfl,Nat.le_refl _,fun _ _=>rfl⟩)
    have HI5:=LH (HI4.out.below HB5.out)
    obtain⟨v4,hv4⟩:=HI5.out.tx i h1 hi
    have hc4:=hv4.cells.2.2.1
    rw[show w4.drew.cell? ⟨P.gt i,2,none⟩=_ from m4] at hc4
    injection hc4 with hc4
    have hrow4:=hv4.writes
    rw[← hc4] at hrow4
    obtain⟨g5,off5,x5,hA5,hg5,hx5,hr0,hr1,hr2⟩:=rat (Rd.of_own hrow4) rfl hqlt
    rcases hrow4.2 with ⟨hn1,hn2⟩|⟨g6,cap6,cur6,hs6,_,hb6,_⟩
    ·omega
    have hs7:=hs6
    rw[hA5] at hs7
    injection hs7 with hs7 _ hs8
    injection hs7 with hs7
    injection hs7 with hs7 hs9 _
    subst hs7 hs9 hs8 hA5
    have hfz:∀ o,w4.frozen? ⟨g5,o,none⟩=false:=fun o=>Blk.frozen (show Blk w4 g5 _ cur6 from hb6) o
    have hfz0:=hfz (q*3)
    have hfz1:=hfz (q*3+1)
    have hfz2:=hfz (q*3+2)
    rw[Nat.zero_add] at hr0 hr1 hr2
    replace hr0:w4.cell? ⟨g5,q*3,none⟩=some (.string x5.key):=hr0
    replace hr1:w4.cell? ⟨g5,q*3+1,none⟩=some (.string x5.val):=hr1
    replace hr2:w4.cell? ⟨g5,q*3+2,none⟩=some (.bool x5.gone):=hr2
    obtain⟨hI7,hZ7⟩:=HI5.out.setWrite h1 hi hv4 hc4.symm hqlt ⟨⟨k.toArray⟩,val2,gone⟩
    have HR:=LH (show ErP P own w res (.returned .nilIface) (rfill w4.drew g5 (q*3) ⟨⟨k.toArray⟩,val2,gone⟩) from by rw[HRS.out];exact⟨rfl,own2,hI7,(HZ4.out.trans (HZ.below own2 HB5.out)).trans hZ7⟩)
    clear hI7 hZ7 hrow4 hv4 hc4 hfz
    unfold rfill at HR
    refine nO 6 rfl (fun KK hK=>?_)
    go_simp
    refine hK _ _ (fun _=>HCC) ?_
    clear hK KK
    refine nO 7 rfl (fun KK hK=>?_)
    go_simp
    refine hK _ _ (fun h=>absurd h (by decide)) ?_
    clear hK KK
    refine ndone (by kernel_rfl) ?_ _
    clear HQP hr0 hr1 hr2 hfz0 hfz1 hfz2 HCC
    go_wp2_with fail
    go_ret
    exact HR.out
 ·have HR:=LH (show ErP P own w (H.put id ⟨⟨k.toArray⟩,val,gone⟩) (.returned (.iface 79 (.int .i64 er))) w2 from by rw[hno he];exact⟨by unfold erV;rw[if_neg he],own2,hI2,HZ2.out⟩)
  rw[show lkV P id k er=.tuple #[.pointer none,.pointer none,.iface 79 (.int .i64 er)] from by unfold lkV;rw[if_neg he]]
  clear hr hlf hlz hno hI2 he HYES
  go_wp2_with fail
  go_ret
  exact HR.out
end
section
open Go.RowKit Go.Shelf
attribute [local go_sem] Oper.semAt_some
def pr0:Pr:=⟨⟨#[]⟩,⟨#[]⟩,false⟩
def bwF (L:List Pr) (j:Nat):Int×Pr:=((L.length:Int)-1-j,L[L.length-1-j]?.getD pr0)
def bwL (L:List Pr) (k:Nat):List (Int×Pr):=(List.range k).map (bwF L)
theorem bwL_succ (L:List Pr) (k:Nat):bwL L (k+1)=bwL L k++[bwF L k]:=by simp[bwL,List.range_succ]
theorem bwL_len (L:List Pr) (k:Nat):(bwL L k).length=k:=by simp[bwL]
def bwE (x:Int×Pr):Array Value:=#[.int .i64 x.1,.agg #[.string x.2.key,.string x.2.val,.bool x.2.gone]]
def RCells (L:List Pr) (W:World) (b off:Nat):Prop:=∀ j x,L[j]? = some x→rCells W b (off+j*3) x
theorem bw1_in (F:Fence) (n:Nat) (hF:F.fn 71) (hro:F.round=none) (hn:1≤n) (l Bs n₀ b off cap:Nat) (L:List Pr) (hL:L.length≤1000) (hb:b<n₀) (J Jx:List (Int×Pr)→World→Prop)
  (hY:∀ pre x W,J pre W→pre.length<L.length→YieldAt F (n-1) Tryz.prog l (bwE x) W fun e W'=>
   (e=.returned (.bool true)∧J (pre++[x]) W'∧Below n₀ W W')∨(e=.returned (.bool false)∧Jx (pre++[x]) W'))
  (W:World) (hBl:Bs<n₀) (hBs:W.cell? ⟨Bs,0,none⟩=some (.slice (some ⟨b,off,none⟩) L.length cap)) (hc:RCells L W b off) (h0:J [] W) :
  CallsIn F n Tryz.prog 71 #[.func (.yield l) #[] #[],.pointer (some ⟨Bs,0,none⟩)] W fun e W'=>(∃ v,e=.returned v)∧
   ((∃ ys,ys=bwL L L.length∧J ys W')∨(∃ pre,(∃ k,k<L.length∧pre=bwL L (k+1))∧Jx pre W')):=by
 refine callsIn_of_wp Tryz.func71 rfl hF ?_ hro
 simp only[Tryz.ntmps71,List.size_toArray,List.length_cons,List.length_nil,Nat.reduceAdd,Nat.reduceSub,Array.replicate_succ,Array.replicate_zero,List.push_toArray,List.append_toArray,List.nil_append,List.cons_append]
 have hw0:IntKind.i64.wrap ((L.length:Int)-1)=(L.length:Int)-1:=IntWalk.i64_in _ ⟨by omega,by omega⟩
 gi_wp2
 gi_loopw [3] (fun i wr=>∃ k:Nat,k≤L.length∧i=.int .i64 ((L.length:Int)-1-k)∧J (bwL L k) wr∧Below n₀ W wr)
  (fun i _=>(intOf i+1).toNat)
 case atStart=>exact⟨0,Nat.zero_le _,by simp,h0,Below.refl _ _⟩
 case round=>
  obtain⟨k,hk,rfl,hJs,hnx⟩:=hrel
  have hBr:=(hnx.cell (p:=⟨Bs,0,none⟩) hBl).trans hBs
  by_cases hlt:k<L.length
  ·obtain⟨q,hq⟩:∃ q:Nat,(L.length:Int)-1-k=q:=⟨L.length-1-k,by omega⟩
   have hqn:q=L.length-1-k:=by omega
   have hql:q<L.length:=by omega
   have hx:L[q]? = some (L[L.length-1-k]?.getD pr0):=by rw[hqn,List.getElem?_eq_getElem (by omega)];rfl
   have hF0:bwF L k=(((q:Nat):Int),L[L.length-1-k]?.getD pr0):=by unfold bwF;rw[hq]
   obtain⟨fn,tmps,assign,body,hy,hR⟩:=hY _ (bwF L k) wr hJs (by rw[bwL_len];exact hlt)
   rw[← bwL_succ] at hR
   rw[hF0] at hy
   unfold bwE at hy
   dsimp only at hy
   generalize L[L.length-1-k]?.getD pr0=x at *
   obtain⟨g0,g1,g2⟩:=hc q x hx
   have c0:=(hnx.cell (p:=⟨b,off+q*3,none⟩) hb).trans g0
   have c1:=(hnx.cell (p:=⟨b,off+q*3+1,none⟩) hb).trans g1
   have c2:=(hnx.cell (p:=⟨b,off+q*3+2,none⟩) hb).trans g2
   have hw1:IntKind.i64.wrap ((q:Int)-1)=(q:Int)-1:=IntWalk.i64_in _ ⟨by omega,by omega⟩
   rw[hq]
   have HQ:=LH hq
   clear g0 g1 g2 hx hqn hq hF0
   gi_wp2
   refine hR.mono ?_
   rintro e W3 (⟨rfl,hJ3,hk3⟩|⟨rfl,hJx3⟩)
   ·gi_wp2
    go_roundw
    case rel=>exact⟨k+1,by omega,by have:=HQ.out;congr 1;omega,hJ3,hnx.trans hk3⟩
    case measure=>have:=HQ.out;simp only[intOf];omega
   ·gi_wp2
    refine bodyPost_ret (results_none rfl _ _ _) rfl ?_
    exact⟨⟨_,rfl⟩,.inr ⟨_,⟨k,hlt,rfl⟩,hJx3⟩⟩
  ·obtain rfl:k=L.length:=by omega
   gi_wp2
   go_end0
   exact⟨⟨_,rfl⟩,.inl ⟨_,rfl,hJs⟩⟩
theorem bw1_nil (F:Fence) (n:Nat) (hF:F.fn 71) (hro:F.round=none) (l Bs:Nat) (J:List (Int×Pr)→World→Prop) (W:World) (hBs:W.cell? ⟨Bs,0,none⟩=some (.slice none 0 0)) (h0:J [] W) :
  CallsIn F n Tryz.prog 71 #[.func (.yield l) #[] #[],.pointer (some ⟨Bs,0,none⟩)] W fun e W'=>(∃ v,e=.returned v)∧J [] W':=by
 refine callsIn_of_wp Tryz.func71 rfl hF ?_ hro
 simp only[Tryz.ntmps71,List.size_toArray,List.length_cons,List.length_nil,Nat.reduceAdd,Nat.reduceSub,Array.replicate_succ,Array.replicate_zero,List.push_toArray,List.append_toArray,List.nil_append,List.cons_append]
 gi_wp2
 gi_loopw [3] (fun i wr=>i=.int .i64 (-1)∧J [] wr) (fun _ _=>0)
 case atStart=>exact⟨by first|rfl|simp,h0⟩
 case round=>
  obtain⟨rfl,hJs⟩:=hrel
  gi_wp2
  go_end0
  exact⟨⟨_,rfl⟩,hJs⟩
theorem back_in (F:Fence) (n:Nat) (hF:F.fn 41) (hro:F.round=none) (a:Option Addr) (len cap:Nat) (w:World) :
  CallsIn F n Tryz.prog 41 #[.slice a len cap] w fun e w'=>e=.returned (.func (.func 71) #[] #[.pointer (some ⟨w.heap.size,0,none⟩)])∧w'=w.alloc (.cells #[.slice a len cap] 67):=by
 refine callsIn_of_wp Tryz.func41 rfl hF ?_ hro
 simp only[Tryz.ntmps41,List.size_toArray,List.length_cons,List.length_nil,Nat.reduceAdd,Nat.reduceSub,Array.replicate_succ,Array.replicate_zero,List.push_toArray,List.append_toArray,List.nil_append,List.cons_append]
 gi_wp2
 go_ret
 exact⟨rfl,rfl⟩
def RowB (n₀:Nat) (W:World) (A:Option Addr) (L:List Pr) (cap:Nat):Prop:=(A=none∧L=[]∧cap=0)∨∃ b off,A=some ⟨b,off,none⟩∧b<n₀∧RCells L W b off
theorem RCells.below {n₀:Nat} {A B:World} (h:Below n₀ A B) {L:List Pr} {b off:Nat} (hb:b<n₀) (hc:RCells L A b off):RCells L B b off:=fun j x hx=>by
 obtain⟨h0,h1,h2⟩:=hc j x hx
 exact⟨(h.cell (p:=⟨b,off+j*3,none⟩) hb).trans h0,(h.cell (p:=⟨b,off+j*3+1,none⟩) hb).trans h1,(h.cell (p:=⟨b,off+j*3+2,none⟩) hb).trans h2⟩
theorem bw_stops (F:Fence) (n:Nat) (hF:F.fn 71) (hro:F.round=none) (hn:1≤n) (Bs n₀ cap:Nat) (A:Option Addr) (L:List Pr) (hL:L.length≤1000) (w:World) (hBs:Bs<n₀) (hn₀:n₀≤w.heap.size)
  (hc:w.cell? ⟨Bs,0,none⟩=some (.slice A L.length cap)) (hR:RowB n₀ w A L cap) :
  SeqStopsK F n Tryz.prog 71 #[.pointer (some ⟨Bs,0,none⟩)] bwE (Below n₀) (fun ys=>ys=bwL L L.length) (fun pre=>∃ k,k<L.length∧pre=bwL L (k+1)) L.length w:=fun l J Jx W hW _ _ hY h0=>by
 have hc':=(hW.cell (p:=⟨Bs,0,none⟩) (by show Bs<w.heap.size;omega)).trans hc
 rcases hR with ⟨rfl,rfl,rfl⟩|⟨b,off,rfl,hb,hcs⟩
 ·exact(bw1_nil F n hF hro l Bs J W hc' h0).mono fun e W' ⟨he,hj⟩=>⟨he,.inl ⟨_,rfl,hj⟩⟩
 ·exact bw1_in F n hF hro hn l Bs n₀ b off cap L hL hb J Jx hY W hBs hc' (hcs.below (hW.mono hn₀) hb) h0
theorem bw_none {L:List Pr} {p:Pr→Bool} (h:∀ x∈bwL L L.length,p x.2=false):L.reverse.find? p=none:=by
 rw[List.find?_eq_none]
 intro x hx
 rw[List.mem_reverse] at hx
 obtain⟨j,hj,rfl⟩:=List.mem_iff_getElem.1 hx
 have:=h (bwF L (L.length-1-j)) (List.mem_map.2 ⟨L.length-1-j,List.mem_range.2 (by omega),rfl⟩)
 unfold bwF at this
 rw[show L.length-1-(L.length-1-j)=j by omega,List.getElem?_eq_getElem hj] at this
 simp at this
 simp[this]
theorem bw_some {L:List Pr} {p:Pr→Bool} {k:Nat} (hk:k<L.length) (h:∀ x∈bwL L k,p x.2=false) (hp:p (bwF L k).2=true):L.reverse.find? p=some (bwF L k).2:=by
 rw[List.find?_eq_some_iff_getElem]
 have he:∀ j,j<L.length→(bwF L j).2=L.reverse[j]?.getD pr0:=fun j hj=>by
  unfold bwF
  rw[List.getElem?_reverse hj]
 refine⟨hp,k,by simpa using hk,?_,fun j hj=>?_⟩
 ·rw[he k hk,List.getElem?_eq_getElem (by simpa using hk)];rfl
 ·have:=h (bwF L j) (List.mem_map.2 ⟨j,List.mem_range.2 hj,rfl⟩)
  rw[he j (by omega),List.getElem?_eq_getElem (by simp;omega)] at this
  simpa using this
end
section
open Go.RowKit Go.Shelf
attribute [local go_sem] Oper.semAt_some
theorem get_res {tmps:Array Value} {w:World} {a b c:Nat} {v1 v2 v3:Value} (h6:tmps.getD 6 undef=.pointer (some ⟨a,0,none⟩)) (h7:tmps.getD 7 undef=.pointer (some ⟨b,0,none⟩)) (h8:tmps.getD 8 undef=.pointer (some ⟨c,0,none⟩))
  (c1:w.cell? ⟨a,0,none⟩=some v1) (c2:w.cell? ⟨b,0,none⟩=some v2) (c3:w.cell? ⟨c,0,none⟩=some v3):(results Tryz.f18 tmps).run Tryz.prog w=.ok (.tuple #[v1,v2,v3]) w:=by
 have h:(Tryz.f18).results=#[.cell 6 9,.cell 7 4,.cell 8 41]:=by kernel_rfl
 simp only[Array.getD_eq_getD_getElem?] at h6 h7 h8
 simp only[results,h]
 simp[h6,h7,h8,loadVar,isAgg,underlying,Tryz.underlying9,Tryz.underlying4,Tryz.underlying41,c1,c2,c3,Result.andThen,asAddr,go_sem]
def noPanic (Q:Exit→Act→World→Prop) (e:Exit) (a:Act) (w:World):Prop:=Q e a w∧∀ c,e≠.panic c
theorem wp_noPanic {P:Program} {c:Code} {Q:Exit→Act→World→Prop} {a:Act} {w:World} (h:c.wp P (noPanic Q) a w):c.wp P Q a w:=Code.wp_mono (fun _ _ _ h=>h.1) h
def GIx (k:Sx) (kb:Nat) (w3:World) (pre:List (Int×Pr)) (W:World):Prop:=
 ∃ pre' x,pre=pre'++[x]∧(∀ y∈pre',(y.2.key.toList == k)=false)∧(x.2.key.toList == k)=true∧Fr (fun b=>(kb<b∧b<kb+4)∨w3.heap.size≤b) w3 W∧
  Blk W (kb+1) 9 #[.string x.2.val]∧Blk W (kb+2) 4 #[.bool (!x.2.gone)]∧Blk W (kb+3) 41 #[.nilIface]
def GetP (P:Ptr) (own:Own) (w:World) (r:(Int×Sx×Bool)×Hs) (e:Ending) (w':World):Prop:=e=.returned (.tuple #[.string ⟨r.1.2.1.toArray⟩,.bool r.1.2.2,erV r.1.1])∧GsP P own r.2 w w'
theorem get_no {H H2:Hs} {id:Int} {x:Sx} {er:Int} (h:H.lock id x 1=(er,H2)) (he:er≠0):H.get id x=((er,[],false),H2):=by
 unfold Hs.get;simp only[h];rw[if_pos he]
theorem get_own {H H2:Hs} {id:Int} {x:Sx} {p:Pr} (h:H.lock id x 1=(0,H2)) (hp:(H2.tx id.toNat).writes.reverse.find? (fun p=>sx p.key == x)=some p):H.get id x=((0,sx p.val,!p.gone),H2):=by
 unfold Hs.get;simp only[h];rw[if_neg (by simp),hp]
theorem get_sto {H H2:Hs} {id:Int} {x:Sx} (h:H.lock id x 1=(0,H2)) (hp:(H2.tx id.toNat).writes.reverse.find? (fun p=>sx p.key == x)=none):H.get id x=((0,tellV (getV ((H2.sh (q00 x)).sto x) 1099511627776)),H2):=by
 unfold Hs.get;simp only[h];rw[if_neg (by simp),hp]
section
variable {w w':World} {own own':Own} {P:Ptr} {H:Hs}
theorem hget_any {s:Nat} (h:HI w own P H) (hs:s<H.c) (k:Sx) (hk:k.length≤20) :
  Calls Tryz.prog 42 #[.pointer (some ⟨P.gs s,5,none⟩),.string ⟨k.toArray⟩,.int .i64 1099511627776] w (q8f (tellV (getV ((H.sh s).sto k) 1099511627776)) w):=by
 obtain⟨v,hv⟩:=h.sh s hs
 have:=get_any 0 100 (P.gs s) 5 _ _ v.ms v.locs (H.sh s).sto 0 ⟨k.toArray⟩ 1099511627776 w hv.sto (by omega) (by omega) (by show k.toArray.size≤maxLen;simp;unfold maxLen;omega) (by omega)
 rw[show sx ⟨k.toArray⟩=k from sx_mk k] at this
 exact this
theorem GsP.boxes {w2 W:World} {own2:Own} {H2:Hs} {g:Nat} (hI:HI w2 own2 P H2) (hz:HStep w own w2 own2) (hn:∀ j,j<4→own2 (g+j)=none) (hg:w.heap.size≤g) (hf:Fr (fun x=>(g<x∧x<g+4)∨w2.heap.size≤x) w2 W):GsP P own H2 w W:=
 ⟨own2,hI.fr0 hf (fun b hb e=>by
  rcases e with ⟨e1,e2⟩|e
  ·exact hb (by have:=hn (b-g) (by omega);rwa [show g+(b-g)=b by omega] at this)
  ·have:=hI.lt b hb;omega),hz.ext,hz.fr.trans' hf (fun b hb e=>by have:=hz.fr.size;rcases e with ⟨e1,e2⟩|e <;> omega),hz.sm⟩
theorem hget_all (h:HI w own P H) (wf:Wf H) (hns:NoSm own) (hc:H.c=3) (id:Int) (k:Sx) (hk:k∈names):Calls Tryz.prog 18 #[pw P.g,.int .i64 id,.string ⟨k.toArray⟩] w (GetP P own w (H.get id k)):=by
 have hbx:Below w.heap.size w ((((w.alloc (.cells #[.string ⟨k.toArray⟩] 9)).alloc (.cells #[.string ⟨#[]⟩] 9)).alloc (.cells #[.bool false] 4)).alloc (.cells #[.nilIface] 41)):=((((Below.refl w.heap.size w).alloc (Nat.le_refl _) _).alloc (by simp) _).alloc (by simp;omega) _).alloc (by simp;omega) _
 have hbl:Blk ((((w.alloc (.cells #[.string ⟨k.toArray⟩] 9)).alloc (.cells #[.string ⟨#[]⟩] 9)).alloc (.cells #[.bool false] 4)).alloc (.cells #[.nilIface] 41)) w.heap.size 9 #[.string ⟨k.toArray⟩]∧
   Blk ((((w.alloc (.cells #[.string ⟨k.toArray⟩] 9)).alloc (.cells #[.string ⟨#[]⟩] 9)).alloc (.cells #[.bool false] 4)).alloc (.cells #[.nilIface] 41)) (w.heap.size+1) 9 #[.string ⟨#[]⟩]∧
   Blk ((((w.alloc (.cells #[.string ⟨k.toArray⟩] 9)).alloc (.cells #[.string ⟨#[]⟩] 9)).alloc (.cells #[.bool false] 4)).alloc (.cells #[.nilIface] 41)) (w.heap.size+2) 4 #[.bool false]∧
   Blk ((((w.alloc (.cells #[.string ⟨k.toArray⟩] 9)).alloc (.cells #[.string ⟨#[]⟩] 9)).alloc (.cells #[.bool false] 4)).alloc (.cells #[.nilIface] 41)) (w.heap.size+3) 41 #[.nilIface]:=by
  have n0:=Blk.new w 9 #[.string ⟨k.toArray⟩]
  have n1:=Blk.new (w.alloc (.cells #[.string ⟨k.toArray⟩] 9)) 9 #[.string ⟨#[]⟩]
  have n2:=Blk.new ((w.alloc (.cells #[.string ⟨k.toArray⟩] 9)).alloc (.cells #[.string ⟨#[]⟩] 9)) 4 #[.bool false]
  have n3:=Blk.new (((w.alloc (.cells #[.string ⟨k.toArray⟩] 9)).alloc (.cells #[.string ⟨#[]⟩] 9)).alloc (.cells #[.bool false] 4)) 41 #[.nilIface]
  have fa:∀ (W:World) (o:Obj),Fr (fun _=>False) W (W.alloc o):=fun W o=>(Fr.refl _ W).alloc o
  rw[show(w.alloc (.cells #[.string ⟨k.toArray⟩] 9)).heap.size=w.heap.size+1 by simp] at n1
  rw[show((w.alloc (.cells #[.string ⟨k.toArray⟩] 9)).alloc (.cells #[.string ⟨#[]⟩] 9)).heap.size=w.heap.size+2 by simp] at n2
  rw[show(((w.alloc (.cells #[.string ⟨k.toArray⟩] 9)).alloc (.cells #[.string ⟨#[]⟩] 9)).alloc (.cells #[.bool false] 4)).heap.size=w.heap.size+3 by simp] at n3
  exact⟨(fa _ _).blk ((fa _ _).blk ((fa _ _).blk n0 (fun h=>h)) (fun h=>h)) (fun h=>h),(fa _ _).blk ((fa _ _).blk n1 (fun h=>h)) (fun h=>h),(fa _ _).blk n2 (fun h=>h),n3⟩
 have HB1:=LH hbl
 have HZ1:=LH (HZ.below (Z:=StTag) own hbx)
 have HN1:=LH (show ∀ j,own (w.heap.size+j)=none from fun j=>h.free (Nat.le_add_right _ _))
 have HLC:=LH (lock_any (h.below hbx) wf hns hc id k hk 1 (.inl rfl))
 have HNO:=LH (fun er H2 (e:H.lock id k 1=(er,H2)) he=>get_no (H:=H) (H2:=H2) (id:=id) (x:=k) e he)
 have HOWN:=LH (fun H2 p (e:H.lock id k 1=(0,H2)) hp=>get_own (H:=H) (H2:=H2) (id:=id) (x:=k) (p:=p) e hp)
 have HSTO:=LH (fun H2 (e:H.lock id k 1=(0,H2)) hp=>get_sto (H:=H) (H2:=H2) (id:=id) (x:=k) e hp)
 have HLF:=LH (q4a (id:=id) (mode:=1) wf hc hk)
 have HLZ:=LH (fun e=>lock_zero (H:=H) (id:=id) (k:=k) (mode:=1) e)
 have b0:=hbl.1.cell 0
 have bl:=hbl.1.lt
 simp only[List.getElem?_toArray,List.getElem?_cons_zero] at b0
 clear h hbx hbl wf
 unfold pw at *
 refine(callsIn_wide (n:=9)).1 ?_
 refine callsIn_of_wp_marks Tryz.func18 rfl trivial ?_ rfl
 simp only[Tryz.ntmps18,List.size_toArray,List.length_cons,List.length_nil,Nat.reduceAdd,Nat.reduceSub,Array.replicate_succ,Array.replicate_zero,List.push_toArray,List.append_toArray,List.nil_append,List.cons_append]
 refine wpIn_wide.2 ?_
 go_upto_region 1 with (fail)
 generalize (World.alloc _ _)=w1 at *
 generalize hkw:w.heap.size=kb at *
 have HKW:=LH hkw
 clear hkw
 go_wp2_with fail
 refine HLC.out.mono ?_
 rintro e w2 ⟨rfl,own2,hI2,hZ2⟩
 have k0:=q0v hZ2 HB1.out.1 (by simpa using HN1.out 0)
 have k1:=q0v hZ2 HB1.out.2.1 (HN1.out 1)
 have k2:=q0v hZ2 HB1.out.2.2.1 (HN1.out 2)
 have k3:=q0v hZ2 HB1.out.2.2.2 (HN1.out 3)
 have HZ2:=LH (HZ1.out.trans hZ2)
 have hlf:=HLF.out
 have hlz:=HLZ.out
 rcases hr:H.lock id k 1 with ⟨er,H2⟩
 rw[hr] at hI2 hlf hlz
 have hno:=HNO.out er H2 hr
 have KK0:=LH k0
 have KK1:=LH k1
 have KK2:=LH k2
 have KK3:=LH k3
 have d0:=k0.1.cell 0
 have d1:=k1.1.cell 0
 have d2:=k2.1.cell 0
 have d3:=k3.1.cell 0
 have e0:=k0.1.lt
 have e1:=k1.1.lt
 have e2:=k2.1.lt
 have e3:=k3.1.lt
 have f1:=k1.1.frozen 0
 have f2:=k2.1.frozen 0
 have f3:=k3.1.frozen 0
 simp only[List.getElem?_toArray,List.getElem?_cons_zero] at d0 d1 d2 d3
 have HI2:=LH hI2
 clear hI2 hZ2 k0 k1 k2 k3 b0 bl HZ1 HB1 HN1 HLC HLF HLZ HNO
 by_cases he:er=0
 ·subst he
  obtain⟨hid1,hid2⟩:=hlz rfl
  obtain⟨i,rfl⟩:∃ i:Nat,id=i:=⟨id.toNat,by omega⟩
  have h1:1≤i:=by omega
  have hi:i≤H2.m:=by have e:H2.m=H.m:=hlf.2.m;omega
  have hc2:H2.c=3:=hlf.2.c.trans hc
  have HOW:=LH (show ∀ p,(H2.tx i).writes.reverse.find? (fun p=>sx p.key == k)=some p→H.get i k=((0,sx p.val,!p.gone),H2) from fun p=>HOWN.out H2 p hr)
  have HST:=LH (show(H2.tx i).writes.reverse.find? (fun p=>sx p.key == k)=none→H.get i k=((0,tellV (getV ((H2.sh (q00 k)).sto k) 1099511627776)),H2) from HSTO.out H2 hr)
  rw[show lkV P i k 0=.tuple #[pw (P.gt i),pw (P.gs (q00 k)),.nilIface] from rfl]
  obtain⟨vt,hvt⟩:=HI2.out.tx i h1 hi
  obtain⟨_,_,m2,_,_,_,_,ml⟩:=hvt.cells
  obtain⟨A5,c5,hV5,hle5,hob5⟩:=q01 hvt.writes
  have hrow:=hvt.writes
  rw[hV5] at m2 hrow
  have hfew:=(hlf.1.tx i h1 hi).few
  have HRO:=LH hrow
  have HBK:=LH (callsIn_wide.1 (back_in Fence.wide 1 trivial rfl A5 (H2.tx i).writes.length c5 w2))
  generalize (H2.tx i).writes=L at *
  unfold pw
  clear hr hlf hlz hno HOWN HSTO hid1 hid2 hV5 hvt hrow hob5
  go_wp2_with fail
  refine HBK.out.mono ?_
  rintro e w3 ⟨rfl,rfl⟩
  have hb3:Below w2.heap.size w2 (w2.alloc (.cells #[.slice A5 L.length c5] 67)):=(Below.refl _ _).alloc (Nat.le_refl _) _
  have hbk3:Blk (w2.alloc (.cells #[.slice A5 L.length c5] 67)) w2.heap.size 67 #[.slice A5 L.length c5]:=Blk.new w2 _ _
  have hsz3:(w2.alloc (.cells #[.slice A5 L.length c5] 67)).heap.size=w2.heap.size+1:=by simp
  have hb1000:L.length≤1000:=by omega
  go_wp2_with fail
  generalize hA:({ tmps:=_,defers:=[] } : Act)=a0
  have HA:=LH hA
  have HB3:=LH hb3
  have hc3:=hbk3.cell 0
  simp only[List.getElem?_toArray,List.getElem?_cons_zero] at hc3
  have hrb:RowB (w2.heap.size+1) (w2.alloc (.cells #[.slice A5 L.length c5] 67)) A5 L c5:=by
   have hr3:=(q06 hb3).own HRO.out (fun b hb hs=>by have:=(HRO.out.lt b hb).2;omega)
   rcases hr3.2 with ⟨e,en⟩|⟨g,cap,cur,e,_,hg,hn,_,_,hcur⟩
   ·injection e with e1 _ e3
    exact .inl ⟨e1,List.eq_nil_of_length_eq_zero en,e3⟩
   ·injection e with e1 _ e3
    refine .inr ⟨g,0,e1,?_,fun j x hx=>?_⟩
    ·have:=(HRO.out.lt g (by rw[e1];rfl)).2;omega
    ·obtain⟨hj,_⟩:=List.getElem?_eq_some_iff.1 hx
     obtain⟨g',off,x',eA,_,hx',hcc⟩:=rat (Rd.of_own hr3) rfl hj
     rw[e1] at eA
     injection eA with eA
     injection eA with eA eB _
     subst eA eB
     rw[hx] at hx'
     injection hx' with hx'
     subst hx'
     exact hcc
  have KBX:=LH (show ∀ W,Below (w2.heap.size+1) (w2.alloc (.cells #[.slice A5 L.length c5] 67)) W→(W.cell? ⟨kb,0,none⟩=some (.string ⟨k.toArray⟩)∧kb<W.heap.size)∧Blk W (kb+1) 9 #[.string ⟨#[]⟩]∧Blk W (kb+2) 4 #[.bool false]∧Blk W (kb+3) 41 #[.nilIface] from fun W hW=>by
   have hF:=(q06 (hb3.trans (hW.mono (Nat.le_succ _))))
   have g0:=hF.blk KK0.out.1 (by omega)
   have c0:=g0.cell 0
   simp only[List.getElem?_toArray,List.getElem?_cons_zero] at c0
   exact⟨⟨c0,g0.lt⟩,hF.blk KK1.out.1 (by omega),hF.blk KK2.out.1 (by omega),hF.blk KK3.out.1 (by omega)⟩)
  generalize hw3:w2.alloc (.cells #[.slice A5 L.length c5] 67)=w3 at *
  rw[← hsz3] at hrb KBX
  have HSZ:=LH hsz3
  clear hA hw3 hbk3 hb3
  refine(wpIn_wide (n:=9)).1 ?_
  refine wpIn_rangeFunc_ownH (F:=Fence.wide) rfl (by omega) (gf:=71) (lb:=#[.pointer (some ⟨w2.heap.size,0,none⟩)]) (by rw[← HA.out];rfl) trivial (enters_of Tryz.func71 (by kernel_rfl) rfl)
   (bw_stops Fence.wide 8 trivial rfl (by omega) w2.heap.size w3.heap.size c5 A5 L hb1000 w3 (by rw[hsz3];omega) (Nat.le_refl _) hc3 hrb) belowK_t (belowK_b (Nat.le_refl _)) (Below.refl _ _) (fun _=>rfl)
   (fun pre W=>(∀ x∈pre,(x.2.key.toList == k)=false)∧Below w3.heap.size w3 W)
   (fun c pre W=>c=Code.ret∧GIx k kb w3 pre W)
   ?hI ?hIx ⟨fun x hx=>(by cases hx),Below.refl _ _⟩
   (fun x a' W=>∃ Bx,w3.heap.size≤Bx∧Blk W Bx 45 #[.string x.2.key,.string x.2.val,.bool x.2.gone]∧a' = { tmps:=((a0.tmps.setIfInBounds 30 (.int .i64 x.1)).setIfInBounds 31 (.agg #[.string x.2.key,.string x.2.val,.bool x.2.gone])).setIfInBounds 13 (.pointer (some ⟨Bx,0,none⟩)),defers:=[] })
   ?hAx ?assign ?body ?done ?stop
  case hI=>exact OwnFrom.and (fun s A B row hs hg hr=>hs) (ownFrom_below (Nat.le_refl _) (Nat.le_refl _))
  case hIx=>
   rintro c s A B row ⟨rfl,pre',x,h1,h2,h3,h4,h5,h6,h7⟩ hg hr
   have hF:Fr (fun b=>w3.heap.size≤b) A B:=Fr.of_grown hg (fun r e=>(hr r e).1)
   have hlt:kb+3<w3.heap.size:=by have:=HSZ.out;omega
   exact⟨rfl,pre',x,h1,h2,h3,h4.trans' hF (fun b _ e=>.inr e),hF.blk h5 (by omega),hF.blk h6 (by omega),hF.blk h7 (by omega)⟩
  case hAx=>
   rintro x a' u A B row ⟨Bx,h1,h2,h3⟩ hg hr
   refine⟨Bx,h1,?_,h3⟩
   have hF:Fr (fun b=>row=some b) A B:=Fr.of_grown hg (fun r e=>e)
   refine hF.blk h2 (fun e=>?_)
   obtain⟨_,o,ho,hn⟩:=hr Bx e
   rw[show A.heap[Bx]? = _ from h2] at ho
   injection ho with ho
   rw[← ho] at hn
   cases hn
  case assign=>
   rintro l pre x W K ⟨hp,hb⟩ hK
   rw[← HA.out]
   unfold bwE
   have hnb:=Blk.new W 45 #[.string x.2.key,.string x.2.val,.bool x.2.gone]
   rw[← HA.out] at hK
   gi_wp2
   exact hK _ _ ((KeepsOthers.alloc _ _).from _) ((Below.refl _ W).alloc hb.size _) ⟨hp,hb.alloc hb.size _⟩ ⟨W.heap.size,hb.size,hnb,rfl⟩
  case body=>
   rintro l pre x a' W hl hlr ⟨hp,hb⟩ ⟨Bx,hBx,hbl,rfl⟩ hlen
   obtain⟨⟨k0c,k0l⟩,k1b,k2b,k3b⟩:=KBX.out W hb
   have p0:=hbl.cell 0
   have p1:=hbl.cell 1
   have p2:=hbl.cell 2
   have pl:=hbl.lt
   simp only[List.getElem?_toArray,List.getElem?_cons_zero,List.getElem?_cons_succ] at p0 p1 p2
   rw[← HA.out]
   cases hkx:(x.2.key.toList == k) with
   | false=>
    gi_wp2
    refine⟨(KeepsOthers.refl _).from _,Below.refl _ _,fun y hy=>?_,hb⟩
    rcases List.mem_append.1 hy with hy|hy
    ·exact hp y hy
    ·rw[List.mem_singleton.1 hy];exact hkx
   | true=>
    have u1:=k1b.cell 0
    have u2:=k2b.cell 0
    have u3:=k3b.cell 0
    have v1:=k1b.frozen 0
    have v2:=k2b.frozen 0
    have v3:=k3b.frozen 0
    simp only[List.getElem?_toArray,List.getElem?_cons_zero] at u1 u2 u3
    have hlt:kb+3<w3.heap.size:=by have:=HSZ.out;omega
    have FIN:=LH (show KeepsFrom w3.heap.size W (((W.setCell ⟨kb+1,0,none⟩ (.string x.2.val)).setCell ⟨kb+2,0,none⟩ (.bool (!x.2.gone))).setCell ⟨kb+3,0,none⟩ .nilIface).drew∧Code.ret=Code.ret∧GIx k kb w3 (pre++[x]) (((W.setCell ⟨kb+1,0,none⟩ (.string x.2.val)).setCell ⟨kb+2,0,none⟩ (.bool (!x.2.gone))).setCell ⟨kb+3,0,none⟩ .nilIface).drew from by
     refine⟨((((KeepsOthers.setCell _ _ _).trans (KeepsOthers.setCell _ _ _)).trans (KeepsOthers.setCell _ _ _)).trans (KeepsOthers.drew _)).from _,rfl,pre,x,rfl,hp,hkx,?_,?_,?_,?_⟩
     ·exact(((((q06 hb).mono (T:=fun b=>(kb<b∧b<kb+4)∨w3.heap.size≤b) (fun i _ h=>.inr h)).setCell (p:=⟨kb+1,0,none⟩) (.inl (.inl ⟨by show kb<kb+1;omega,by show kb+1<kb+4;omega⟩)) _).setCell (p:=⟨kb+2,0,none⟩) (.inl (.inl ⟨by show kb<kb+2;omega,by show kb+2<kb+4;omega⟩)) _).setCell (p:=⟨kb+3,0,none⟩) (.inl (.inl ⟨by show kb<kb+3;omega,by show kb+3<kb+4;omega⟩)) _).drew
     ·exact(Fr.set1 (kb+3) _ 0 _).blk ((Fr.set1 (kb+2) _ 0 _).blk (k1b.set_ 0 (.string x.2.val)) (by omega)) (by omega)
     ·exact(Fr.set1 (kb+3) _ 0 _).blk (((Fr.set1 (kb+1) _ 0 _).blk k2b (by omega)).set_ 0 (.bool (!x.2.gone))) (by omega)
     ·exact((Fr.set1 (kb+2) _ 0 _).blk ((Fr.set1 (kb+1) _ 0 _).blk k3b (by omega)) (by omega)).set_ 0 .nilIface)
    gi_wp2
    refine wpIn_region_any (by kernel_rfl) ?_
    change wpAnyIn _ _ _ _ _ _ _ _ _ (World.drew _)
    refine wpAnyIn_ready (rs:=[0,2]) (by kernel_rfl) (by simp) ?_
    refine AllReadyIn.cons rfl (fun K hK=>?_) ?_
    ·go_simp
     refine hK _ _ ?_
     clear hK K
     refine wpAnyIn_ready (rs:=[1,2]) (by kernel_rfl) (by simp) ?_
     refine AllReadyIn.cons rfl (fun K hK=>?_) ?_
     ·go_simp
      refine hK _ _ ?_
      clear hK K
      refine wpAnyIn_ready (rs:=[2,5]) (by kernel_rfl) (by simp) ?_
      refine AllReadyIn.cons rfl (fun K hK=>?_) ?_
      ·go_simp
       refine hK _ _ ?_
       clear hK K
       refine wpAnyIn_ready (rs:=[3,5]) (by kernel_rfl) (by simp) ?_
       refine AllReadyIn.cons rfl (fun K hK=>?_) ?_
       ·go_simp
        refine hK _ _ ?_
        clear hK K
        refine wpAnyIn_ready (rs:=[4,5]) (by kernel_rfl) (by simp) ?_
        refine AllReadyIn.cons rfl (fun K hK=>?_) ?_
        ·go_simp
         refine hK _ _ ?_
         clear hK K
         refine wpAnyIn_ready (rs:=[5]) (by kernel_rfl) (by simp) ?_
         refine AllReadyIn.cons rfl (fun K hK=>?_) ?_
         ·go_simp
          refine hK _ _ ?_
          clear hK K
          refine wpAnyIn_ready (rs:=[6]) (by kernel_rfl) (by simp) ?_
          refine AllReadyIn.cons rfl (fun K hK=>?_) ?_
          ·go_simp
           refine hK _ _ ?_
           clear hK K
           refine wpAnyIn_ready (rs:=[7]) (by kernel_rfl) (by simp) ?_
           refine AllReadyIn.cons rfl (fun K hK=>?_) ?_
           ·go_simp
            refine hK _ _ ?_
            clear hK K
            refine wpAnyIn_done (by kernel_rfl) ?_ _
            gi_wp2
            exact⟨FIN.out.1,rfl,FIN.out.2.2⟩
           exact AllReadyIn.nil
          exact AllReadyIn.nil
         exact AllReadyIn.nil
        refine AllReadyIn.cons rfl (fun K hK=>?_) ?_
        ·go_simp
         refine hK _ _ ?_
         clear hK K
         refine wpAnyIn_ready (rs:=[4]) (by kernel_rfl) (by simp) ?_
         refine AllReadyIn.cons rfl (fun K hK=>?_) ?_
         ·go_simp
          refine hK _ _ ?_
          clear hK K
          refine wpAnyIn_ready (rs:=[6]) (by kernel_rfl) (by simp) ?_
          refine AllReadyIn.cons rfl (fun K hK=>?_) ?_
          ·go_simp
           refine hK _ _ ?_
           clear hK K
           refine wpAnyIn_ready (rs:=[7]) (by kernel_rfl) (by simp) ?_
           refine AllReadyIn.cons rfl (fun K hK=>?_) ?_
           ·go_simp
            refine hK _ _ ?_
            clear hK K
            refine wpAnyIn_done (by kernel_rfl) ?_ _
            gi_wp2
            exact⟨FIN.out.1,rfl,FIN.out.2.2⟩
           exact AllReadyIn.nil
          exact AllReadyIn.nil
         exact AllReadyIn.nil
        exact AllReadyIn.nil
       refine AllReadyIn.cons rfl (fun K hK=>?_) ?_
       ·go_simp
        refine hK _ _ ?_
        clear hK K
        refine wpAnyIn_ready (rs:=[3]) (by kernel_rfl) (by simp) ?_
        refine AllReadyIn.cons rfl (fun K hK=>?_) ?_
        ·go_simp
         refine hK _ _ ?_
         clear hK K
         refine wpAnyIn_ready (rs:=[4]) (by kernel_rfl) (by simp) ?_
         refine AllReadyIn.cons rfl (fun K hK=>?_) ?_
         ·go_simp
          refine hK _ _ ?_
          clear hK K
          refine wpAnyIn_ready (rs:=[6]) (by kernel_rfl) (by simp) ?_
          refine AllReadyIn.cons rfl (fun K hK=>?_) ?_
          ·go_simp
           refine hK _ _ ?_
           clear hK K
           refine wpAnyIn_ready (rs:=[7]) (by kernel_rfl) (by simp) ?_
           refine AllReadyIn.cons rfl (fun K hK=>?_) ?_
           ·go_simp
            refine hK _ _ ?_
            clear hK K
            refine wpAnyIn_done (by kernel_rfl) ?_ _
            gi_wp2
            exact⟨FIN.out.1,rfl,FIN.out.2.2⟩
           exact AllReadyIn.nil
          exact AllReadyIn.nil
         exact AllReadyIn.nil
        exact AllReadyIn.nil
       exact AllReadyIn.nil
      refine AllReadyIn.cons rfl (fun K hK=>?_) ?_
      ·go_simp
       refine hK _ _ ?_
       clear hK K
       refine wpAnyIn_ready (rs:=[2]) (by kernel_rfl) (by simp) ?_
       refine AllReadyIn.cons rfl (fun K hK=>?_) ?_
       ·go_simp
        refine hK _ _ ?_
        clear hK K
        refine wpAnyIn_ready (rs:=[3]) (by kernel_rfl) (by simp) ?_
        refine AllReadyIn.cons rfl (fun K hK=>?_) ?_
        ·go_simp
         refine hK _ _ ?_
         clear hK K
         refine wpAnyIn_ready (rs:=[4]) (by kernel_rfl) (by simp) ?_
         refine AllReadyIn.cons rfl (fun K hK=>?_) ?_
         ·go_simp
          refine hK _ _ ?_
          clear hK K
          refine wpAnyIn_ready (rs:=[6]) (by kernel_rfl) (by simp) ?_
          refine AllReadyIn.cons rfl (fun K hK=>?_) ?_
          ·go_simp
           refine hK _ _ ?_
           clear hK K
           refine wpAnyIn_ready (rs:=[7]) (by kernel_rfl) (by simp) ?_
           refine AllReadyIn.cons rfl (fun K hK=>?_) ?_
           ·go_simp
            refine hK _ _ ?_
            clear hK K
            refine wpAnyIn_done (by kernel_rfl) ?_ _
            gi_wp2
            exact⟨FIN.out.1,rfl,FIN.out.2.2⟩
           exact AllReadyIn.nil
          exact AllReadyIn.nil
         exact AllReadyIn.nil
        exact AllReadyIn.nil
       exact AllReadyIn.nil
      exact AllReadyIn.nil
     refine AllReadyIn.cons rfl (fun K hK=>?_) ?_
     ·go_simp
      refine hK _ _ ?_
      clear hK K
      refine wpAnyIn_ready (rs:=[1,3]) (by kernel_rfl) (by simp) ?_
      refine AllReadyIn.cons rfl (fun K hK=>?_) ?_
      ·go_simp
       refine hK _ _ ?_
       clear hK K
       refine wpAnyIn_ready (rs:=[3,5]) (by kernel_rfl) (by simp) ?_
       refine AllReadyIn.cons rfl (fun K hK=>?_) ?_
       ·go_simp
        refine hK _ _ ?_
        clear hK K
        refine wpAnyIn_ready (rs:=[4,5]) (by kernel_rfl) (by simp) ?_
        refine AllReadyIn.cons rfl (fun K hK=>?_) ?_
        ·go_simp
         refine hK _ _ ?_
         clear hK K
         refine wpAnyIn_ready (rs:=[5]) (by kernel_rfl) (by simp) ?_
         refine AllReadyIn.cons rfl (fun K hK=>?_) ?_
         ·go_simp
          refine hK _ _ ?_
          clear hK K
          refine wpAnyIn_ready (rs:=[6]) (by kernel_rfl) (by simp) ?_
          refine AllReadyIn.cons rfl (fun K hK=>?_) ?_
          ·go_simp
           refine hK _ _ ?_
           clear hK K
           refine wpAnyIn_ready (rs:=[7]) (by kernel_rfl) (by simp) ?_
           refine AllReadyIn.cons rfl (fun K hK=>?_) ?_
           ·go_simp
            refine hK _ _ ?_
            clear hK K
            refine wpAnyIn_done (by kernel_rfl) ?_ _
            gi_wp2
            exact⟨FIN.out.1,rfl,FIN.out.2.2⟩
           exact AllReadyIn.nil
          exact AllReadyIn.nil
         exact AllReadyIn.nil
        refine AllReadyIn.cons rfl (fun K hK=>?_) ?_
        ·go_simp
         refine hK _ _ ?_
         clear hK K
         refine wpAnyIn_ready (rs:=[4]) (by kernel_rfl) (by simp) ?_
         refine AllReadyIn.cons rfl (fun K hK=>?_) ?_
         ·go_simp
          refine hK _ _ ?_
          clear hK K
          refine wpAnyIn_ready (rs:=[6]) (by kernel_rfl) (by simp) ?_
          refine AllReadyIn.cons rfl (fun K hK=>?_) ?_
          ·go_simp
           refine hK _ _ ?_
           clear hK K
           refine wpAnyIn_ready (rs:=[7]) (by kernel_rfl) (by simp) ?_
           refine AllReadyIn.cons rfl (fun K hK=>?_) ?_
           ·go_simp
            refine hK _ _ ?_
            clear hK K
            refine wpAnyIn_done (by kernel_rfl) ?_ _
            gi_wp2
            exact⟨FIN.out.1,rfl,FIN.out.2.2⟩
           exact AllReadyIn.nil
          exact AllReadyIn.nil
         exact AllReadyIn.nil
        exact AllReadyIn.nil
       refine AllReadyIn.cons rfl (fun K hK=>?_) ?_
       ·go_simp
        refine hK _ _ ?_
        clear hK K
        refine wpAnyIn_ready (rs:=[3]) (by kernel_rfl) (by simp) ?_
        refine AllReadyIn.cons rfl (fun K hK=>?_) ?_
        ·go_simp
         refine hK _ _ ?_
         clear hK K
         refine wpAnyIn_ready (rs:=[4]) (by kernel_rfl) (by simp) ?_
         refine AllReadyIn.cons rfl (fun K hK=>?_) ?_
         ·go_simp
          refine hK _ _ ?_
          clear hK K
          refine wpAnyIn_ready (rs:=[6]) (by kernel_rfl) (by simp) ?_
          refine AllReadyIn.cons rfl (fun K hK=>?_) ?_
          ·go_simp
           refine hK _ _ ?_
           clear hK K
           refine wpAnyIn_ready (rs:=[7]) (by kernel_rfl) (by simp) ?_
           refine AllReadyIn.cons rfl (fun K hK=>?_) ?_
           ·go_simp
            refine hK _ _ ?_
            clear hK K
            refine wpAnyIn_done (by kernel_rfl) ?_ _
            gi_wp2
            exact⟨FIN.out.1,rfl,FIN.out.2.2⟩
           exact AllReadyIn.nil
          exact AllReadyIn.nil
         exact AllReadyIn.nil
        exact AllReadyIn.nil
       exact AllReadyIn.nil
      refine AllReadyIn.cons rfl (fun K hK=>?_) ?_
      ·go_simp
       refine hK _ _ ?_
       clear hK K
       refine wpAnyIn_ready (rs:=[1,4]) (by kernel_rfl) (by simp) ?_
       refine AllReadyIn.cons rfl (fun K hK=>?_) ?_
       ·go_simp
        refine hK _ _ ?_
        clear hK K
        refine wpAnyIn_ready (rs:=[4,5]) (by kernel_rfl) (by simp) ?_
        refine AllReadyIn.cons rfl (fun K hK=>?_) ?_
        ·go_simp
         refine hK _ _ ?_
         clear hK K
         refine wpAnyIn_ready (rs:=[5]) (by kernel_rfl) (by simp) ?_
         refine AllReadyIn.cons rfl (fun K hK=>?_) ?_
         ·go_simp
          refine hK _ _ ?_
          clear hK K
          refine wpAnyIn_ready (rs:=[6]) (by kernel_rfl) (by simp) ?_
          refine AllReadyIn.cons rfl (fun K hK=>?_) ?_
          ·go_simp
           refine hK _ _ ?_
           clear hK K
           refine wpAnyIn_ready (rs:=[7]) (by kernel_rfl) (by simp) ?_
           refine AllReadyIn.cons rfl (fun K hK=>?_) ?_
           ·go_simp
            refine hK _ _ ?_
            clear hK K
            refine wpAnyIn_done (by kernel_rfl) ?_ _
            gi_wp2
            exact⟨FIN.out.1,rfl,FIN.out.2.2⟩
           exact AllReadyIn.nil
          exact AllReadyIn.nil
         exact AllReadyIn.nil
        refine AllReadyIn.cons rfl (fun K hK=>?_) ?_
        ·go_simp
         refine hK _ _ ?_
         clear hK K
         refine wpAnyIn_ready (rs:=[4]) (by kernel_rfl) (by simp) ?_
         refine AllReadyIn.cons rfl (fun K hK=>?_) ?_
         ·go_simp
          refine hK _ _ ?_
          clear hK K
          refine wpAnyIn_ready (rs:=[6]) (by kernel_rfl) (by simp) ?_
          refine AllReadyIn.cons rfl (fun K hK=>?_) ?_
          ·go_simp
           refine hK _ _ ?_
           clear hK K
           refine wpAnyIn_ready (rs:=[7]) (by kernel_rfl) (by simp) ?_
           refine AllReadyIn.cons rfl (fun K hK=>?_) ?_
           ·go_simp
            refine hK _ _ ?_
            clear hK K
            refine wpAnyIn_done (by kernel_rfl) ?_ _
            gi_wp2
            exact⟨FIN.out.1,rfl,FIN.out.2.2⟩
           exact AllReadyIn.nil
          exact AllReadyIn.nil
         exact AllReadyIn.nil
        exact AllReadyIn.nil
       refine AllReadyIn.cons rfl (fun K hK=>?_) ?_
       ·go_simp
        refine hK _ _ ?_
        clear hK K
        refine wpAnyIn_ready (rs:=[1]) (by kernel_rfl) (by simp) ?_
        refine AllReadyIn.cons rfl (fun K hK=>?_) ?_
        ·go_simp
         refine hK _ _ ?_
         clear hK K
         refine wpAnyIn_ready (rs:=[5]) (by kernel_rfl) (by simp) ?_
         refine AllReadyIn.cons rfl (fun K hK=>?_) ?_
         ·go_simp
          refine hK _ _ ?_
          clear hK K
          refine wpAnyIn_ready (rs:=[6]) (by kernel_rfl) (by simp) ?_
          refine AllReadyIn.cons rfl (fun K hK=>?_) ?_
          ·go_simp
           refine hK _ _ ?_
           clear hK K
           refine wpAnyIn_ready (rs:=[7]) (by kernel_rfl) (by simp) ?_
           refine AllReadyIn.cons rfl (fun K hK=>?_) ?_
           ·go_simp
            refine hK _ _ ?_
            clear hK K
            refine wpAnyIn_done (by kernel_rfl) ?_ _
            gi_wp2
            exact⟨FIN.out.1,rfl,FIN.out.2.2⟩
           exact AllReadyIn.nil
          exact AllReadyIn.nil
         exact AllReadyIn.nil
        exact AllReadyIn.nil
       exact AllReadyIn.nil
      exact AllReadyIn.nil
     exact AllReadyIn.nil
    refine AllReadyIn.cons rfl (fun K hK=>?_) ?_
    ·go_simp
     refine hK _ _ ?_
     clear hK K
     refine wpAnyIn_ready (rs:=[0,3]) (by kernel_rfl) (by simp) ?_
     refine AllReadyIn.cons rfl (fun K hK=>?_) ?_
     ·go_simp
      refine hK _ _ ?_
      clear hK K
      refine wpAnyIn_ready (rs:=[1,3]) (by kernel_rfl) (by simp) ?_
      refine AllReadyIn.cons rfl (fun K hK=>?_) ?_
      ·go_simp
       refine hK _ _ ?_
       clear hK K
       refine wpAnyIn_ready (rs:=[3,5]) (by kernel_rfl) (by simp) ?_
       refine AllReadyIn.cons rfl (fun K hK=>?_) ?_
       ·go_simp
        refine hK _ _ ?_
        clear hK K
        refine wpAnyIn_ready (rs:=[4,5]) (by kernel_rfl) (by simp) ?_
        refine AllReadyIn.cons rfl (fun K hK=>?_) ?_
        ·go_simp
         refine hK _ _ ?_
         clear hK K
         refine wpAnyIn_ready (rs:=[5]) (by kernel_rfl) (by simp) ?_
         refine AllReadyIn.cons rfl (fun K hK=>?_) ?_
         ·go_simp
          refine hK _ _ ?_
          clear hK K
          refine wpAnyIn_ready (rs:=[6]) (by kernel_rfl) (by simp) ?_
          refine AllReadyIn.cons rfl (fun K hK=>?_) ?_
          ·go_simp
           refine hK _ _ ?_
           clear hK K
           refine wpAnyIn_ready (rs:=[7]) (by kernel_rfl) (by simp) ?_
           refine AllReadyIn.cons rfl (fun K hK=>?_) ?_
           ·go_simp
            refine hK _ _ ?_
            clear hK K
            refine wpAnyIn_done (by kernel_rfl) ?_ _
            gi_wp2
            exact⟨FIN.out.1,rfl,FIN.out.2.2⟩
           exact AllReadyIn.nil
          exact AllReadyIn.nil
         exact AllReadyIn.nil
        refine AllReadyIn.cons rfl (fun K hK=>?_) ?_
        ·go_simp
         refine hK _ _ ?_
         clear hK K
         refine wpAnyIn_ready (rs:=[4]) (by kernel_rfl) (by simp) ?_
         refine AllReadyIn.cons rfl (fun K hK=>?_) ?_
         ·go_simp
          refine hK _ _ ?_
          clear hK K
          refine wpAnyIn_ready (rs:=[6]) (by kernel_rfl) (by simp) ?_
          refine AllReadyIn.cons rfl (fun K hK=>?_) ?_
          ·go_simp
           refine hK _ _ ?_
           clear hK K
           refine wpAnyIn_ready (rs:=[7]) (by kernel_rfl) (by simp) ?_
           refine AllReadyIn.cons rfl (fun K hK=>?_) ?_
           ·go_simp
            refine hK _ _ ?_
            clear hK K
            refine wpAnyIn_done (by kernel_rfl) ?_ _
            gi_wp2
            exact⟨FIN.out.1,rfl,FIN.out.2.2⟩
           exact AllReadyIn.nil
          exact AllReadyIn.nil
         exact AllReadyIn.nil
        exact AllReadyIn.nil
       refine AllReadyIn.cons rfl (fun K hK=>?_) ?_
       ·go_simp
        refine hK _ _ ?_
        clear hK K
        refine wpAnyIn_ready (rs:=[3]) (by kernel_rfl) (by simp) ?_
        refine AllReadyIn.cons rfl (fun K hK=>?_) ?_
        ·go_simp
         refine hK _ _ ?_
         clear hK K
         refine wpAnyIn_ready (rs:=[4]) (by kernel_rfl) (by simp) ?_
         refine AllReadyIn.cons rfl (fun K hK=>?_) ?_
         ·go_simp
          refine hK _ _ ?_
          clear hK K
          refine wpAnyIn_ready (rs:=[6]) (by kernel_rfl) (by simp) ?_
          refine AllReadyIn.cons rfl (fun K hK=>?_) ?_
          ·go_simp
           refine hK _ _ ?_
           clear hK K
           refine wpAnyIn_ready (rs:=[7]) (by kernel_rfl) (by simp) ?_
           refine AllReadyIn.cons rfl (fun K hK=>?_) ?_
           ·go_simp
            refine hK _ _ ?_
            clear hK K
            refine wpAnyIn_done (by kernel_rfl) ?_ _
            gi_wp2
            exact⟨FIN.out.1,rfl,FIN.out.2.2⟩
           exact AllReadyIn.nil
          exact AllReadyIn.nil
         exact AllReadyIn.nil
        exact AllReadyIn.nil
       exact AllReadyIn.nil
      refine AllReadyIn.cons rfl (fun K hK=>?_) ?_
      ·go_simp
       refine hK _ _ ?_
       clear hK K
       refine wpAnyIn_ready (rs:=[1,4]) (by kernel_rfl) (by simp) ?_
       refine AllReadyIn.cons rfl (fun K hK=>?_) ?_
       ·go_simp
        refine hK _ _ ?_
        clear hK K
        refine wpAnyIn_ready (rs:=[4,5]) (by kernel_rfl) (by simp) ?_
        refine AllReadyIn.cons rfl (fun K hK=>?_) ?_
        ·go_simp
         refine hK _ _ ?_
         clear hK K
         refine wpAnyIn_ready (rs:=[5]) (by kernel_rfl) (by simp) ?_
         refine AllReadyIn.cons rfl (fun K hK=>?_) ?_
         ·go_simp
          refine hK _ _ ?_
          clear hK K
          refine wpAnyIn_ready (rs:=[6]) (by kernel_rfl) (by simp) ?_
          refine AllReadyIn.cons rfl (fun K hK=>?_) ?_
          ·go_simp
           refine hK _ _ ?_
           clear hK K
           refine wpAnyIn_ready (rs:=[7]) (by kernel_rfl) (by simp) ?_
           refine AllReadyIn.cons rfl (fun K hK=>?_) ?_
           ·go_simp
            refine hK _ _ ?_
            clear hK K
            refine wpAnyIn_done (by kernel_rfl) ?_ _
            gi_wp2
            exact⟨FIN.out.1,rfl,FIN.out.2.2⟩
           exact AllReadyIn.nil
          exact AllReadyIn.nil
         exact AllReadyIn.nil
        refine AllReadyIn.cons rfl (fun K hK=>?_) ?_
        ·go_simp
         refine hK _ _ ?_
         clear hK K
         refine wpAnyIn_ready (rs:=[4]) (by kernel_rfl) (by simp) ?_
         refine AllReadyIn.cons rfl (fun K hK=>?_) ?_
         ·go_simp
          refine hK _ _ ?_
          clear hK K
          refine wpAnyIn_ready (rs:=[6]) (by kernel_rfl) (by simp) ?_
          refine AllReadyIn.cons rfl (fun K hK=>?_) ?_
          ·go_simp
           refine hK _ _ ?_
           clear hK K
           refine wpAnyIn_ready (rs:=[7]) (by kernel_rfl) (by simp) ?_
           refine AllReadyIn.cons rfl (fun K hK=>?_) ?_
           ·go_simp
            refine hK _ _ ?_
            clear hK K
            refine wpAnyIn_done (by kernel_rfl) ?_ _
            gi_wp2
            exact⟨FIN.out.1,rfl,FIN.out.2.2⟩
           exact AllReadyIn.nil
          exact AllReadyIn.nil
         exact AllReadyIn.nil
        exact AllReadyIn.nil
       refine AllReadyIn.cons rfl (fun K hK=>?_) ?_
       ·go_simp
        refine hK _ _ ?_
        clear hK K
        refine wpAnyIn_ready (rs:=[1]) (by kernel_rfl) (by simp) ?_
        refine AllReadyIn.cons rfl (fun K hK=>?_) ?_
        ·go_simp
         refine hK _ _ ?_
         clear hK K
         refine wpAnyIn_ready (rs:=[5]) (by kernel_rfl) (by simp) ?_
         refine AllReadyIn.cons rfl (fun K hK=>?_) ?_
         ·go_simp
          refine hK _ _ ?_
          clear hK K
          refine wpAnyIn_ready (rs:=[6]) (by kernel_rfl) (by simp) ?_
          refine AllReadyIn.cons rfl (fun K hK=>?_) ?_
          ·go_simp
           refine hK _ _ ?_
           clear hK K
           refine wpAnyIn_ready (rs:=[7]) (by kernel_rfl) (by simp) ?_
           refine AllReadyIn.cons rfl (fun K hK=>?_) ?_
           ·go_simp
            refine hK _ _ ?_
            clear hK K
            refine wpAnyIn_done (by kernel_rfl) ?_ _
            gi_wp2
            exact⟨FIN.out.1,rfl,FIN.out.2.2⟩
           exact AllReadyIn.nil
          exact AllReadyIn.nil
         exact AllReadyIn.nil
        exact AllReadyIn.nil
       exact AllReadyIn.nil
      exact AllReadyIn.nil
     refine AllReadyIn.cons rfl (fun K hK=>?_) ?_
     ·go_simp
      refine hK _ _ ?_
      clear hK K
      refine wpAnyIn_ready (rs:=[0,4]) (by kernel_rfl) (by simp) ?_
      refine AllReadyIn.cons rfl (fun K hK=>?_) ?_
      ·go_simp
       refine hK _ _ ?_
       clear hK K
       refine wpAnyIn_ready (rs:=[1,4]) (by kernel_rfl) (by simp) ?_
       refine AllReadyIn.cons rfl (fun K hK=>?_) ?_
       ·go_simp
        refine hK _ _ ?_
        clear hK K
        refine wpAnyIn_ready (rs:=[4,5]) (by kernel_rfl) (by simp) ?_
        refine AllReadyIn.cons rfl (fun K hK=>?_) ?_
        ·go_simp
         refine hK _ _ ?_
         clear hK K
         refine wpAnyIn_ready (rs:=[5]) (by kernel_rfl) (by simp) ?_
         refine AllReadyIn.cons rfl (fun K hK=>?_) ?_
         ·go_simp
          refine hK _ _ ?_
          clear hK K
          refine wpAnyIn_ready (rs:=[6]) (by kernel_rfl) (by simp) ?_
          refine AllReadyIn.cons rfl (fun K hK=>?_) ?_
          ·go_simp
           refine hK _ _ ?_
           clear hK K
           refine wpAnyIn_ready (rs:=[7]) (by kernel_rfl) (by simp) ?_
           refine AllReadyIn.cons rfl (fun K hK=>?_) ?_
           ·go_simp
            refine hK _ _ ?_
            clear hK K
            refine wpAnyIn_done (by kernel_rfl) ?_ _
            gi_wp2
            exact⟨FIN.out.1,rfl,FIN.out.2.2⟩
           exact AllReadyIn.nil
          exact AllReadyIn.nil
         exact AllReadyIn.nil
        refine AllReadyIn.cons rfl (fun K hK=>?_) ?_
        ·go_simp
         refine hK _ _ ?_
         clear hK K
         refine wpAnyIn_ready (rs:=[4]) (by kernel_rfl) (by simp) ?_
         refine AllReadyIn.cons rfl (fun K hK=>?_) ?_
         ·go_simp
          refine hK _ _ ?_
          clear hK K
          refine wpAnyIn_ready (rs:=[6]) (by kernel_rfl) (by simp) ?_
          refine AllReadyIn.cons rfl (fun K hK=>?_) ?_
          ·go_simp
           refine hK _ _ ?_
           clear hK K
           refine wpAnyIn_ready (rs:=[7]) (by kernel_rfl) (by simp) ?_
           refine AllReadyIn.cons rfl (fun K hK=>?_) ?_
           ·go_simp
            refine hK _ _ ?_
            clear hK K
            refine wpAnyIn_done (by kernel_rfl) ?_ _
            gi_wp2
            exact⟨FIN.out.1,rfl,FIN.out.2.2⟩
           exact AllReadyIn.nil
          exact AllReadyIn.nil
         exact AllReadyIn.nil
        exact AllReadyIn.nil
       refine AllReadyIn.cons rfl (fun K hK=>?_) ?_
       ·go_simp
        refine hK _ _ ?_
        clear hK K
        refine wpAnyIn_ready (rs:=[1]) (by kernel_rfl) (by simp) ?_
        refine AllReadyIn.cons rfl (fun K hK=>?_) ?_
        ·go_simp
         refine hK _ _ ?_
         clear hK K
         refine wpAnyIn_ready (rs:=[5]) (by kernel_rfl) (by simp) ?_
         refine AllReadyIn.cons rfl (fun K hK=>?_) ?_
         ·go_simp
          refine hK _ _ ?_
          clear hK K
          refine wpAnyIn_ready (rs:=[6]) (by kernel_rfl) (by simp) ?_
          refine AllReadyIn.cons rfl (fun K hK=>?_) ?_
          ·go_simp
           refine hK _ _ ?_
           clear hK K
           refine wpAnyIn_ready (rs:=[7]) (by kernel_rfl) (by simp) ?_
           refine AllReadyIn.cons rfl (fun K hK=>?_) ?_
           ·go_simp
            refine hK _ _ ?_
            clear hK K
            refine wpAnyIn_done (by kernel_rfl) ?_ _
            gi_wp2
            exact⟨FIN.out.1,rfl,FIN.out.2.2⟩
           exact AllReadyIn.nil
          exact AllReadyIn.nil
         exact AllReadyIn.nil
        exact AllReadyIn.nil
       exact AllReadyIn.nil
      refine AllReadyIn.cons rfl (fun K hK=>?_) ?_
      ·go_simp
       refine hK _ _ ?_
       clear hK K
       refine wpAnyIn_ready (rs:=[0]) (by kernel_rfl) (by simp) ?_
       refine AllReadyIn.cons rfl (fun K hK=>?_) ?_
       ·go_simp
        refine hK _ _ ?_
        clear hK K
        refine wpAnyIn_ready (rs:=[1]) (by kernel_rfl) (by simp) ?_
        refine AllReadyIn.cons rfl (fun K hK=>?_) ?_
        ·go_simp
         refine hK _ _ ?_
         clear hK K
         refine wpAnyIn_ready (rs:=[5]) (by kernel_rfl) (by simp) ?_
         refine AllReadyIn.cons rfl (fun K hK=>?_) ?_
         ·go_simp
          refine hK _ _ ?_
          clear hK K
          refine wpAnyIn_ready (rs:=[6]) (by kernel_rfl) (by simp) ?_
          refine AllReadyIn.cons rfl (fun K hK=>?_) ?_
          ·go_simp
           refine hK _ _ ?_
           clear hK K
           refine wpAnyIn_ready (rs:=[7]) (by kernel_rfl) (by simp) ?_
           refine AllReadyIn.cons rfl (fun K hK=>?_) ?_
           ·go_simp
            refine hK _ _ ?_
            clear hK K
            refine wpAnyIn_done (by kernel_rfl) ?_ _
            gi_wp2
            exact⟨FIN.out.1,rfl,FIN.out.2.2⟩
           exact AllReadyIn.nil
          exact AllReadyIn.nil
         exact AllReadyIn.nil
        exact AllReadyIn.nil
       exact AllReadyIn.nil
      exact AllReadyIn.nil
     exact AllReadyIn.nil
    exact AllReadyIn.nil
  case stop=>
   rintro D c pre W hD ⟨j,hj,rfl⟩ ⟨rfl,pre',x,e1,e2,e3,hF,q1,q2,q3⟩ hK
   rw[bwL_succ] at e1
   obtain⟨e4,e5⟩:=List.append_inj' e1 rfl
   injection e5 with e5
   subst e4 e5
   have hfd:=bw_some (p:=fun p=>sx p.key == k) hj (fun y hy=>by rw[← q3t];exact e2 y hy) (by rw[← q3t];exact e3)
   have HG:=LH (HOW.out _ hfd)
   have hdl:W.heap.size > D:=(Array.getElem?_eq_some_iff.1 hK).1
   have hput:Fr (fun b=>w3.heap.size≤b) W (W.putObj D (.deferred none)):=Fr.of_grown (grownBy_putObj' W D (.deferred none)) (fun r e=>by cases e;exact hD)
   have hF2:Fr (fun b=>(kb<b∧b<kb+4)∨w2.heap.size≤b) w2 (W.putObj D (.deferred none)):=by
    have a1:Fr (fun b=>(kb<b∧b<kb+4)∨w2.heap.size≤b) w2 w3:=(q06 HB3.out).mono (fun b _ h=>.inr h)
    exact(a1.trans' hF (fun b _ h=>h.imp id (fun h=>by have:=HSZ.out;omega))).trans' hput (fun b _ h=>.inr (by have:=HSZ.out;omega))
   have hG:=GsP.boxes (g:=kb) HI2.out HZ2.out (fun j hj=>by
    have:j=0∨j=1∨j=2∨j=3:=by omega
    rcases this with rfl|rfl|rfl|rfl
    ·exact KK0.out.2
    ·exact KK1.out.2
    ·exact KK2.out.2
    ·exact KK3.out.2) (by have:=HKW.out;omega) hF2
   have hlt:kb+3<w3.heap.size:=by have:=HSZ.out;omega
   have g1:=(hput.blk q1 (by omega)).cell 0
   have g2:=(hput.blk q2 (by omega)).cell 0
   have g3:=(hput.blk q3 (by omega)).cell 0
   rw[← HA.out]
   gi_wp2
   refine⟨by simp,.inl ⟨_,_,rfl,run_takeDeferred hK,?_⟩⟩
   refine⟨_,get_res rfl rfl rfl g1 g2 g3,?_⟩
   unfold GetP
   rw[HG.out]
   exact⟨by show Ending.returned (Value.tuple #[.string _,.bool _,.nilIface])=Ending.returned (Value.tuple #[.string ⟨(sx _).toArray⟩,.bool _,erV 0]);rw[mk_sx];rfl,hG⟩
  case done=>
   rintro D ys W hD rfl ⟨hp,hb⟩ hK
   have hfd:=bw_none (p:=fun p=>sx p.key == k) (fun y hy=>by rw[← q3t];exact hp y hy)
   have HG:=LH (HST.out hfd)
   have hdl:W.heap.size > D:=(Array.getElem?_eq_some_iff.1 hK).1
   obtain⟨⟨k0c,k0l⟩,k1b,k2b,k3b⟩:=KBX.out W hb
   rw[← HA.out]
   have hIW:HI W own2 P H2:=HI2.out.below (HB3.out.trans (hb.mono (by have:=HSZ.out;omega)))
   have HGT:=LH (hget_any (hIW.below (Below.refl W.heap.size W).drew) (s:=q00 k) (by rw[hc2];have:=q18 k;omega) k (q1n hk))
   have hHF:Fr (fun b=>(kb<b∧b<kb+4)∨w2.heap.size≤b) w2 W:=((q06 HB3.out).mono (T:=fun b=>(kb<b∧b<kb+4)∨w2.heap.size≤b) (fun b _ h=>.inr h)).trans' (q06 hb) (fun b _ h=>.inr (by have:=HSZ.out;omega))
   have HHF:=LH hHF
   have HK1:=LH k1b
   have HK2:=LH k2b
   have HK3:=LH k3b
   have hlt:kb+3<W.heap.size:=k3b.lt
   have hltw2:kb+3<w2.heap.size:=e3
   have HKD:=LH hK
   generalize htv:tellV (getV ((H2.sh (q00 k)).sto k) 1099511627776)=tv at *
   clear hIW hHF htv hfd k1b k2b k3b d0 d1 d2 d3 e0 e1 e2 e3 f1 f2 f3 m2 ml hp hb hc3 hrb HRO hK
   go_upto_region 8 with (fail)
   refine wp_noPanic ?_
   refine wp_region_any (by kernel_rfl) ?_
   change wpAny _ _ _ _ _ _ _ (World.drew _)
   refine q0e (fun W'=>W'.cell? ⟨kb,0,none⟩=some (.string ⟨k.toArray⟩)∧kb<W'.heap.size) 8 (fun c _ _ _ _ h=>absurd rfl (h.2 c)) (fun HQP=>?_)
   have HCC:W.drew.cell? ⟨kb,0,none⟩=some (.string ⟨k.toArray⟩)∧kb<W.drew.heap.size:=⟨k0c,k0l⟩
   refine nA 0 [1,2,4,5,6,7,8,9,10] rfl rfl HQP HCC (fun w' hw'=>by go_simp;rfl) ?_
   refine nA 1 [2,4,5,6,7,8,9,10] rfl rfl HQP HCC (fun w' hw'=>by go_simp;rfl) ?_
   refine nA 2 [4,5,6,7,8,9,10] rfl rfl HQP HCC (fun w' hw'=>by go_simp;rfl) ?_
   refine nA 3 [4,5,6,7,8,9,10] rfl rfl HQP HCC (fun w' hw'=>by obtain⟨p1,pl⟩:=hw';go_simp;rfl) ?_
   refine nO 4 rfl (fun KK hK=>?_)
   go_simp
   refine HGT.out.mono ?_
   rintro e w5 ⟨rfl,hb5⟩
   have hb5':Below W.heap.size W w5:=(Below.refl W (B:=W.heap.size)).drew.trans hb5
   have hF5:=q06 hb5'
   have C5:=LH (show w5.cell? ⟨kb,0,none⟩=some (.string ⟨k.toArray⟩)∧kb<w5.heap.size from⟨(hb5'.cell (p:=⟨kb,0,none⟩) k0l).trans k0c,Nat.lt_of_lt_of_le k0l hb5'.size⟩)
   have g1:=hF5.blk HK1.out (by omega)
   have g2:=hF5.blk HK2.out (by omega)
   have g3:=hF5.blk HK3.out (by omega)
   have u1:=g1.cell 0
   have u2:=g2.cell 0
   have u3:=g3.cell 0
   have v1:=g1.frozen 0
   have v2:=g2.frozen 0
   have v3:=g3.frozen 0
   simp only[List.getElem?_toArray,List.getElem?_cons_zero] at u1 u2 u3
   have l1:=g1.lt
   have l2:=g2.lt
   have l3:=g3.lt
   have hS:Fr (fun b=>(kb<b∧b<kb+4)∨w2.heap.size≤b) w2 (((w5.setCell ⟨kb+1,0,none⟩ (.string ⟨tv.1.toArray⟩)).setCell ⟨kb+2,0,none⟩ (.bool tv.2)).setCell ⟨kb+3,0,none⟩ .nilIface):=
    (((HHF.out.trans' hF5 (fun b hb2 h=>absurd h (by have:=HHF.out.size;omega))).setCell (p:=⟨kb+1,0,none⟩) (.inl (.inl ⟨by show kb<kb+1;omega,by show kb+1<kb+4;omega⟩)) _).setCell (p:=⟨kb+2,0,none⟩) (.inl (.inl ⟨by show kb<kb+2;omega,by show kb+2<kb+4;omega⟩)) _).setCell (p:=⟨kb+3,0,none⟩) (.inl (.inl ⟨by show kb<kb+3;omega,by show kb+3<kb+4;omega⟩)) _
   have r1:=(Fr.set1 (kb+3) _ 0 .nilIface).blk ((Fr.set1 (kb+2) _ 0 (.bool tv.2)).blk (g1.set_ 0 (.string ⟨tv.1.toArray⟩)) (by omega)) (by omega)
   have r2:=(Fr.set1 (kb+3) _ 0 .nilIface).blk (((Fr.set1 (kb+1) _ 0 (.string ⟨tv.1.toArray⟩)).blk g2 (by omega)).set_ 0 (.bool tv.2)) (by omega)
   have r3:=((Fr.set1 (kb+2) _ 0 (.bool tv.2)).blk ((Fr.set1 (kb+1) _ 0 (.string ⟨tv.1.toArray⟩)).blk g3 (by omega)) (by omega)).set_ 0 .nilIface
   have hkd:(((w5.setCell ⟨kb+1,0,none⟩ (.string ⟨tv.1.toArray⟩)).setCell ⟨kb+2,0,none⟩ (.bool tv.2)).setCell ⟨kb+3,0,none⟩ .nilIface).heap[D]? = some (.deferred (some [])):=by
    have hS5:Fr (fun b=>kb<b∧b<kb+4) w5 (((w5.setCell ⟨kb+1,0,none⟩ (.string ⟨tv.1.toArray⟩)).setCell ⟨kb+2,0,none⟩ (.bool tv.2)).setCell ⟨kb+3,0,none⟩ .nilIface):=
     (((Fr.refl _ w5).setCell (p:=⟨kb+1,0,none⟩) (.inl ⟨by show kb<kb+1;omega,by show kb+1<kb+4;omega⟩) _).setCell (p:=⟨kb+2,0,none⟩) (.inl ⟨by show kb<kb+2;omega,by show kb+2<kb+4;omega⟩) _).setCell (p:=⟨kb+3,0,none⟩) (.inl ⟨by show kb<kb+3;omega,by show kb+3<kb+4;omega⟩) _
    rw[hS5.block D (Nat.lt_of_lt_of_le hdl hb5'.size) (by have:=HSZ.out;omega),hb5'.block D hdl]
    exact HKD.out
   have HS:=LH hS
   have HR1:=LH r1
   have HR2:=LH r2
   have HR3:=LH r3
   have HKE:=LH hkd
   clear hS r1 r2 r3 hkd g1 g2 g3 hF5 hb5 hb5'
   have HCC:w5.cell? ⟨kb,0,none⟩=some (.string ⟨k.toArray⟩)∧kb<w5.heap.size:=C5.out
   go_simp
   refine hK _ _ (fun _=>C5.out) ?_
   clear hK KK
   refine nA 5 [8,9,10] rfl rfl HQP HCC (fun w' hw'=>by go_simp;rfl) ?_
   refine nA 6 [8,9,10] rfl rfl HQP HCC (fun w' hw'=>by go_simp;rfl) ?_
   refine nA 7 [8,9,10] rfl rfl HQP HCC (fun w' hw'=>by go_simp;rfl) ?_
   refine nO 8 rfl (fun KK hK=>?_)
   go_simp
   refine hK _ _ (fun h=>absurd h (by decide)) ?_
   clear hK KK
   refine nO 9 rfl (fun KK hK=>?_)
   go_simp
   refine hK _ _ (fun h=>absurd h (by decide)) ?_
   clear hK KK
   refine nO 10 rfl (fun KK hK=>?_)
   go_simp
   refine hK _ _ (fun h=>absurd h (by decide)) ?_
   clear hK KK
   refine ndone (by kernel_rfl) ?_ _
   refine⟨?_,fun c h=>by cases h⟩
   clear HQP u1 u2 u3 v1 v2 v3 l1 l2 l3 HCC k0c k0l
   go_wp2_with fail
   have hput:Fr (fun b=>b=D) _ (World.putObj _ D (.deferred none)):=Fr.of_grown (grownBy_putObj' (((w5.setCell ⟨kb+1,0,none⟩ (.string ⟨tv.1.toArray⟩)).setCell ⟨kb+2,0,none⟩ (.bool tv.2)).setCell ⟨kb+3,0,none⟩ .nilIface) D (.deferred none)) (fun r e=>by cases e;rfl)
   have hDk:kb+3<D:=by have:=HSZ.out;omega
   have hG:=GsP.boxes (g:=kb) HI2.out HZ2.out (fun j hj=>by
    have:j=0∨j=1∨j=2∨j=3:=by omega
    rcases this with rfl|rfl|rfl|rfl
    ·exact KK0.out.2
    ·exact KK1.out.2
    ·exact KK2.out.2
    ·exact KK3.out.2) (by have:=HKW.out;omega) (HS.out.trans' hput (fun b _ (h:b=D)=>.inr (by have:=HSZ.out;omega)))
   have g1:=(hput.blk HR1.out (by omega)).cell 0
   have g2:=(hput.blk HR2.out (by omega)).cell 0
   have g3:=(hput.blk HR3.out (by omega)).cell 0
   refine⟨by simp,.inl ⟨_,_,rfl,run_takeDeferred HKE.out,?_⟩⟩
   refine⟨_,get_res rfl rfl rfl g1 g2 g3,?_⟩
   unfold GetP
   rw[HG.out]
   exact⟨rfl,hG⟩
 ·rw[show lkV P id k er=.tuple #[.pointer none,.pointer none,.iface 79 (.int .i64 er)] from by unfold lkV;rw[if_neg he]]
  have hF:Fr (fun x=>(kb<x∧x<kb+4)∨w2.heap.size≤x) w2 (((w2.setCell ⟨kb+1,0,none⟩ (.string ⟨#[]⟩)).setCell ⟨kb+2,0,none⟩ (.bool false)).setCell ⟨kb+3,0,none⟩ (.iface 79 (.int .i64 er))):=
   (((Fr.refl _ w2).setCell (p:=⟨kb+1,0,none⟩) (.inl (.inl ⟨by show kb<kb+1;omega,by show kb+1<kb+4;omega⟩)) _).setCell (p:=⟨kb+2,0,none⟩) (.inl (.inl ⟨by show kb<kb+2;omega,by show kb+2<kb+4;omega⟩)) _).setCell (p:=⟨kb+3,0,none⟩) (.inl (.inl ⟨by show kb<kb+3;omega,by show kb+3<kb+4;omega⟩)) _
  have hG:=GsP.boxes (g:=kb) HI2.out HZ2.out (fun j hj=>by
   have:j=0∨j=1∨j=2∨j=3:=by omega
   rcases this with rfl|rfl|rfl|rfl
   ·exact KK0.out.2
   ·exact KK1.out.2
   ·exact KK2.out.2
   ·exact KK3.out.2) (by have:=HKW.out;omega) hF
  have HGG:=LH hG
  have q1:=((Fr.set1 (kb+3) _ 0 (.iface 79 (.int .i64 er))).blk ((Fr.set1 (kb+2) _ 0 (.bool false)).blk (KK1.out.1.set_ 0 (.string ⟨#[]⟩)) (by omega)) (by omega)).cell 0
  have q2:=((Fr.set1 (kb+3) _ 0 (.iface 79 (.int .i64 er))).blk (((Fr.set1 (kb+1) _ 0 (.string ⟨#[]⟩)).blk KK2.out.1 (by omega)).set_ 0 (.bool false)) (by omega)).cell 0
  have q3:=(((Fr.set1 (kb+2) _ 0 (.bool false)).blk ((Fr.set1 (kb+1) _ 0 (.string ⟨#[]⟩)).blk KK3.out.1 (by omega)) (by omega)).set_ 0 (.iface 79 (.int .i64 er))).cell 0
  have Q1:=LH q1
  have Q2:=LH q2
  have Q3:=LH q3
  have HNO:=LH (hno he)
  have HEV:=LH (show erV er=.iface 79 (.int .i64 er) from by unfold erV;rw[if_neg he])
  clear hF hG q1 q2 q3 hr hlf hlz hno HOWN HSTO he
  go_wp2_with fail
  refine⟨_,get_res rfl rfl rfl Q1.out Q2.out Q3.out,?_⟩
  unfold GetP
  rw[HNO.out]
  exact⟨by rw[HEV.out];rfl,HGG.out⟩
end
end
end Go.Proofs.YtccahlhdifadfaaGreatDoor
